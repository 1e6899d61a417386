/- What the law FnDismantlings leans on, part 5: an interpreter of the model as plain data, its soundness, the functions as it tells them, and their laws. -/
import Derived.Test.YtjniohefdfbeoaaGreatProg
import Derived.Test.YtjniohefdfbeoaaGreatVD
set_option linter.unusedVariables false
set_option linter.unusedSimpArgs false
set_option maxRecDepth 100000
noncomputable section
namespace Go.V.W
open Go.Proofs
abbrev I:Kd:=.int .i64
abbrev K_Su8:Kd:=.slice (.int .u8)
abbrev Av1:Kd:=.pair (.int .u64) .unit
abbrev Aqj:Kd:=.pair I Av1
abbrev BF:Kd:=.pair K_Su8 Aqj
abbrev AW:Kd:=.bx BF
abbrev ABx:Kd:=.pair I .unit
abbrev Aj:Kd:=.pair I ABx
abbrev Bw:Kd:=.slice Aj
abbrev Ahd:Kd:=.pair Bw .unit
abbrev Ac:Kd:=.pair I Ahd
abbrev Af:Kd:=.slice I
abbrev AL:Kd:=.pair Af .unit
abbrev Kl:Kd:=.bx AL
abbrev Yj:Kd:=.bx I
abbrev Api:Kd:=.pair Yj .unit
abbrev Xk:Kd:=.pair Kl Api
abbrev Br:Kd:=.clo 152 .unit Xk
abbrev AH:Kd:=.slice Af
abbrev Abh:Kd:=.bx AH
abbrev Amk:Kd:=.pair Abh .unit
abbrev Tk:Kd:=.pair Kl Amk
abbrev PR:Kd:=.pair Yj Tk
abbrev Bn:Kd:=.clo 194 .unit PR
abbrev D0:Kd:=.clo 68 .unit .unit
abbrev Ft:Kd:=.clo 144 .unit .unit
abbrev AB8:Kd:=.ssl I
abbrev Ax5:Kd:=.pair AB8 .unit
abbrev AAu:Kd:=.ssl Af
abbrev Atd:Kd:=.pair AH .unit
abbrev Ab9:Kd:=.pair AH Atd
abbrev Tm:Kd:=.pair AAu Ab9
abbrev AC:Kd:=.pair Ax5 Tm
abbrev AQ:Kd:=.bx AC
abbrev DC:Kd:=.bx AQ
abbrev G9:Kd:=.pair DC Api
abbrev AZ:Kd:=.clo 164 .unit G9
def tks:List (Nat×Kd):=[(3,I),(4,.bool),(5,(.int .u8)),(22,Bw),(26,AH),(29,Ac),(36,K_Su8),(45,Af),(64,AL),(70,(.int .u64)),(72,BF),(80,Aj),(119,AC),(142,(.int .u64))]
def ars:List (Nat×Nat):=[(80,3)]
def UB:Ctx:={ tk:=Ad tks,ar:=Ad ars,fs:=Ad [] }
def GQ (N:Nat) (d:List Int×Unit):Option (Bool×Unit):=
 let a0:=d.1
 some ((decide ((List.length a0:Int)>(65536:Int)),()))
def Ea (d:List Int×Unit):Bool×Unit:=
 let a0:=d.1
 ((decide ((List.length a0:Int)>(65536:Int)),()))
theorem P0 (N:Nat) (d):GQ N d=some (Ea d):=by
 unfold GQ Ea
 first
  | rfl
  | (dsimp only; (repeat' split)<;>rfl)
def PB:FSig:=⟨[(K_Su8,false)],[.bool],true,(fun d=>some (Ea d))⟩
def Avo:Ctx:={ tk:=Ad tks,ar:=Ad ars,fs:=Ad [],lent:=fun t=>Nat.beq t 0 }
def O4 (N:Nat) (d:(List Int×Int×Int×Unit)×Unit):Option (Int×(List Int×Int×Int×Unit)×Unit):=
 let a0:=d.1
 if (decide (a0.2.1<(List.length a0.1:Int)))=true then
  if (Ak a0.2.1 (List.length a0.1))=true then
  let x1:=IntKind.wrap .i64 (at_ (.int .u8) a0.1 a0.2.1.toNat)
  let x2:=IntKind.wrap .i64 (a0.2.1+(1:Int))
  let x3:=IntKind.wrap .u64 (a0.2.2.1*(6364136223846793005:Int))
  let x4:=IntKind.wrap .u64 (x3+IntKind.wrap .u64 x1)
  let x5:=IntKind.wrap .u64 (x4+(462197:Int))
  if (decide (x2<=(List.length a0.1:Int)))=true then
   some ((x1,((a0.1,(x2,(x5,a0.2.2.2))),())))
  else
   if (decide (0<=(40:Int)))=true then
   let x6:=bits .and .u64 (shr .u64 x5 (40:Int)) (255:Int)
   some ((IntKind.wrap .i64 x6,((a0.1,(x2,(x5,a0.2.2.2))),())))
   else none
  else none
 else
  let x7:=IntKind.wrap .i64 (a0.2.1+(1:Int))
  let x8:=IntKind.wrap .u64 (a0.2.2.1*(6364136223846793005:Int))
  let x9:=IntKind.wrap .u64 (x8+IntKind.wrap .u64 (0:Int))
  let x10:=IntKind.wrap .u64 (x9+(462197:Int))
  if (decide (x7<=(List.length a0.1:Int)))=true then
   some (((0:Int),((a0.1,(x7,(x10,a0.2.2.2))),())))
  else
   if (decide (0<=(40:Int)))=true then
   let x11:=bits .and .u64 (shr .u64 x10 (40:Int)) (255:Int)
   some ((IntKind.wrap .i64 x11,((a0.1,(x7,(x10,a0.2.2.2))),())))
   else none
def Am9:FSig:=⟨[(AW,true)],[I],true,(O4 0)⟩
def Ar7:Ctx:={ tk:=Ad tks,ar:=Ad ars,fs:=Ad [(123,Am9)],lent:=fun t=>Nat.beq t 0 }
def CD (N:Nat) (d:(List Int×Int×Int×Unit)×Int×Unit):Option (Int×(List Int×Int×Int×Unit)×Unit):=
 let a0:=d.1
 let a1:=d.2.1
 if (decide (a1<=(1:Int)))=true then
  some (((0:Int),(a0,())))
 else
  ((O4 0) (a0,())).bind fun r1=>
  if (decide (a1>(200:Int)))=true then
   let x2:=IntKind.wrap .i64 (r1.1*(256:Int))
   ((O4 0) (r1.2.1,())).bind fun r3=>
   let x4:=IntKind.wrap .i64 (x2+r3.1)
   if (a1 != 0)=true then
   some ((x4.tmod a1,(r3.2.1,())))
   else none
  else
   if (a1 != 0)=true then
   some ((r1.1.tmod a1,(r1.2.1,())))
   else none
def JJ:FSig:=⟨[(AW,true),(I,false)],[I],true,(CD 0)⟩
def Atu:Ctx:={ tk:=Ad tks,ar:=Ad ars,fs:=Ad [(63,JJ)],lent:=fun t=>Nat.beq t 0 }
def DR (N:Nat) (d:(List Int×Int×Int×Unit)×Int×Unit):Option (Bool×(List Int×Int×Int×Unit)×Unit):=
 let a0:=d.1
 let a1:=d.2.1
 ((CD 0) ((a0,(a1,())))).bind fun r1=>
 some ((r1.1==(0:Int),(r1.2.1,())))
def NO:FSig:=⟨[(AW,true),(I,false)],[.bool],true,(DR 0)⟩
def Asp:Ctx:={ tk:=Ad tks,ar:=Ad ars,fs:=Ad [] }
abbrev MN:=Int×Int×Gr×Int×Unit
abbrev Nj:=(Bool×Unit)⊕Unit⊕Empty
def Ak5:AU:=[(1,.v I),(2,.v I),(3,.box Ac 0),(7,.v I)]
def Aga:AJ:=[(.ret,[(6,.v .bool)]),(.normal,[])]
def KA (N:Nat) (back:MN->Option Nj) (d:MN):Option Nj:=
 let s1:=d.1
 let s2:=d.2.1
 let s3:=d.2.2.1
 let s7:=d.2.2.2.1
 if (decide (s7<(List.length s3.2.1:Int)))=true then
  if (Ak s7 (List.length s3.2.1))=true then
  if ((at_ Aj s3.2.1 s7.toNat).1==s1)=true then
   if ((at_ Aj s3.2.1 s7.toNat).2.1==s2)=true then
    some (.inl (true,()))
   else
    if ((at_ Aj s3.2.1 s7.toNat).1==s2)=true then
     if ((at_ Aj s3.2.1 s7.toNat).2.1==s1)=true then
      some (.inl (true,()))
     else
      let x8:=IntKind.wrap .i64 (s7+(1:Int))
      back ((s1,(s2,(s3,(x8,())))))
    else
     let x9:=IntKind.wrap .i64 (s7+(1:Int))
     back ((s1,(s2,(s3,(x9,())))))
  else
   if ((at_ Aj s3.2.1 s7.toNat).1==s2)=true then
    if ((at_ Aj s3.2.1 s7.toNat).2.1==s1)=true then
     some (.inl (true,()))
    else
     let x10:=IntKind.wrap .i64 (s7+(1:Int))
     back ((s1,(s2,(s3,(x10,())))))
   else
    let x11:=IntKind.wrap .i64 (s7+(1:Int))
    back ((s1,(s2,(s3,(x11,())))))
  else none
 else
  some (.inr (.inl ()))
def Qz (N:Nat):Nat->MN->Option Nj
 | 0,_=>none
 | k+1,d=>KA N (Qz N k) d
def UG (N:Nat) (d:Gr×Int×Int×Unit):Option (Bool×Unit):=
 let a0:=d.1
 let a1:=d.2.1
 let a2:=d.2.2.1
 (Qz N N ((a1,(a2,(a0,((0:Int),())))))).bind fun o5=>match o5 with
 | .inl d6=>
  some (d6.1,())
 | .inr (.inl d7)=>
  some (false,())
def VQ:FSig:=⟨[(Ac,false),(I,false),(I,false)],[.bool],true,(Dm)⟩
def Aup:Ctx:={ tk:=Ad tks,ar:=Ad ars,fs:=Ad [(121,VQ)] }
abbrev Pq:=Int×Gr×List Int×Int×Unit
abbrev Pa:=(List Int×Unit)⊕Empty
def Aij:AU:=[(1,.v I),(2,.box Ac 0),(5,.own Af 99),(6,.v I)]
def Af9:AJ:=[(.normal,[(5,.own Af 99)])]
def Kh (N:Nat) (back:Pq->Option Pa) (d:Pq):Option Pa:=
 let s1:=d.1
 let s2:=d.2.1
 let s5:=d.2.2.1
 let s6:=d.2.2.2.1
 if (decide (s6<s2.1))=true then
  (Dm ((s2,(s1,(s6,()))))).bind fun r6=>
  if (r6.1)=true then
   if (decide (List.length s5+List.length ([s6])<=lim))=true then
   let x7:=IntKind.wrap .i64 (s6+(1:Int))
   back ((s1,(s2,(s5++([s6]),(x7,())))))
   else none
  else
   let x8:=IntKind.wrap .i64 (s6+(1:Int))
   back ((s1,(s2,(s5,(x8,())))))
 else
  some (.inl (s5,()))
def J8 (N:Nat):Nat->Pq->Option Pa
 | 0,_=>none
 | k+1,d=>Kh N (J8 N k) d
def WG (N:Nat) (d:Gr×Int×Unit):Option (List Int×Unit):=
 let a0:=d.1
 let a1:=d.2.1
 (J8 N N ((a1,(a0,(([]:List Int),((0:Int),())))))).bind fun o4=>match o4 with
 | .inl d5=>
  some (d5.1,())
def Amq:FSig:=⟨[(Ac,false),(I,false)],[Af],true,(Dc)⟩
def Avg:Ctx:={ tk:=Ad tks,ar:=Ad ars,fs:=Ad [],cs:=Ad [],gs:=Ad [],eqt:=inL [],md:={ gone:=[0],deep:=[] },cut:=fun t=>bif Nat.beq t 33 then 1 else 0 }
abbrev O8:=List Int×Int×Int×Unit
abbrev NY:=(List Int×Int×Int×Unit)⊕Empty
def Ah7:AU:=[(0,.own Af 1),(1,.v I),(5,.v I)]
def Agu:AJ:=[(.normal,[(0,.own Af 1),(1,.v I),(5,.v I)])]
def Kz (N:Nat) (back:O8->Option NY) (d:O8):Option NY:=
 let s0:=d.1
 let s1:=d.2.1
 let s5:=d.2.2.1
 if (decide (s5<(List.length s0:Int)))=true then
  if (Ak s5 (List.length s0))=true then
  if (decide (at_ I s0 s5.toNat<s1))=true then
   let x8:=IntKind.wrap .i64 (s5+(1:Int))
   back ((s0,(s1,(x8,()))))
  else
   some (.inl ((s0,(s1,(s5,())))))
  else none
 else
  some (.inl ((s0,(s1,(s5,())))))
def Ke (N:Nat):Nat->O8->Option NY
 | 0,_=>none
 | k+1,d=>Kz N (Ke N k) d
def VG (N:Nat) (d:List Int×Int×Unit):Option (List Int×List Int×Unit):=
 let a0:=d.1
 let a1:=d.2.1
 (Ke N N ((a0,(a1,((0:Int),()))))).bind fun o2=>match o2 with
 | .inl d3=>
  if (decide (d3.2.2.1<(List.length d3.1:Int)))=true then
   if (Ak d3.2.2.1 (List.length d3.1))=true then
   if (at_ I d3.1 d3.2.2.1.toNat==d3.2.1)=true then
    some ((d3.1,(([]:List Int),())))
   else
    if ((decide (0<=(0:Int))&&decide ((0:Int)<=d3.2.2.1)&&decide (d3.2.2.1<=(List.length d3.1:Int))))=true then
    if (decide (List.length ([]:List Int)+List.length (B1 d3.1 (0:Int) d3.2.2.1)<=lim))=true then
    let x4:=([]:List Int)++(B1 d3.1 (0:Int) d3.2.2.1)
    if (decide (List.length x4+List.length ([d3.2.1])<=lim))=true then
    if ((decide (0<=d3.2.2.1)&&decide (d3.2.2.1<=(List.length d3.1:Int))&&decide ((List.length d3.1:Int)<=(List.length d3.1:Int))))=true then
    let x5:=B1 d3.1 d3.2.2.1 (List.length d3.1:Int)
    if (decide (List.length (x4++([d3.2.1]))+List.length x5<=lim))=true then
    some (((x4++([d3.2.1]))++x5,(([]:List Int),())))
    else none
    else none
    else none
    else none
    else none
   else none
  else
   if ((decide (0<=(0:Int))&&decide ((0:Int)<=d3.2.2.1)&&decide (d3.2.2.1<=(List.length d3.1:Int))))=true then
   if (decide (List.length ([]:List Int)+List.length (B1 d3.1 (0:Int) d3.2.2.1)<=lim))=true then
   let x6:=([]:List Int)++(B1 d3.1 (0:Int) d3.2.2.1)
   if (decide (List.length x6+List.length ([d3.2.1])<=lim))=true then
   if ((decide (0<=d3.2.2.1)&&decide (d3.2.2.1<=(List.length d3.1:Int))&&decide ((List.length d3.1:Int)<=(List.length d3.1:Int))))=true then
   let x7:=B1 d3.1 d3.2.2.1 (List.length d3.1:Int)
   if (decide (List.length (x6++([d3.2.1]))+List.length x7<=lim))=true then
   some (((x6++([d3.2.1]))++x7,(([]:List Int),())))
   else none
   else none
   else none
   else none
   else none
def Ara:FSig:=⟨[(Af,true),(I,false)],[Af],true,(JB)⟩
def Asu:Ctx:={ tk:=Ad tks,ar:=Ad ars,fs:=Ad [(173,Amq)],cs:=Ad [],gs:=Ad [(159,(Ara,{ gone:=[0],deep:=[] }))],eqt:=inL [],md:=md0 }
def GW (N:Nat) (d:Gr×Int×Unit):Option (List Int×Unit):=
 let a0:=d.1
 let a1:=d.2.1
 (Dc ((a0,(a1,())))).bind fun r1=>
 (JB ((r1.1,(a1,())))).bind fun r2=>
 some (r2.1,())
def RM:FSig:=⟨[(Ac,false),(I,false)],[Af],true,(GW 0)⟩
def Avp:Ctx:={ tk:=Ad tks,ar:=Ad ars,fs:=Ad [] }
def WK (N:Nat) (d:(Int×Int×Unit)×(Int×Int×Unit)×Unit):Option (Bool×Unit):=
 let a0:=d.1
 let a1:=d.2.1
 if (decide (a0.1<a1.1))=true then
  some (true,())
 else
  if (a0.1==a1.1)=true then
   some (decide (a0.2.1<a1.2.1),())
  else
   some (false,())
def IF (d:(Int×Int×Unit)×(Int×Int×Unit)×Unit):Bool×Unit:=
 let a0:=d.1
 let a1:=d.2.1
 if (decide (a0.1<a1.1))=true then
  (true,())
 else
  if (a0.1==a1.1)=true then
   (decide (a0.2.1<a1.2.1),())
  else
   (false,())
theorem ZE (N:Nat) (d):WK N d=some (IF d):=by
 unfold WK IF
 first
  | rfl
  | (dsimp only; (repeat' split)<;>rfl)
def Zx:FSig:=⟨[(Aj,false),(Aj,false)],[.bool],true,(fun d=>some (IF d))⟩
def Tx:Ctx:={ tk:=Ad tks,ar:=Ad ars,fs:=Ad [(131,Zx)] }
abbrev FB:=(List (Int×Int×Unit))×(Int×Int×Unit)×Int×Unit
abbrev Fz:=((List (Int×Int×Unit))×(Int×Int×Unit)×Int×Unit)⊕Empty
def P6:AU:=[(0,.v Bw),(3,.box Aj 99),(5,.v I)]
def Qh:AJ:=[(.normal,[(0,.v Bw),(3,.box Aj 99),(5,.v I)])]
def Da (N:Nat) (back:FB->Option Fz) (d:FB):Option Fz:=
 let s0:=d.1
 let s3:=d.2.1
 let s5:=d.2.2.1
 if (decide (s5<(List.length s0:Int)))=true then
  if (Ak s5 (List.length s0))=true then
  let r7:=IF ((at_ Aj s0 s5.toNat,(s3,())))
  if (r7.1)=true then
   let x8:=IntKind.wrap .i64 (s5+(1:Int))
   back ((s0,(s3,(x8,()))))
  else
   some (.inl ((s0,(s3,(s5,())))))
  else none
 else
  some (.inl ((s0,(s3,(s5,())))))
def EY (N:Nat):Nat->FB->Option Fz
 | 0,_=>none
 | k+1,d=>Da N (EY N k) d
def FT (N:Nat) (d:(List (Int×Int×Unit))×(Int×Int×Unit)×Unit):Option ((List (Int×Int×Unit))×Unit):=
 let a0:=d.1
 let a1:=d.2.1
 (EY N N ((a0,(a1,((0:Int),()))))).bind fun o3=>match o3 with
 | .inl d4=>
  if ((decide (0<=(0:Int))&&decide ((0:Int)<=d4.2.2.1)&&decide (d4.2.2.1<=(List.length d4.1:Int))))=true then
  if (decide (List.length ([]:List (Int×Int×Unit))+List.length (B1 d4.1 (0:Int) d4.2.2.1)<=lim))=true then
  let x5:=([]:List (Int×Int×Unit))++(B1 d4.1 (0:Int) d4.2.2.1)
  if (decide (List.length x5+List.length ([d4.2.1])<=lim))=true then
  if ((decide (0<=d4.2.2.1)&&decide (d4.2.2.1<=(List.length d4.1:Int))&&decide ((List.length d4.1:Int)<=(List.length d4.1:Int))))=true then
  let x6:=B1 d4.1 d4.2.2.1 (List.length d4.1:Int)
  if (decide (List.length (x5++([d4.2.1]))+List.length x6<=lim))=true then
  some (((x5++([d4.2.1]))++x6,()))
  else none
  else none
  else none
  else none
  else none
def FS:FSig:=⟨[(Bw,false),(Aj,false)],[Bw],true,(E2)⟩
def Au6:Ctx:={ tk:=Ad tks,ar:=Ad ars,fs:=Ad [(63,JJ)],lent:=fun t=>Nat.beq t 0 }
def Gw (N:Nat) (d:(List Int×Int×Int×Unit)×List Int×Unit):Option (Int×(List Int×Int×Int×Unit)×Unit):=
 let a0:=d.1
 let a1:=d.2.1
 ((CD 0) ((a0,((List.length a1:Int),())))).bind fun r1=>
 if (Ak r1.1 (List.length a1))=true then
 some ((at_ I a1 r1.1.toNat,(r1.2.1,())))
 else none
def WJ:FSig:=⟨[(AW,true),(Af,false)],[I],true,(Gw 0)⟩
def Avt:Ctx:={ tk:=Ad tks,ar:=Ad ars,fs:=Ad [(63,JJ),(78,WJ)],lent:=fun t=>Nat.beq t 0,cs:=Ad [],gs:=Ad [],eqt:=inL [],md:={ gone:=[1],deep:=[] } }
def BV (N:Nat) (d:(List Int×Int×Int×Unit)×Gr×Unit):Option (Gr×(List Int×Int×Int×Unit)×Gr×Unit):=
 let a0:=d.1
 let a1:=d.2.1
 ((CD 0) ((a0,((50:Int),())))).bind fun r1=>
 if (r1.1==(0:Int))=true then
  ((Gw 0) ((r1.2.1,([(-1:Int),(8:Int),(9:Int),(0:Int),(4611686018427387904:Int)],())))).bind fun r2=>
  some (((r2.1,a1.2),(r2.2.1,(((0:Int),(([]:List (Int×Int×Unit)),())),()))))
 else
  if (r1.1==(1:Int))=true then
   ((CD 0) ((r1.2.1,((4:Int),())))).bind fun r3=>
   ((CD 0) ((r3.2.1,((9:Int),())))).bind fun r4=>
   let x5:=IntKind.wrap .i64 (r4.1-(1:Int))
   if (decide (List.length a1.2.1+List.length ([(r3.1,(x5,()))])<=lim))=true then
   let x6:=a1.2.1++([(r3.1,(x5,()))])
   some (((a1.1,(x6,a1.2.2)),(r4.2.1,(((0:Int),(([]:List (Int×Int×Unit)),())),()))))
   else none
  else
   if (r1.1==(2:Int))=true then
    if (decide ((List.length a1.2.1:Int)>(0:Int)))=true then
     ((CD 0) ((r1.2.1,((List.length a1.2.1:Int),())))).bind fun r7=>
     if (Ak r7.1 (List.length a1.2.1))=true then
     if (decide (List.length a1.2.1+List.length ([at_ Aj a1.2.1 r7.1.toNat])<=lim))=true then
     let x8:=a1.2.1++([at_ Aj a1.2.1 r7.1.toNat])
     some (((a1.1,(x8,a1.2.2)),(r7.2.1,(((0:Int),(([]:List (Int×Int×Unit)),())),()))))
     else none
     else none
    else
     some ((a1,(r1.2.1,(((0:Int),(([]:List (Int×Int×Unit)),())),()))))
   else
    some ((a1,(r1.2.1,(((0:Int),(([]:List (Int×Int×Unit)),())),()))))
def Y0:FSig:=⟨[(AW,true),(Ac,true)],[Ac],true,(BV 0)⟩
def Asm:Ctx:={ tk:=Ad tks,ar:=Ad ars,fs:=Ad [(62,NO),(63,JJ),(119,FS),(137,RM)],lent:=fun t=>Nat.beq t 0,cs:=Ad [],gs:=Ad [(122,(Y0,{ gone:=[1],deep:=[] }))],eqt:=inL [],md:=md0 }
abbrev Ow:=(List Int×Int×Int×Unit)×Gr×Gr×Int×Int×List Int×Int×Unit
abbrev Oq:=((List Int×Int×Int×Unit)×Gr×Gr×Int×Unit)⊕Empty
def Akn:AU:=[(0,.box BF 0),(4,.box Ac 99),(5,.box Ac 99),(6,.v I),(7,.v I),(8,.own Af 99),(9,.v I)]
def Ajx:AJ:=[(.normal,[(0,.box BF 0),(4,.box Ac 99),(5,.box Ac 99),(6,.v I)])]
def HB (N:Nat) (back:Ow->Option Oq) (d:Ow):Option Oq:=
 let s0:=d.1
 let s4:=d.2.1
 let s5:=d.2.2.1
 let s6:=d.2.2.2.1
 let s7:=d.2.2.2.2.1
 let s8:=d.2.2.2.2.2.1
 let s9:=d.2.2.2.2.2.2.1
 if (decide (s9<(List.length s8:Int)))=true then
  if (Ak s9 (List.length s8))=true then
  if (decide (at_ I s8 s9.toNat<s6))=true then
   if (Ak s9 (List.length s8))=true then
   if (at_ I s8 s9.toNat==s7)=true then
    if (Ak s9 (List.length s8))=true then
    (E2 ((s5.2.1,((at_ I s8 s9.toNat,(s6,())),())))).bind fun r31=>
    let x32:=IntKind.wrap .i64 (s9+(1:Int))
    back ((s0,(s4,((s5.1,(r31.1,s5.2.2)),(s6,(s7,(s8,(x32,()))))))))
    else none
   else
    ((DR 0) ((s0,((2:Int),())))).bind fun r33=>
    if (r33.1)=true then
     if (Ak s9 (List.length s8))=true then
     (E2 ((s5.2.1,((at_ I s8 s9.toNat,(s6,())),())))).bind fun r34=>
     let x35:=IntKind.wrap .i64 (s9+(1:Int))
     back ((r33.2.1,(s4,((s5.1,(r34.1,s5.2.2)),(s6,(s7,(s8,(x35,()))))))))
     else none
    else
     let x36:=IntKind.wrap .i64 (s9+(1:Int))
     back ((r33.2.1,(s4,(s5,(s6,(s7,(s8,(x36,()))))))))
   else none
  else
   let x37:=IntKind.wrap .i64 (s9+(1:Int))
   back ((s0,(s4,(s5,(s6,(s7,(s8,(x37,()))))))))
  else none
 else
  some (.inl ((s0,(s4,(s5,(s6,()))))))
def L6 (N:Nat):Nat->Ow->Option Oq
 | 0,_=>none
 | k+1,d=>HB N (L6 N k) d
abbrev OW:=(List Int×Int×Int×Unit)×Gr×Gr×Int×Unit
abbrev Nm:=((List Int×Int×Int×Unit)×Gr×Gr×Unit)⊕Empty
def Ak0:AU:=[(0,.box BF 0),(4,.box Ac 99),(5,.box Ac 99),(6,.v I)]
def Af7:AJ:=[(.normal,[(0,.box BF 0),(4,.box Ac 99),(5,.box Ac 99)])]
def HR (N:Nat) (back:OW->Option Nm) (d:OW):Option Nm:=
 let s0:=d.1
 let s4:=d.2.1
 let s5:=d.2.2.1
 let s6:=d.2.2.2.1
 if (decide (s6<s5.1))=true then
  ((CD 0) ((s0,(s6,())))).bind fun r19=>
  ((GW 0) ((s5,(r19.1,())))).bind fun r20=>
  (L6 N N ((r19.2.1,(s4,(s5,(s6,(r19.1,(r20.1,((0:Int),()))))))))).bind fun o28=>match o28 with
  | .inl d29=>
   let x30:=IntKind.wrap .i64 (d29.2.2.2.1+(1:Int))
   back ((d29.1,(d29.2.1,(d29.2.2.1,(x30,())))))
 else
  some (.inl ((s0,(s4,(s5,())))))
def QI (N:Nat):Nat->OW->Option Nm
 | 0,_=>none
 | k+1,d=>HR N (QI N k) d
def MH (N:Nat) (d:(List Int×Int×Int×Unit)×Int×Unit):Option (Gr×(List Int×Int×Int×Unit)×Unit):=
 let a0:=d.1
 let a1:=d.2.1
 ((CD 0) ((a0,(a1,())))).bind fun r1=>
 let x2:=IntKind.wrap .i64 ((1:Int)+r1.1)
 (QI N N ((r1.2.1,(((0:Int),(([]:List (Int×Int×Unit)),())),((x2,(([]:List (Int×Int×Unit)),())),((1:Int),())))))).bind fun o15=>match o15 with
 | .inl d16=>
  ((DR 0) ((d16.1,((6:Int),())))).bind fun r17=>
  if (r17.1)=true then
   ((BV 0) ((r17.2.1,(d16.2.2.1,())))).bind fun r18=>
   some ((r18.1,(r18.2.1,())))
  else
   some ((d16.2.2.1,(r17.2.1,())))
def Ao2:FSig:=⟨[(AW,true),(I,false)],[Ac],true,(Cq MH FV)⟩
def Auo:Ctx:={ tk:=Ad tks,ar:=Ad ars,fs:=Ad [] }
def Vg (N:Nat) (d:Int×Int×Unit):Option (Int×Unit):=
 let a0:=d.1
 let a1:=d.2.1
 if (decide (a0<a1))=true then
  some (a0,())
 else
  some (a1,())
def Fp (d:Int×Int×Unit):Int×Unit:=
 let a0:=d.1
 let a1:=d.2.1
 if (decide (a0<a1))=true then
  (a0,())
 else
  (a1,())
theorem YY (N:Nat) (d):Vg N d=some (Fp d):=by
 unfold Vg Fp
 first
  | rfl
  | (dsimp only; (repeat' split)<;>rfl)
def Abm:FSig:=⟨[(I,false),(I,false)],[I],true,(fun d=>some (Fp d))⟩
def Avz:Ctx:={ tk:=Ad tks,ar:=Ad ars,fs:=Ad [] }
abbrev MY:=Int×Gr×Gr×Int×Unit
abbrev O6:=(Gr×Gr×Unit)⊕Empty
def Ajt:AU:=[(0,.v I),(2,.box Ac 99),(3,.box Ac 99),(4,.v I)]
def Ajc:AJ:=[(.normal,[(2,.box Ac 99),(3,.box Ac 99)])]
def ES (N:Nat) (back:MY->Option O6) (d:MY):Option O6:=
 let s0:=d.1
 let s2:=d.2.1
 let s3:=d.2.2.1
 let s4:=d.2.2.2.1
 let x6:=IntKind.wrap .i64 (s4+(1:Int))
 if (decide (x6<s0))=true then
  let x7:=IntKind.wrap .i64 (s4+(1:Int))
  if (decide (List.length s3.2.1+List.length ([(s4,(x7,()))])<=lim))=true then
  let x8:=IntKind.wrap .i64 (s4+(1:Int))
  back ((s0,(s2,((s3.1,(s3.2.1++([(s4,(x7,()))]),s3.2.2)),(x8,())))))
  else none
 else
  some (.inl ((s2,(s3,()))))
def Q9 (N:Nat):Nat->MY->Option O6
 | 0,_=>none
 | k+1,d=>ES N (Q9 N k) d
def G0 (N:Nat) (d:Int×Unit):Option (Gr×Unit):=
 let a0:=d.1
 (Q9 N N ((a0,(((0:Int),(([]:List (Int×Int×Unit)),())),((a0,(([]:List (Int×Int×Unit)),())),((0:Int),())))))).bind fun o4=>match o4 with
 | .inl d5=>
  some (d5.2.1,())
def Ac0:FSig:=⟨[(I,false)],[Ac],true,(Cq G0 DS)⟩
def Aug:Ctx:={ tk:=Ad tks,ar:=Ad ars,fs:=Ad [(117,Ac0),(119,FS)] }
def Jf (N:Nat) (d:Int×Unit):Option (Gr×Unit):=
 let a0:=d.1
 ((Cq G0 DS) (a0,())).bind fun r1=>
 let x2:=IntKind.wrap .i64 (a0-(1:Int))
 (E2 ((r1.1.2.1,(((0:Int),(x2,())),())))).bind fun r3=>
 some (((r1.1.1,(r3.1,r1.1.2.2)),()))
def Aq7:FSig:=⟨[(I,false)],[Ac],true,(Jf 0)⟩
def As6:Ctx:={ tk:=Ad tks,ar:=Ad ars,fs:=Ad [] }
abbrev OJ:=Int×Gr×Gr×Int×Int×Unit
abbrev NG:=(Int×Gr×Gr×Int×Unit)⊕Empty
def Ai7:AU:=[(0,.v I),(2,.box Ac 99),(3,.box Ac 99),(4,.v I),(5,.v I)]
def Afu:AJ:=[(.normal,[(0,.v I),(2,.box Ac 99),(3,.box Ac 99),(4,.v I)])]
def Ia (N:Nat) (back:OJ->Option NG) (d:OJ):Option NG:=
 let s0:=d.1
 let s2:=d.2.1
 let s3:=d.2.2.1
 let s4:=d.2.2.2.1
 let s5:=d.2.2.2.2.1
 if (decide (s5<s0))=true then
  if (decide (List.length s3.2.1+List.length ([(s4,(s5,()))])<=lim))=true then
  let x13:=IntKind.wrap .i64 (s5+(1:Int))
  back ((s0,(s2,((s3.1,(s3.2.1++([(s4,(s5,()))]),s3.2.2)),(s4,(x13,()))))))
  else none
 else
  some (.inl ((s0,(s2,(s3,(s4,()))))))
def QV (N:Nat):Nat->OJ->Option NG
 | 0,_=>none
 | k+1,d=>Ia N (QV N k) d
abbrev Ph:=Int×Gr×Gr×Int×Unit
abbrev Np:=(Gr×Gr×Unit)⊕Empty
def Alo:AU:=[(0,.v I),(2,.box Ac 99),(3,.box Ac 99),(4,.v I)]
def Af5:AJ:=[(.normal,[(2,.box Ac 99),(3,.box Ac 99)])]
def HV (N:Nat) (back:Ph->Option Np) (d:Ph):Option Np:=
 let s0:=d.1
 let s2:=d.2.1
 let s3:=d.2.2.1
 let s4:=d.2.2.2.1
 if (decide (s4<s0))=true then
  let x8:=IntKind.wrap .i64 (s4+(1:Int))
  (QV N N ((s0,(s2,(s3,(s4,(x8,()))))))).bind fun o10=>match o10 with
  | .inl d11=>
   let x12:=IntKind.wrap .i64 (d11.2.2.2.1+(1:Int))
   back ((d11.1,(d11.2.1,(d11.2.2.1,(x12,())))))
 else
  some (.inl ((s2,(s3,()))))
def Qp (N:Nat):Nat->Ph->Option Np
 | 0,_=>none
 | k+1,d=>HV N (Qp N k) d
def IW (N:Nat) (d:Int×Unit):Option (Gr×Unit):=
 let a0:=d.1
 (Qp N N ((a0,(((0:Int),(([]:List (Int×Int×Unit)),())),((a0,(([]:List (Int×Int×Unit)),())),((0:Int),())))))).bind fun o6=>match o6 with
 | .inl d7=>
  some (d7.2.1,())
def Ann:FSig:=⟨[(I,false)],[Ac],true,(Cq IW DS)⟩
def Auv:Ctx:={ tk:=Ad tks,ar:=Ad ars,fs:=Ad [] }
def Ux (N:Nat) (d:Int×Int×Unit):Option (Int×Unit):=
 let a0:=d.1
 let a1:=d.2.1
 if (decide (a0>a1))=true then
  some (a0,())
 else
  some (a1,())
def Ja (d:Int×Int×Unit):Int×Unit:=
 let a0:=d.1
 let a1:=d.2.1
 if (decide (a0>a1))=true then
  (a0,())
 else
  (a1,())
theorem Ac9 (N:Nat) (d):Ux N d=some (Ja d):=by
 unfold Ux Ja
 first
  | rfl
  | (dsimp only; (repeat' split)<;>rfl)
def U7:FSig:=⟨[(I,false),(I,false)],[I],true,(fun d=>some (Ja d))⟩
def Av7:Ctx:={ tk:=Ad tks,ar:=Ad ars,fs:=Ad [(62,NO),(63,JJ),(78,WJ),(82,Ann),(116,Abm),(117,Ac0),(118,Aq7),(119,FS),(120,U7),(121,VQ)],lent:=fun t=>Nat.beq t 0,cs:=Ad [],gs:=Ad [(122,(Y0,{ gone:=[1],deep:=[] }))],eqt:=inL [],md:=md0 }
abbrev No:=(List Int×Int×Int×Unit)×Gr×Int×Gr×Int×Bool×Int×Int×Unit
abbrev OQ:=((List Int×Int×Int×Unit)×Gr×Int×Gr×Int×Bool×Int×Unit)⊕Empty
def Ait:AU:=[(0,.box BF 0),(4,.box Ac 99),(5,.v I),(6,.box Ac 99),(7,.v I),(8,.v .bool),(9,.v I),(10,.v I)]
def Akw:AJ:=[(.normal,[(0,.box BF 0),(4,.box Ac 99),(5,.v I),(6,.box Ac 99),(7,.v I),(8,.v .bool),(9,.v I)])]
def Io (N:Nat) (back:No->Option OQ) (d:No):Option OQ:=
 let s0:=d.1
 let s4:=d.2.1
 let s5:=d.2.2.1
 let s6:=d.2.2.2.1
 let s7:=d.2.2.2.2.1
 let s8:=d.2.2.2.2.2.1
 let s9:=d.2.2.2.2.2.2.1
 let s10:=d.2.2.2.2.2.2.2.1
 if (decide (s10<s5))=true then
  ((CD 0) ((s0,(s7,())))).bind fun r77=>
  if (r77.1==(0:Int))=true then
   (E2 ((s6.2.1,((s9,(s10,())),())))).bind fun r78=>
   let x79:=IntKind.wrap .i64 (s10+(1:Int))
   back ((r77.2.1,(s4,(s5,((s6.1,(r78.1,s6.2.2)),(s7,(s8,(s9,(x79,())))))))))
  else
   let x80:=IntKind.wrap .i64 (s10+(1:Int))
   back ((r77.2.1,(s4,(s5,(s6,(s7,(s8,(s9,(x80,())))))))))
 else
  some (.inl ((s0,(s4,(s5,(s6,(s7,(s8,(s9,())))))))))
def Q7 (N:Nat):Nat->No->Option OQ
 | 0,_=>none
 | k+1,d=>Io N (Q7 N k) d
abbrev Or:=(List Int×Int×Int×Unit)×Gr×Int×Gr×Int×Bool×Int×Unit
abbrev N0:=((List Int×Int×Int×Unit)×Gr×Gr×Unit)⊕Empty
def Akx:AU:=[(0,.box BF 0),(4,.box Ac 99),(5,.v I),(6,.box Ac 99),(7,.v I),(8,.v .bool),(9,.v I)]
def Ak1:AJ:=[(.normal,[(0,.box BF 0),(4,.box Ac 99),(6,.box Ac 99)])]
def HZ (N:Nat) (back:Or->Option N0) (d:Or):Option N0:=
 let s0:=d.1
 let s4:=d.2.1
 let s5:=d.2.2.1
 let s6:=d.2.2.2.1
 let s7:=d.2.2.2.2.1
 let s8:=d.2.2.2.2.2.1
 let s9:=d.2.2.2.2.2.2.1
 if (decide (s9<s5))=true then
  let x62:=IntKind.wrap .i64 (s9+(1:Int))
  (Q7 N N ((s0,(s4,(s5,(s6,(s7,(s8,(s9,(x62,())))))))))).bind fun o67=>match o67 with
  | .inl d68=>
   let r69:=Ja ((d68.2.2.2.2.2.2.1,((1:Int),())))
   ((CD 0) ((d68.1,(r69.1,())))).bind fun r70=>
   if (decide (d68.2.2.2.2.2.2.1>(0:Int)))=true then
    if (!d68.2.2.2.2.2.1)=true then
     (Dm ((d68.2.2.2.1,(d68.2.2.2.2.2.2.1,(r70.1,()))))).bind fun r71=>
     if (!r71.1)=true then
      (E2 ((d68.2.2.2.1.2.1,((r70.1,(d68.2.2.2.2.2.2.1,())),())))).bind fun r72=>
      let x73:=IntKind.wrap .i64 (d68.2.2.2.2.2.2.1+(1:Int))
      back ((r70.2.1,(d68.2.1,(d68.2.2.1,((d68.2.2.2.1.1,(r72.1,d68.2.2.2.1.2.2)),(d68.2.2.2.2.1,(d68.2.2.2.2.2.1,(x73,()))))))))
     else
      let x74:=IntKind.wrap .i64 (d68.2.2.2.2.2.2.1+(1:Int))
      back ((r70.2.1,(d68.2.1,(d68.2.2.1,(d68.2.2.2.1,(d68.2.2.2.2.1,(d68.2.2.2.2.2.1,(x74,()))))))))
    else
     let x75:=IntKind.wrap .i64 (d68.2.2.2.2.2.2.1+(1:Int))
     back ((r70.2.1,(d68.2.1,(d68.2.2.1,(d68.2.2.2.1,(d68.2.2.2.2.1,(d68.2.2.2.2.2.1,(x75,()))))))))
   else
    let x76:=IntKind.wrap .i64 (d68.2.2.2.2.2.2.1+(1:Int))
    back ((r70.2.1,(d68.2.1,(d68.2.2.1,(d68.2.2.2.1,(d68.2.2.2.2.1,(d68.2.2.2.2.2.1,(x76,()))))))))
 else
  some (.inl ((s0,(s4,(s6,())))))
def GM (N:Nat):Nat->Or->Option N0
 | 0,_=>none
 | k+1,d=>HZ N (GM N k) d
def Oz (N:Nat) (d:(List Int×Int×Int×Unit)×Int×Unit):Option (Gr×(List Int×Int×Int×Unit)×Unit):=
 let a0:=d.1
 let a1:=d.2.1
 ((Gw 0) ((a0,([(4:Int),(5:Int),(3:Int),(6:Int),(2:Int),(1:Int),(0:Int)],())))).bind fun r1=>
 if (decide (a1>(6:Int)))=true then
  ((DR 0) ((r1.2.1,((4:Int),())))).bind fun r2=>
  if (r2.1)=true then
   ((CD 0) ((r2.2.1,((2:Int),())))).bind fun r3=>
   let x4:=IntKind.wrap .i64 ((7:Int)+r3.1)
   let r5:=Fp ((x4,(a1,())))
   ((CD 0) ((r3.2.1,((8:Int),())))).bind fun r6=>
   if (r6.1==(0:Int))=true then
    ((Cq G0 DS) (r5.1,())).bind fun r7=>
    ((BV 0) ((r6.2.1,(r7.1,())))).bind fun r8=>
    some ((r8.1,(r8.2.1,())))
   else
    if (r6.1==(1:Int))=true then
     if (decide (r5.1>(2:Int)))=true then
      ((Jf 0) (r5.1,())).bind fun r9=>
      ((BV 0) ((r6.2.1,(r9.1,())))).bind fun r10=>
      some ((r10.1,(r10.2.1,())))
     else
      ((BV 0) ((r6.2.1,((r5.1,(([]:List (Int×Int×Unit)),())),())))).bind fun r11=>
      some ((r11.1,(r11.2.1,())))
    else
     if (r6.1==(2:Int))=true then
      ((Cq IW DS) (r5.1,())).bind fun r12=>
      ((BV 0) ((r6.2.1,(r12.1,())))).bind fun r13=>
      some ((r13.1,(r13.2.1,())))
     else
      ((Gw 0) ((r6.2.1,([(3:Int),(4:Int),(6:Int)],())))).bind fun r14=>
      ((DR 0) ((r14.2.1,((6:Int),())))).bind fun r15=>
      (GM N N ((r15.2.1,(((0:Int),(([]:List (Int×Int×Unit)),())),(r5.1,((r5.1,(([]:List (Int×Int×Unit)),())),(r14.1,(r15.1,((0:Int),()))))))))).bind fun o31=>match o31 with
      | .inl d32=>
       ((BV 0) ((d32.1,(d32.2.2.1,())))).bind fun r33=>
       some ((r33.1,(r33.2.1,())))
  else
   let r34:=Fp ((r1.1,(a1,())))
   ((CD 0) ((r2.2.1,((8:Int),())))).bind fun r35=>
   if (r35.1==(0:Int))=true then
    ((Cq G0 DS) (r34.1,())).bind fun r36=>
    ((BV 0) ((r35.2.1,(r36.1,())))).bind fun r37=>
    some ((r37.1,(r37.2.1,())))
   else
    if (r35.1==(1:Int))=true then
     if (decide (r34.1>(2:Int)))=true then
      ((Jf 0) (r34.1,())).bind fun r38=>
      ((BV 0) ((r35.2.1,(r38.1,())))).bind fun r39=>
      some ((r39.1,(r39.2.1,())))
     else
      ((BV 0) ((r35.2.1,((r34.1,(([]:List (Int×Int×Unit)),())),())))).bind fun r40=>
      some ((r40.1,(r40.2.1,())))
    else
     if (r35.1==(2:Int))=true then
      ((Cq IW DS) (r34.1,())).bind fun r41=>
      ((BV 0) ((r35.2.1,(r41.1,())))).bind fun r42=>
      some ((r42.1,(r42.2.1,())))
     else
      ((Gw 0) ((r35.2.1,([(3:Int),(4:Int),(6:Int)],())))).bind fun r43=>
      ((DR 0) ((r43.2.1,((6:Int),())))).bind fun r44=>
      (GM N N ((r44.2.1,(((0:Int),(([]:List (Int×Int×Unit)),())),(r34.1,((r34.1,(([]:List (Int×Int×Unit)),())),(r43.1,(r44.1,((0:Int),()))))))))).bind fun o45=>match o45 with
      | .inl d46=>
       ((BV 0) ((d46.1,(d46.2.2.1,())))).bind fun r47=>
       some ((r47.1,(r47.2.1,())))
 else
  let r48:=Fp ((r1.1,(a1,())))
  ((CD 0) ((r1.2.1,((8:Int),())))).bind fun r49=>
  if (r49.1==(0:Int))=true then
   ((Cq G0 DS) (r48.1,())).bind fun r50=>
   ((BV 0) ((r49.2.1,(r50.1,())))).bind fun r51=>
   some ((r51.1,(r51.2.1,())))
  else
   if (r49.1==(1:Int))=true then
    if (decide (r48.1>(2:Int)))=true then
     ((Jf 0) (r48.1,())).bind fun r52=>
     ((BV 0) ((r49.2.1,(r52.1,())))).bind fun r53=>
     some ((r53.1,(r53.2.1,())))
    else
     ((BV 0) ((r49.2.1,((r48.1,(([]:List (Int×Int×Unit)),())),())))).bind fun r54=>
     some ((r54.1,(r54.2.1,())))
   else
    if (r49.1==(2:Int))=true then
     ((Cq IW DS) (r48.1,())).bind fun r55=>
     ((BV 0) ((r49.2.1,(r55.1,())))).bind fun r56=>
     some ((r56.1,(r56.2.1,())))
    else
     ((Gw 0) ((r49.2.1,([(3:Int),(4:Int),(6:Int)],())))).bind fun r57=>
     ((DR 0) ((r57.2.1,((6:Int),())))).bind fun r58=>
     (GM N N ((r58.2.1,(((0:Int),(([]:List (Int×Int×Unit)),())),(r48.1,((r48.1,(([]:List (Int×Int×Unit)),())),(r57.1,(r58.1,((0:Int),()))))))))).bind fun o59=>match o59 with
     | .inl d60=>
      ((BV 0) ((d60.1,(d60.2.2.1,())))).bind fun r61=>
      some ((r61.1,(r61.2.1,())))
def Anh:FSig:=⟨[(AW,true),(I,false)],[Ac],true,(Cq Oz FV)⟩
def Avl:Ctx:={ tk:=Ad tks,ar:=Ad ars,fs:=Ad [(61,Anh)],lent:=fun t=>Nat.beq t 0 }
def Vy (N:Nat) (d:(List Int×Int×Int×Unit)×Unit):Option (Gr×(List Int×Int×Int×Unit)×Unit):=
 let a0:=d.1
 ((Cq Oz FV) ((a0,((6:Int),())))).bind fun r1=>
 some ((r1.1,(r1.2.1,())))
def Arl:FSig:=⟨[(AW,true)],[Ac],true,(Vy 0)⟩
def Asy:Ctx:={ tk:=Ad tks,ar:=Ad ars,fs:=Ad [(62,NO),(145,Ao2),(146,Arl)],lent:=fun t=>Nat.beq t 0 }
def RU (N:Nat) (d:(List Int×Int×Int×Unit)×Unit):Option (Gr×(List Int×Int×Int×Unit)×Unit):=
 let a0:=d.1
 ((DR 0) ((a0,((2:Int),())))).bind fun r1=>
 if (r1.1)=true then
  ((Cq MH FV) ((r1.2.1,((6:Int),())))).bind fun r2=>
  some ((r2.1,(r2.2.1,())))
 else
  ((Vy 0) (r1.2.1,())).bind fun r3=>
  some ((r3.1,(r3.2.1,())))
def Ap8:FSig:=⟨[(AW,true)],[Ac],true,(RU 0)⟩
def Wr:Ctx:={ tk:=Ad tks,ar:=Ad ars,fs:=Ad [] }
def GP (N:Nat) (d:Int×Int×Int×Unit):Option (Bool×Unit):=
 let a0:=d.1
 let a1:=d.2.1
 let a2:=d.2.2.1
 if (decide (a0>=a1))=true then
  some (decide (a0<=a2),())
 else
  some (false,())
def CN (d:Int×Int×Int×Unit):Bool×Unit:=
 let a0:=d.1
 let a1:=d.2.1
 let a2:=d.2.2.1
 if (decide (a0>=a1))=true then
  (decide (a0<=a2),())
 else
  (false,())
theorem Qd (N:Nat) (d):GP N d=some (CN d):=by
 unfold GP CN
 first
  | rfl
  | (dsimp only; (repeat' split)<;>rfl)
def PJ:FSig:=⟨[(I,false),(I,false),(I,false)],[.bool],true,(fun d=>some (CN d))⟩
def Auj:Ctx:={ tk:=Ad tks,ar:=Ad ars,fs:=Ad [(104,PJ),(131,Zx)] }
abbrev O0:=Gr×Int×Unit
abbrev Na:=(Bool×Unit)⊕(Gr×Unit)⊕Empty
def Afe:AU:=[(1,.box Ac 0),(3,.v I)]
def Aj2:AJ:=[(.ret,[(2,.v .bool)]),(.normal,[(1,.box Ac 0)])]
def KF (N:Nat) (back:O0->Option Na) (d:O0):Option Na:=
 let s1:=d.1
 let s3:=d.2.1
 if (decide (s3<(List.length s1.2.1:Int)))=true then
  if (Ak s3 (List.length s1.2.1))=true then
  let x13:=IntKind.wrap .i64 (s1.1-(1:Int))
  let r14:=CN (((at_ Aj s1.2.1 s3.toNat).1,((0:Int),(x13,()))))
  if (!r14.1)=true then
   some (.inl (false,()))
  else
   let x15:=IntKind.wrap .i64 (s1.1-(1:Int))
   let r16:=CN (((at_ Aj s1.2.1 s3.toNat).2.1,((0:Int),(x15,()))))
   if (!r16.1)=true then
    some (.inl (false,()))
   else
    if (decide ((at_ Aj s1.2.1 s3.toNat).1>=(at_ Aj s1.2.1 s3.toNat).2.1))=true then
     some (.inl (false,()))
    else
     if (decide (s3>(0:Int)))=true then
      let x17:=IntKind.wrap .i64 (s3-(1:Int))
      if (Ak x17 (List.length s1.2.1))=true then
      let r18:=IF ((at_ Aj s1.2.1 x17.toNat,(at_ Aj s1.2.1 s3.toNat,())))
      if (!r18.1)=true then
       some (.inl (false,()))
      else
       let x19:=IntKind.wrap .i64 (s3+(1:Int))
       back ((s1,(x19,())))
      else none
     else
      let x20:=IntKind.wrap .i64 (s3+(1:Int))
      back ((s1,(x20,())))
  else none
 else
  some (.inr (.inl (s1,())))
def QS (N:Nat):Nat->O0->Option Na
 | 0,_=>none
 | k+1,d=>KF N (QS N k) d
def WA (N:Nat) (d:Gr×Unit):Option (Bool×Unit):=
 let a0:=d.1
 (QS N N ((a0,((0:Int),())))).bind fun o9=>match o9 with
 | .inl d10=>
  some (d10.1,())
 | .inr (.inl d11)=>
  let r12:=CN ((d11.1.1,((0:Int),((8:Int),()))))
  some (r12.1,())
def An4:FSig:=⟨[(Ac,false)],[.bool],true,(Bt)⟩
def Atv:Ctx:={ tk:=Ad tks,ar:=Ad ars,fs:=Ad [(70,An4)] }
def Fl (N:Nat) (d:Gr×Unit):Option (Bool×Unit):=
 let a0:=d.1
 (Bt (a0,())).bind fun r1=>
 if (r1.1)=true then
  some ((decide (a0.1>(0:Int)),()))
 else
  some (false,())
def Pp:FSig:=⟨[(Ac,false)],[.bool],true,(Fl 0)⟩
def Aso:Ctx:={ tk:=Ad tks,ar:=Ad ars,fs:=Ad [] }
abbrev M1:=Int×Int×List Int×Int×Unit
abbrev O1:=(List Int×Unit)⊕Empty
def Air:AU:=[(0,.v I),(1,.v I),(5,.own Af 99),(6,.v I)]
def Alj:AJ:=[(.normal,[(5,.own Af 99)])]
def JW (N:Nat) (back:M1->Option O1) (d:M1):Option O1:=
 let s0:=d.1
 let s1:=d.2.1
 let s5:=d.2.2.1
 let s6:=d.2.2.2.1
 if (decide (s6<s0))=true then
  if (decide (0<=s6))=true then
  let x6:=bits .and .i64 (shr .i64 s1 s6) (1:Int)
  if (x6==(1:Int))=true then
   if (decide (List.length s5+List.length ([s6])<=lim))=true then
   let x7:=IntKind.wrap .i64 (s6+(1:Int))
   back ((s0,(s1,(s5++([s6]),(x7,())))))
   else none
  else
   let x8:=IntKind.wrap .i64 (s6+(1:Int))
   back ((s0,(s1,(s5,(x8,())))))
  else none
 else
  some (.inl (s5,()))
def Qm (N:Nat):Nat->M1->Option O1
 | 0,_=>none
 | k+1,d=>JW N (Qm N k) d
def Vh (N:Nat) (d:Int×Int×Unit):Option (List Int×Unit):=
 let a0:=d.1
 let a1:=d.2.1
 (Qm N N ((a0,(a1,(([]:List Int),((0:Int),())))))).bind fun o4=>match o4 with
 | .inl d5=>
  some (d5.1,())
def ZO:FSig:=⟨[(I,false),(I,false)],[Af],true,(Bg)⟩
def Tp:Ctx:={ tk:=Ad tks,ar:=Ad ars,fs:=Ad [(98,ZO)] }
def B7 (N:Nat) (d:Gr×Unit):Option (List Int×Unit):=
 let a0:=d.1
 if (decide (0<=a0.1))=true then
 let x1:=IntKind.wrap .i64 (shl .i64 (1:Int) a0.1-(1:Int))
 (Bg ((a0.1,(x1,())))).bind fun r2=>
 some (r2.1,())
 else none
def Is:FSig:=⟨[(Ac,false)],[Af],true,(B7 0)⟩
def Th:Ctx:={ tk:=Ad tks,ar:=Ad ars,fs:=Ad [] }
abbrev FI:=List Int×Int×Int×Unit
abbrev Fy:=(Bool×Unit)⊕Unit⊕Empty
def Qf:AU:=[(0,.v Af),(1,.v I),(5,.v I)]
def PT:AJ:=[(.ret,[(4,.v .bool)]),(.normal,[])]
def DN (N:Nat) (back:FI->Option Fy) (d:FI):Option Fy:=
 let s0:=d.1
 let s1:=d.2.1
 let s5:=d.2.2.1
 if (decide (s5<(List.length s0:Int)))=true then
  if (Ak s5 (List.length s0))=true then
  if (at_ I s0 s5.toNat==s1)=true then
   some (.inl (true,()))
  else
   let x5:=IntKind.wrap .i64 (s5+(1:Int))
   back ((s0,(s1,(x5,()))))
  else none
 else
  some (.inr (.inl ()))
def EZ (N:Nat):Nat->FI->Option Fy
 | 0,_=>none
 | k+1,d=>DN N (EZ N k) d
def FX (N:Nat) (d:List Int×Int×Unit):Option (Bool×Unit):=
 let a0:=d.1
 let a1:=d.2.1
 (EZ N N ((a0,(a1,((0:Int),()))))).bind fun o2=>match o2 with
 | .inl d3=>
  some (d3.1,())
 | .inr (.inl d4)=>
  some (false,())
def Iu:FSig:=⟨[(Af,false),(I,false)],[.bool],true,(E7)⟩
def As3:Ctx:={ tk:=Ad tks,ar:=Ad ars,fs:=Ad [(121,VQ),(137,RM),(138,Iu)] }
abbrev OL:=List Int×Int×Int×Gr×List Int×Int×Unit
abbrev NA:=(Bool×Unit)⊕(List Int×Int×Int×Unit)⊕Empty
def Af6:AU:=[(1,.v Af),(2,.v I),(3,.v I),(4,.box Ac 0),(9,.own Af 99),(10,.v I)]
def Aj8:AJ:=[(.ret,[(8,.v .bool)]),(.normal,[(1,.v Af),(2,.v I),(3,.v I)])]
def Kf (N:Nat) (back:OL->Option NA) (d:OL):Option NA:=
 let s1:=d.1
 let s2:=d.2.1
 let s3:=d.2.2.1
 let s4:=d.2.2.2.1
 let s9:=d.2.2.2.2.1
 let s10:=d.2.2.2.2.2.1
 if (decide (s10<(List.length s9:Int)))=true then
  if (Ak s10 (List.length s9))=true then
  (E7 ((s1,(at_ I s9 s10.toNat,())))).bind fun r11=>
  if (r11.1)=true then
   if (Ak s10 (List.length s9))=true then
   if (at_ I s9 s10.toNat != s3)=true then
    if (Ak s10 (List.length s9))=true then
    (Dm ((s4,(at_ I s9 s10.toNat,(s3,()))))).bind fun r12=>
    if (!r12.1)=true then
     some (.inl (false,()))
    else
     let x13:=IntKind.wrap .i64 (s10+(1:Int))
     back ((s1,(s2,(s3,(s4,(s9,(x13,())))))))
    else none
   else
    let x14:=IntKind.wrap .i64 (s10+(1:Int))
    back ((s1,(s2,(s3,(s4,(s9,(x14,())))))))
   else none
  else
   let x15:=IntKind.wrap .i64 (s10+(1:Int))
   back ((s1,(s2,(s3,(s4,(s9,(x15,())))))))
  else none
 else
  some (.inr (.inl ((s1,(s2,(s3,()))))))
def Q0 (N:Nat):Nat->OL->Option NA
 | 0,_=>none
 | k+1,d=>Kf N (Q0 N k) d
def Wx (N:Nat) (d:Gr×List Int×Int×Int×Unit):Option (Bool×Unit):=
 let a0:=d.1
 let a1:=d.2.1
 let a2:=d.2.2.1
 let a3:=d.2.2.2.1
 ((GW 0) ((a0,(a2,())))).bind fun r1=>
 (Q0 N N ((a1,(a2,(a3,(a0,(r1.1,((0:Int),())))))))).bind fun o7=>match o7 with
 | .inl d8=>
  some (d8.1,())
 | .inr (.inl d9)=>
  if (d9.2.1 != d9.2.2.1)=true then
   (E7 ((d9.1,(d9.2.2.1,())))).bind fun r10=>
   some (r10.1,())
  else
   some (false,())
def Am2:FSig:=⟨[(Ac,false),(Af,false),(I,false),(I,false)],[.bool],true,(ET)⟩
def Auh:Ctx:={ tk:=Ad tks,ar:=Ad ars,fs:=Ad [(179,Am2)] }
abbrev Pn:=List Int×Int×Gr×Int×Unit
abbrev N2:=(Int×Unit)⊕Unit⊕Empty
def Akb:AU:=[(1,.v Af),(2,.v I),(3,.box Ac 0),(7,.v I)]
def Afx:AJ:=[(.ret,[(6,.v I)]),(.normal,[])]
def KL (N:Nat) (back:Pn->Option N2) (d:Pn):Option N2:=
 let s1:=d.1
 let s2:=d.2.1
 let s3:=d.2.2.1
 let s7:=d.2.2.2.1
 if (decide (s7<(List.length s1:Int)))=true then
  if (Ak s7 (List.length s1))=true then
  (ET ((s3,(s1,(s2,(at_ I s1 s7.toNat,())))))).bind fun r6=>
  if (r6.1)=true then
   if (Ak s7 (List.length s1))=true then
   some (.inl (at_ I s1 s7.toNat,()))
   else none
  else
   let x7:=IntKind.wrap .i64 (s7+(1:Int))
   back ((s1,(s2,(s3,(x7,())))))
  else none
 else
  some (.inr (.inl ()))
def Qi (N:Nat):Nat->Pn->Option N2
 | 0,_=>none
 | k+1,d=>KL N (Qi N k) d
def WL (N:Nat) (d:Gr×List Int×Int×Unit):Option (Int×Unit):=
 let a0:=d.1
 let a1:=d.2.1
 let a2:=d.2.2.1
 (Qi N N ((a1,(a2,(a0,((0:Int),())))))).bind fun o3=>match o3 with
 | .inl d4=>
  some (d4.1,())
 | .inr (.inl d5)=>
  some ((-1:Int),())
def Aa0:FSig:=⟨[(Ac,false),(Af,false),(I,false)],[I],true,(EG)⟩
def Aue:Ctx:={ tk:=Ad tks,ar:=Ad ars,fs:=Ad [(150,Aa0)] }
abbrev OD:=List Int×Gr×List Int×Int×Unit
abbrev OK:=(List Int×Unit)⊕Empty
def Aj5:AU:=[(1,.v Af),(2,.box Ac 0),(5,.own Af 99),(6,.v I)]
def Ai6:AJ:=[(.normal,[(5,.own Af 99)])]
def KI (N:Nat) (back:OD->Option OK) (d:OD):Option OK:=
 let s1:=d.1
 let s2:=d.2.1
 let s5:=d.2.2.1
 let s6:=d.2.2.2.1
 if (decide (s6<(List.length s1:Int)))=true then
  if (Ak s6 (List.length s1))=true then
  (EG ((s2,(s1,(at_ I s1 s6.toNat,()))))).bind fun r6=>
  if (decide (r6.1>=(0:Int)))=true then
   if (Ak s6 (List.length s1))=true then
   if (decide (List.length s5+List.length ([at_ I s1 s6.toNat])<=lim))=true then
   let x7:=IntKind.wrap .i64 (s6+(1:Int))
   back ((s1,(s2,(s5++([at_ I s1 s6.toNat]),(x7,())))))
   else none
   else none
  else
   let x8:=IntKind.wrap .i64 (s6+(1:Int))
   back ((s1,(s2,(s5,(x8,())))))
  else none
 else
  some (.inl (s5,()))
def QK (N:Nat):Nat->OD->Option OK
 | 0,_=>none
 | k+1,d=>KI N (QK N k) d
def Wl (N:Nat) (d:Gr×List Int×Unit):Option (List Int×Unit):=
 let a0:=d.1
 let a1:=d.2.1
 (QK N N ((a1,(a0,(([]:List Int),((0:Int),())))))).bind fun o4=>match o4 with
 | .inl d5=>
  some (d5.1,())
def VN:FSig:=⟨[(Ac,false),(Af,false)],[Af],true,(Cc)⟩
def At2:Ctx:={ tk:=Ad tks,ar:=Ad ars,fs:=Ad [] }
abbrev OH:=List Int×Int×List Int×Int×Unit
abbrev NU:=(List Int×Unit)⊕Empty
def Aks:AU:=[(0,.v Af),(1,.v I),(5,.own Af 99),(6,.v I)]
def Ah8:AJ:=[(.normal,[(5,.own Af 99)])]
def Kq (N:Nat) (back:OH->Option NU) (d:OH):Option NU:=
 let s0:=d.1
 let s1:=d.2.1
 let s5:=d.2.2.1
 let s6:=d.2.2.2.1
 if (decide (s6<(List.length s0:Int)))=true then
  if (Ak s6 (List.length s0))=true then
  if (at_ I s0 s6.toNat != s1)=true then
   if (Ak s6 (List.length s0))=true then
   if (decide (List.length s5+List.length ([at_ I s0 s6.toNat])<=lim))=true then
   let x5:=IntKind.wrap .i64 (s6+(1:Int))
   back ((s0,(s1,(s5++([at_ I s0 s6.toNat]),(x5,())))))
   else none
   else none
  else
   let x6:=IntKind.wrap .i64 (s6+(1:Int))
   back ((s0,(s1,(s5,(x6,())))))
  else none
 else
  some (.inl (s5,()))
def Qn (N:Nat):Nat->OH->Option NU
 | 0,_=>none
 | k+1,d=>Kq N (Qn N k) d
def VX (N:Nat) (d:List Int×Int×Unit):Option (List Int×Unit):=
 let a0:=d.1
 let a1:=d.2.1
 (Qn N N ((a0,(a1,(([]:List Int),((0:Int),())))))).bind fun o3=>match o3 with
 | .inl d4=>
  some (d4.1,())
def VW:FSig:=⟨[(Af,false),(I,false)],[Af],true,(CO)⟩
def Ts:Ctx:={ tk:=Ad tks,ar:=Ad ars,fs:=Ad [(94,VN),(95,VW)],dm:=fun t=>Nat.beq t 1,cs:=Ad [] }
abbrev FA:=List Int×Gr×Unit
abbrev Fw:=(Bool×Unit)⊕(List Int×Unit)⊕Empty
def PZ:AU:=[(1,.v Af),(2,.box Ac 0)]
def PS:AJ:=[(.ret,[(4,.v .bool)]),(.normal,[(1,.v Af)])]
def C5 (N:Nat) (back:FA->Option Fw) (d:FA):Option Fw:=
 let s1:=d.1
 let s2:=d.2.1
 if (decide ((List.length s1:Int)>(1:Int)))=true then
  (Cc ((s2,(s1,())))).bind fun r6=>
  if ((List.length r6.1:Int)==(0:Int))=true then
   some (.inl (false,()))
  else
   if (Ak (0:Int) (List.length r6.1))=true then
   (CO ((s1,(at_ I r6.1 (0:Int).toNat,())))).bind fun r7=>
   back ((r7.1,(s2,())))
   else none
 else
  some (.inr (.inl (s1,())))
def E5 (N:Nat):Nat->FA->Option Fw
 | 0,_=>none
 | k+1,d=>C5 N (E5 N k) d
def FU (N:Nat) (d:Gr×List Int×Unit):Option (Bool×Unit):=
 let a0:=d.1
 let a1:=d.2.1
 (E5 N N ((a1,(a0,())))).bind fun o3=>match o3 with
 | .inl d4=>
  some (d4.1,())
 | .inr (.inl d5)=>
  some ((List.length d5.1:Int)==(1:Int),())
def L8:FSig:=⟨[(Ac,false),(Af,false)],[.bool],true,(KC)⟩
def At3:Ctx:={ tk:=Ad tks,ar:=Ad ars,fs:=Ad [(88,Pp),(92,L8),(93,Is),(94,VN),(95,VW)] }
abbrev Oa:=Gr×List Int×List Int×Unit
abbrev Pd:=(List Int×List Int×Unit)⊕Empty
def Aiw:AU:=[(1,.box Ac 0),(4,.own Af 99),(5,.own Af 99)]
def Aih:AJ:=[(.normal,[(4,.own Af 99),(5,.own Af 99)])]
def NQ (N:Nat) (back:Oa->Option Pd) (d:Oa):Option Pd:=
 let s1:=d.1
 let s4:=d.2.1
 let s5:=d.2.2.1
 if (decide ((List.length s5:Int)>(1:Int)))=true then
  (Cc ((s1,(s5,())))).bind fun r11=>
  if (Ak (0:Int) (List.length r11.1))=true then
  if (decide (List.length s4+List.length ([at_ I r11.1 (0:Int).toNat])<=lim))=true then
  let x12:=s4++([at_ I r11.1 (0:Int).toNat])
  (CO ((s5,(at_ I r11.1 (0:Int).toNat,())))).bind fun r13=>
  back ((s1,(x12,(r13.1,()))))
  else none
  else none
 else
  some (.inl ((s4,(s5,()))))
def QQ (N:Nat):Nat->Oa->Option Pd
 | 0,_=>none
 | k+1,d=>NQ N (QQ N k) d
def Wj (N:Nat) (d:Gr×Unit):Option (List Int×Bool×Unit):=
 let a0:=d.1
 ((Fl 0) (a0,())).bind fun r1=>
 if (!r1.1)=true then
  some ((([]:List Int),(false,())))
 else
  ((B7 0) (a0,())).bind fun r2=>
  (KC ((a0,(r2.1,())))).bind fun r3=>
  if (!r3.1)=true then
   some ((([]:List Int),(false,())))
  else
   ((B7 0) (a0,())).bind fun r4=>
   (QQ N N ((a0,(([]:List Int),(r4.1,()))))).bind fun o8=>match o8 with
   | .inl d9=>
    if (Ak (0:Int) (List.length d9.2.1))=true then
    if (decide (List.length d9.1+List.length ([at_ I d9.2.1 (0:Int).toNat])<=lim))=true then
    let x10:=d9.1++([at_ I d9.2.1 (0:Int).toNat])
    some ((x10,(true,())))
    else none
    else none
def Abt:FSig:=⟨[(Ac,false)],[Af,.bool],true,(EF)⟩
def Avh:Ctx:={ tk:=Ad tks,ar:=Ad ars,fs:=Ad [(62,NO),(63,JJ),(78,WJ),(116,Abm)],lent:=fun t=>Nat.beq t 0,cs:=Ad [],gs:=Ad [],eqt:=inL [],md:=md0,cut:=fun t=>bif Nat.beq t 21 then 6 else 0 }
abbrev ON:=(List Int×Int×Int×Unit)×Gr×List Int×Int×Unit
abbrev Ml:=((List Int×Int×Int×Unit)×List Int×Unit)⊕Empty
def Aho:AU:=[(0,.box BF 0),(3,.box Ac 0),(5,.own Af 99),(6,.v I)]
def Ala:AJ:=[(.normal,[(0,.box BF 0),(5,.own Af 99)])]
def Hy (N:Nat) (back:ON->Option Ml) (d:ON):Option Ml:=
 let s0:=d.1
 let s3:=d.2.1
 let s5:=d.2.2.1
 let s6:=d.2.2.2.1
 let r11:=Fp ((s3.1,((8:Int),())))
 if (decide (s6<r11.1))=true then
  let x12:=IntKind.wrap .i64 ((List.length s5:Int)+(1:Int))
  ((CD 0) ((s0,(x12,())))).bind fun r13=>
  if ((decide (0<=(0:Int))&&decide ((0:Int)<=r13.1)&&decide (r13.1<=(List.length s5:Int))))=true then
  if (decide (List.length ([]:List Int)+List.length (B1 s5 (0:Int) r13.1)<=lim))=true then
  let x14:=([]:List Int)++(B1 s5 (0:Int) r13.1)
  if (decide (List.length x14+List.length ([s6])<=lim))=true then
  if ((decide (0<=r13.1)&&decide (r13.1<=(List.length s5:Int))&&decide ((List.length s5:Int)<=(List.length s5:Int))))=true then
  let x15:=B1 s5 r13.1 (List.length s5:Int)
  if (decide (List.length (x14++([s6]))+List.length x15<=lim))=true then
  let x16:=IntKind.wrap .i64 (s6+(1:Int))
  back ((r13.2.1,(s3,((x14++([s6]))++x15,(x16,())))))
  else none
  else none
  else none
  else none
  else none
 else
  some (.inl ((s0,(s5,()))))
def Qt (N:Nat):Nat->ON->Option Ml
 | 0,_=>none
 | k+1,d=>Hy N (Qt N k) d
def JM (N:Nat) (d:(List Int×Int×Int×Unit)×Gr×Unit):Option (List Int×(List Int×Int×Int×Unit)×Unit):=
 let a0:=d.1
 let a1:=d.2.1
 (Qt N N ((a0,(a1,(([]:List Int),((0:Int),())))))).bind fun o7=>match o7 with
 | .inl d8=>
  ((DR 0) ((d8.1,((24:Int),())))).bind fun r9=>
  if (r9.1)=true then
   ((Gw 0) ((r9.2.1,([(0:Int),(-1:Int),(8:Int)],())))).bind fun r10=>
   if (decide (List.length d8.2.1+List.length ([r10.1])<=lim))=true then
   some ((d8.2.1++([r10.1]),(r10.2.1,())))
   else none
  else
   some ((d8.2.1,(r9.2.1,())))
def Ap1:FSig:=⟨[(AW,true),(Ac,false)],[Af],true,(Cq JM Hu)⟩
def Ar9:Ctx:={ tk:=Ad tks,ar:=Ad ars,fs:=Ad [(39,Abt),(62,NO),(63,JJ),(83,Ap8),(84,Ap1)],cs:=Ad [],gs:=Ad [],eqt:=inL [],md:=md0,ad:=fun t=>bif Nat.beq t 5 then 0 else 99 }
def Ot (N:Nat) (d:List Int×Unit):Option (Gr×List Int×Unit):=
 let a0:=d.1
 ((RU 0) (((a0,((0:Int),((0:Int),()))),()))).bind fun r11=>
 (EF (r11.1,())).bind fun r12=>
 if (r12.2.1)=true then
  ((DR 0) ((r11.2.1,((2:Int),())))).bind fun r13=>
  if (r13.1)=true then
   ((CD 0) ((r13.2.1,((List.length r12.1:Int),())))).bind fun r14=>
   let x15:=IntKind.wrap .i64 (r14.1+(1:Int))
   if (decide (x15<(List.length r12.1:Int)))=true then
    ((DR 0) ((r14.2.1,((2:Int),())))).bind fun r16=>
    if (r16.1)=true then
     if (Ak r14.1 (List.length r12.1))=true then
     let x17:=IntKind.wrap .i64 (r14.1+(1:Int))
     if (Ak x17 (List.length r12.1))=true then
     if (Ak r14.1 (List.length r12.1))=true then
     let x18:=List.set r12.1 r14.1.toNat (at_ I r12.1 x17.toNat)
     let x19:=IntKind.wrap .i64 (r14.1+(1:Int))
     if (Ak x19 (List.length x18))=true then
     let x20:=List.set x18 x19.toNat (at_ I r12.1 r14.1.toNat)
     some ((r11.1,(x20,())))
     else none
     else none
     else none
     else none
    else
     some ((r11.1,(r12.1,())))
   else
    some ((r11.1,(r12.1,())))
  else
   ((Cq JM Hu) ((r13.2.1,(r11.1,())))).bind fun r21=>
   some ((r11.1,(r21.1,())))
 else
  ((Cq JM Hu) ((r11.2.1,(r11.1,())))).bind fun r22=>
  some ((r11.1,(r22.1,())))
def Ans:FSig:=⟨[(K_Su8,false)],[Ac,Af],false,(Ot 0)⟩
def At9:Ctx:={ tk:=Ad tks,ar:=Ad ars,fs:=Ad [] }
def V2 (N:Nat) (d:Int×Int×Int×Unit):Option (Bool×Unit):=
 let a0:=d.1
 let a1:=d.2.1
 let a2:=d.2.2.1
 if (decide (a0>=a1))=true then
  some (decide (a0<=a2),())
 else
  some (false,())
def Ju (d:Int×Int×Int×Unit):Bool×Unit:=
 let a0:=d.1
 let a1:=d.2.1
 let a2:=d.2.2.1
 if (decide (a0>=a1))=true then
  (decide (a0<=a2),())
 else
  (false,())
theorem ZM (N:Nat) (d):V2 N d=some (Ju d):=by
 unfold V2 Ju
 first
  | rfl
  | (dsimp only; (repeat' split)<;>rfl)
def Wv:FSig:=⟨[(I,false),(I,false),(I,false)],[.bool],true,(fun d=>some (Ju d))⟩
def Ar8:Ctx:={ tk:=Ad tks,ar:=Ad ars,fs:=Ad [] }
def V1 (N:Nat) (d:Int×Unit):Option (Bool×Unit):=
 let a0:=d.1
 some (a0 != a0,())
def JN (d:Int×Unit):Bool×Unit:=
 let a0:=d.1
 (a0 != a0,())
theorem ZI (N:Nat) (d):V1 N d=some (JN d):=by
 unfold V1 JN
 first
  | rfl
  | (dsimp only; (repeat' split)<;>rfl)
def Apo:FSig:=⟨[(I,false)],[.bool],true,(fun d=>some (JN d))⟩
def Ase:Ctx:={ tk:=Ad tks,ar:=Ad ars,fs:=Ad [(166,Apo)] }
def Wh (N:Nat) (d:Int×Int×Unit):Option (Int×Unit):=
 let a0:=d.1
 let a1:=d.2.1
 let r1:=JN (a0,())
 let r2:=JN (a1,())
 if (r1.1)=true then
  if (r2.1)=true then
   some ((0:Int),())
  else
   some ((-1:Int),())
 else
  if (r2.1)=true then
   some ((1:Int),())
  else
   if (decide (a0<a1))=true then
    some ((-1:Int),())
   else
    if (decide (a0>a1))=true then
     some ((1:Int),())
    else
     some ((0:Int),())
def OY (d:Int×Int×Unit):Int×Unit:=
 let a0:=d.1
 let a1:=d.2.1
 let r1:=JN (a0,())
 let r2:=JN (a1,())
 if (r1.1)=true then
  if (r2.1)=true then
   ((0:Int),())
  else
   ((-1:Int),())
 else
  if (r2.1)=true then
   ((1:Int),())
  else
   if (decide (a0<a1))=true then
    ((-1:Int),())
   else
    if (decide (a0>a1))=true then
     ((1:Int),())
    else
     ((0:Int),())
theorem Ac3 (N:Nat) (d):Wh N d=some (OY d):=by
 unfold Wh OY
 first
  | rfl
  | (dsimp only; (repeat' split)<;>rfl)
def Anq:FSig:=⟨[(I,false),(I,false)],[I],true,(fun d=>some (OY d))⟩
def Avv:Ctx:={ tk:=Ad tks,ar:=Ad ars,fs:=Ad [(128,Anq)] }
abbrev OV:=List Int×List Int×List Int×Int×Int×Unit
abbrev MW:=(Int×Unit)⊕(List Int×List Int×Unit)⊕Empty
def Ai4:AU:=[(0,.v Af),(1,.v Af),(9,.v Af),(10,.v I),(11,.v I)]
def Ali:AJ:=[(.ret,[(4,.v I)]),(.normal,[(0,.v Af),(1,.v Af)])]
def H8 (N:Nat) (back:OV->Option MW) (d:OV):Option MW:=
 let s0:=d.1
 let s1:=d.2.1
 let s9:=d.2.2.1
 let s10:=d.2.2.2.1
 let s11:=d.2.2.2.2.1
 if (decide (s11<s10))=true then
  if (Ak s11 (List.length s9))=true then
  if (decide (s11>=(List.length s1:Int)))=true then
   some (.inl ((1:Int),()))
  else
   if (Ak s11 (List.length s1))=true then
   let r6:=OY ((at_ I s9 s11.toNat,(at_ I s1 s11.toNat,())))
   if (r6.1 != (0:Int))=true then
    some (.inl (r6.1,()))
   else
    let x7:=IntKind.wrap .i64 (s11+(1:Int))
    back ((s0,(s1,(s9,(s10,(x7,()))))))
   else none
  else none
 else
  some (.inr (.inl ((s0,(s1,())))))
def It (N:Nat):Nat->OV->Option MW
 | 0,_=>none
 | k+1,d=>H8 N (It N k) d
def WB (N:Nat) (d:List Int×List Int×Unit):Option (Int×Unit):=
 let a0:=d.1
 let a1:=d.2.1
 (It N N ((a0,(a1,(a0,((List.length a0:Int),((0:Int),()))))))).bind fun o3=>match o3 with
 | .inl d4=>
  some (d4.1,())
 | .inr (.inl d5)=>
  if (decide ((List.length d5.1:Int)<(List.length d5.2.1:Int)))=true then
   some ((-1:Int),())
  else
   some ((0:Int),())
def Aom:FSig:=⟨[(Af,false),(Af,false)],[I],true,(D9)⟩
def Au0:Ctx:={ tk:=Ad tks,ar:=Ad ars,fs:=Ad [(67,Wv),(68,Aom)] }
abbrev ML:=Gr×(List (Int×Int×Unit))×Int×Int×Unit
abbrev Mo:=(Bool×Unit)⊕Unit⊕Empty
def Aia:AU:=[(1,.box Ac 0),(10,.v Bw),(11,.v I),(12,.v I)]
def Ai1:AJ:=[(.ret,[(2,.v .bool)]),(.normal,[])]
def KK (N:Nat) (back:ML->Option Mo) (d:ML):Option Mo:=
 let s1:=d.1
 let s10:=d.2.1
 let s11:=d.2.2.1
 let s12:=d.2.2.2.1
 if (decide (s12<s11))=true then
  if (Ak s12 (List.length s10))=true then
  if (decide ((at_ Aj s10 s12.toNat).1<(0:Int)))=true then
   some (.inl (false,()))
  else
   if (decide ((at_ Aj s10 s12.toNat).1>=(at_ Aj s10 s12.toNat).2.1))=true then
    some (.inl (false,()))
   else
    if (decide ((at_ Aj s10 s12.toNat).2.1>=s1.1))=true then
     some (.inl (false,()))
    else
     if (decide (s12>(0:Int)))=true then
      let x9:=IntKind.wrap .i64 (s12-(1:Int))
      if (Ak x9 (List.length s1.2.1))=true then
      (D9 (([(at_ Aj s1.2.1 x9.toNat).1,(at_ Aj s1.2.1 x9.toNat).2.1],([(at_ Aj s10 s12.toNat).1,(at_ Aj s10 s12.toNat).2.1],())))).bind fun r10=>
      if (decide (r10.1>=(0:Int)))=true then
       some (.inl (false,()))
      else
       let x11:=IntKind.wrap .i64 (s12+(1:Int))
       back ((s1,(s10,(s11,(x11,())))))
      else none
     else
      let x12:=IntKind.wrap .i64 (s12+(1:Int))
      back ((s1,(s10,(s11,(x12,())))))
  else none
 else
  some (.inr (.inl ()))
def QM (N:Nat):Nat->ML->Option Mo
 | 0,_=>none
 | k+1,d=>KK N (QM N k) d
def Vx (N:Nat) (d:Gr×Unit):Option (Bool×Unit):=
 let a0:=d.1
 let r1:=Ju ((a0.1,((0:Int),((8:Int),()))))
 if (!r1.1)=true then
  some (false,())
 else
  (QM N N ((a0,(a0.2.1,((List.length a0.2.1:Int),((0:Int),())))))).bind fun o6=>match o6 with
  | .inl d7=>
   some (d7.1,())
  | .inr (.inl d8)=>
   some (true,())
def JI:FSig:=⟨[(Ac,false)],[.bool],true,(Bt)⟩
def Avn:Ctx:={ tk:=Ad tks,ar:=Ad ars,fs:=Ad [(67,Wv)] }
abbrev NV:=Int×Int×List Int×Int×Int×Unit
abbrev Nq:=(Bool×Unit)⊕Unit⊕Empty
def Akz:AU:=[(1,.v I),(2,.v I),(9,.v Af),(10,.v I),(11,.v I)]
def Aii:AJ:=[(.ret,[(6,.v .bool)]),(.normal,[])]
def KB (N:Nat) (back:NV->Option Nq) (d:NV):Option Nq:=
 let s1:=d.1
 let s2:=d.2.1
 let s9:=d.2.2.1
 let s10:=d.2.2.2.1
 let s11:=d.2.2.2.2.1
 if (decide (s11<s10))=true then
  if (Ak s11 (List.length s9))=true then
  let r6:=Ju ((at_ I s9 s11.toNat,(s1,(s2,()))))
  if (!r6.1)=true then
   some (.inl (false,()))
  else
   let x7:=IntKind.wrap .i64 (s11+(1:Int))
   back ((s1,(s2,(s9,(s10,(x7,()))))))
  else none
 else
  some (.inr (.inl ()))
def Qq (N:Nat):Nat->NV->Option Nq
 | 0,_=>none
 | k+1,d=>KB N (Qq N k) d
def UI (N:Nat) (d:List Int×Int×Int×Unit):Option (Bool×Unit):=
 let a0:=d.1
 let a1:=d.2.1
 let a2:=d.2.2.1
 (Qq N N ((a1,(a2,(a0,((List.length a0:Int),((0:Int),()))))))).bind fun o3=>match o3 with
 | .inl d4=>
  some (d4.1,())
 | .inr (.inl d5)=>
  some (true,())
def YN:FSig:=⟨[(Af,false),(I,false),(I,false)],[.bool],true,(CQ)⟩
def As9:Ctx:={ tk:=Ad tks,ar:=Ad ars,fs:=Ad [] }
abbrev Oe:=Int×List Int×Int×Int×Unit
abbrev ND:=(Int×Unit)⊕Empty
def Ajn:AU:=[(3,.v I),(6,.v Af),(7,.v I),(8,.v I)]
def Ahj:AJ:=[(.normal,[(3,.v I)])]
def J1 (N:Nat) (back:Oe->Option ND) (d:Oe):Option ND:=
 let s3:=d.1
 let s6:=d.2.1
 let s7:=d.2.2.1
 let s8:=d.2.2.2.1
 if (decide (s8<s7))=true then
  if (Ak s8 (List.length s6))=true then
  if (decide (0<=at_ I s6 s8.toNat))=true then
  let x5:=shl .i64 (1:Int) (at_ I s6 s8.toNat)
  let x6:=IntKind.wrap .i64 (s8+(1:Int))
  back ((bits .or .i64 s3 x5,(s6,(s7,(x6,())))))
  else none
  else none
 else
  some (.inl (s3,()))
def KG (N:Nat):Nat->Oe->Option ND
 | 0,_=>none
 | k+1,d=>J1 N (KG N k) d
def VP (N:Nat) (d:List Int×Unit):Option (Int×Unit):=
 let a0:=d.1
 (KG N N (((0:Int),(a0,((List.length a0:Int),((0:Int),())))))).bind fun o3=>match o3 with
 | .inl d4=>
  some (d4.1,())
def WP:FSig:=⟨[(Af,false)],[I],true,(Fb)⟩
def Aui:Ctx:={ tk:=Ad tks,ar:=Ad ars,fs:=Ad [(87,WP),(147,YN)] }
def SC (N:Nat) (d:Gr×List Int×Unit):Option (Bool×Unit):=
 let a0:=d.1
 let a1:=d.2.1
 if ((List.length a1:Int)==a0.1)=true then
  let x1:=IntKind.wrap .i64 (a0.1-(1:Int))
  (CQ ((a1,((0:Int),(x1,()))))).bind fun r2=>
  if (r2.1)=true then
   (Fb (a1,())).bind fun r3=>
   if (decide (0<=a0.1))=true then
   let x4:=IntKind.wrap .i64 (shl .i64 (1:Int) a0.1-(1:Int))
   some (r3.1==x4,())
   else none
  else
   some (false,())
 else
  some (false,())
def Aov:FSig:=⟨[(Ac,false),(Af,false)],[.bool],true,(SC 0)⟩
def Tu:Ctx:={ tk:=Ad tks,ar:=Ad ars,fs:=Ad [] }
abbrev FD:=(List Int×Unit)×(List Int×Unit)×(List (Int×Int×Unit))×Int×Int×Unit
abbrev Fq:=((List Int×Unit)×(List Int×Unit)×Unit)⊕Empty
def PV:AU:=[(2,.box AL 99),(3,.box AL 99),(11,.v Bw),(12,.v I),(13,.v I)]
def PW:AJ:=[(.normal,[(2,.box AL 99),(3,.box AL 99)])]
def C4 (N:Nat) (back:FD->Option Fq) (d:FD):Option Fq:=
 let s2:=d.1
 let s3:=d.2.1
 let s11:=d.2.2.1
 let s12:=d.2.2.2.1
 let s13:=d.2.2.2.2.1
 if (decide (s13<s12))=true then
  if (Ak s13 (List.length s11))=true then
  if (Ak (at_ Aj s11 s13.toNat).1 (List.length s3.1))=true then
  if (decide (0<=(at_ Aj s11 s13.toNat).2.1))=true then
  let x9:=shl .i64 (1:Int) (at_ Aj s11 s13.toNat).2.1
  let x10:=bits .or .i64 (at_ I s3.1 (at_ Aj s11 s13.toNat).1.toNat) x9
  if (Ak (at_ Aj s11 s13.toNat).1 (List.length s3.1))=true then
  if (Ak (at_ Aj s11 s13.toNat).2.1 (List.length (List.set s3.1 (at_ Aj s11 s13.toNat).1.toNat x10)))=true then
  if (decide (0<=(at_ Aj s11 s13.toNat).1))=true then
  let x11:=shl .i64 (1:Int) (at_ Aj s11 s13.toNat).1
  let x12:=bits .or .i64 (at_ I (List.set s3.1 (at_ Aj s11 s13.toNat).1.toNat x10) (at_ Aj s11 s13.toNat).2.1.toNat) x11
  if (Ak (at_ Aj s11 s13.toNat).2.1 (List.length (List.set s3.1 (at_ Aj s11 s13.toNat).1.toNat x10)))=true then
  let x13:=IntKind.wrap .i64 (s13+(1:Int))
  back ((s2,((List.set (List.set s3.1 (at_ Aj s11 s13.toNat).1.toNat x10) (at_ Aj s11 s13.toNat).2.1.toNat x12,s3.2),(s11,(s12,(x13,()))))))
  else none
  else none
  else none
  else none
  else none
  else none
  else none
 else
  some (.inl ((s2,(s3,()))))
def CC (N:Nat):Nat->FD->Option Fq
 | 0,_=>none
 | k+1,d=>C4 N (CC N k) d
def F3 (N:Nat) (d:Gr×Unit):Option ((List Int×Unit)×Unit):=
 let a0:=d.1
 if ((decide (0<=a0.1)&&decide (a0.1<=a0.1)&&decide (a0.1<=(lim:Int))))=true then
 let x1:=List.replicate a0.1.toNat (0:Int)
 (CC N N (((([]:List Int),()),((x1,()),(a0.2.1,((List.length a0.2.1:Int),((0:Int),()))))))).bind fun o7=>match o7 with
 | .inl d8=>
  some (d8.2.1,())
 else none
def Cv:FSig:=⟨[(Ac,false)],[AL],true,(DP)⟩
def Tt:Ctx:={ tk:=Ad tks,ar:=Ad ars,fs:=Ad [] }
abbrev FL:=Int×List Int×Int×Unit
abbrev FH:=(List Int×Unit)⊕Empty
def Qb:AU:=[(0,.v I),(3,.own Af 99),(4,.v I)]
def P7:AJ:=[(.normal,[(3,.own Af 99)])]
def C9 (N:Nat) (back:FL->Option FH) (d:FL):Option FH:=
 let s0:=d.1
 let s3:=d.2.1
 let s4:=d.2.2.1
 if (decide (0<=s4))=true then
 if (shr .i64 s0 s4 != (0:Int))=true then
  if (decide (0<=s4))=true then
  let x6:=bits .and .i64 (shr .i64 s0 s4) (1:Int)
  if (x6==(1:Int))=true then
   if (decide (List.length s3+List.length ([s4])<=lim))=true then
   let x7:=IntKind.wrap .i64 (s4+(1:Int))
   back ((s0,(s3++([s4]),(x7,()))))
   else none
  else
   let x8:=IntKind.wrap .i64 (s4+(1:Int))
   back ((s0,(s3,(x8,()))))
  else none
 else
  some (.inl (s3,()))
 else none
def Df (N:Nat):Nat->FL->Option FH
 | 0,_=>none
 | k+1,d=>C9 N (Df N k) d
def F1 (N:Nat) (d:Int×Unit):Option (List Int×Unit):=
 let a0:=d.1
 (Df N N ((a0,(([]:List Int),((0:Int),()))))).bind fun o4=>match o4 with
 | .inl d5=>
  some (d5.1,())
def Cn:FSig:=⟨[(I,false)],[Af],true,(Di)⟩
def Aut:Ctx:={ tk:=Ad tks,ar:=Ad ars,fs:=Ad [] }
def IE (N:Nat) (d:(List Int×Unit)×Int×Unit):Option (Int×Unit):=
 let a0:=d.1
 let a1:=d.2.1
 if (Ak a1 (List.length a0.1))=true then
 if (decide (0<=a1))=true then
 let x1:=bits .or .i64 (at_ I a0.1 a1.toNat) (shl .i64 (1:Int) a1)
 some (x1,())
 else none
 else none
def Rv:FSig:=⟨[(AL,false),(I,false)],[I],true,(IE 0)⟩
def Aum:Ctx:={ tk:=Ad tks,ar:=Ad ars,fs:=Ad [(91,Cn),(148,Rv)] }
abbrev MJ:=Int×Int×(List Int×Unit)×List Int×List Int×Int×Int×Unit
abbrev O3:=(List Int×Unit)⊕Empty
def Ahg:AU:=[(1,.v I),(2,.v I),(3,.box AL 0),(7,.own Af 99),(14,.own Af 99),(15,.v I),(16,.v I)]
def Age:AJ:=[(.normal,[(7,.own Af 99)])]
def Kx (N:Nat) (back:MJ->Option O3) (d:MJ):Option O3:=
 let s1:=d.1
 let s2:=d.2.1
 let s3:=d.2.2.1
 let s7:=d.2.2.2.1
 let s14:=d.2.2.2.2.1
 let s15:=d.2.2.2.2.2.1
 let s16:=d.2.2.2.2.2.2.1
 if (decide (s16<s15))=true then
  if (Ak s16 (List.length s14))=true then
  ((IE 0) ((s3,(s2,())))).bind fun r11=>
  ((IE 0) ((s3,(at_ I s14 s16.toNat,())))).bind fun r12=>
  let x13:=bits .andNot .i64 (bits .and .i64 r11.1 s1) r12.1
  if (x13==(0:Int))=true then
   if (decide (List.length s7+List.length ([at_ I s14 s16.toNat])<=lim))=true then
   let x14:=s7++([at_ I s14 s16.toNat])
   let x15:=IntKind.wrap .i64 (s16+(1:Int))
   back ((s1,(s2,(s3,(x14,(s14,(s15,(x15,()))))))))
   else none
  else
   let x16:=IntKind.wrap .i64 (s16+(1:Int))
   back ((s1,(s2,(s3,(s7,(s14,(s15,(x16,()))))))))
  else none
 else
  some (.inl (s7,()))
def Qj (N:Nat):Nat->MJ->Option O3
 | 0,_=>none
 | k+1,d=>Kx N (Qj N k) d
def UZ (N:Nat) (d:(List Int×Unit)×Int×Int×Unit):Option (List Int×Unit):=
 let a0:=d.1
 let a1:=d.2.1
 let a2:=d.2.2.1
 if (decide (0<=a2))=true then
 let x1:=bits .andNot .i64 a1 (shl .i64 (1:Int) a2)
 (Di (x1,())).bind fun r2=>
 (Qj N N ((a1,(a2,(a0,(([]:List Int),(r2.1,((List.length r2.1:Int),((0:Int),()))))))))).bind fun o9=>match o9 with
 | .inl d10=>
  some (d10.1,())
 else none
def S7:FSig:=⟨[(AL,false),(I,false),(I,false)],[Af],true,(Cp)⟩
def Awb:Ctx:={ tk:=Ad tks,ar:=Ad ars,fs:=Ad [(20,JI),(54,Cv),(85,Aov),(86,S7),(87,WP)] }
abbrev OF:=List Int×(List Int×Unit)×List Int×Int×Int×Unit
abbrev N7:=(Bool×Bool×Unit)⊕Unit⊕Empty
def Alk:AU:=[(1,.v Af),(6,.box AL 99),(27,.v Af),(28,.v I),(29,.v I)]
def Alh:AJ:=[(.ret,[(4,.v .bool),(5,.v .bool)]),(.normal,[])]
def HD (N:Nat) (back:OF->Option N7) (d:OF):Option N7:=
 let s1:=d.1
 let s6:=d.2.1
 let s27:=d.2.2.1
 let s28:=d.2.2.2.1
 let s29:=d.2.2.2.2.1
 if (decide (s29<s28))=true then
  if (Ak s29 (List.length s27))=true then
  if ((decide (0<=s29)&&decide (s29<=(List.length s1:Int))&&decide ((List.length s1:Int)<=(List.length s1:Int))))=true then
  let x12:=B1 s1 s29 (List.length s1:Int)
  (Fb (x12,())).bind fun r13=>
  (Cp ((s6,(r13.1,(at_ I s27 s29.toNat,()))))).bind fun r14=>
  if ((List.length r14.1:Int)==(0:Int))=true then
   some (.inl ((false,(true,()))))
  else
   let x15:=IntKind.wrap .i64 (s29+(1:Int))
   back ((s1,(s6,(s27,(s28,(x15,()))))))
  else none
  else none
 else
  some (.inr (.inl ()))
def Qy (N:Nat):Nat->OF->Option N7
 | 0,_=>none
 | k+1,d=>HD N (Qy N k) d
def UT (N:Nat) (d:Gr×List Int×Unit):Option (Bool×Bool×Unit):=
 let a0:=d.1
 let a1:=d.2.1
 (Bt (a0,())).bind fun r1=>
 if (!r1.1)=true then
  some ((false,(false,())))
 else
  if (a0.1==(0:Int))=true then
   some ((false,(false,())))
  else
   ((SC 0) ((a0,(a1,())))).bind fun r2=>
   if (!r2.1)=true then
    some ((false,(true,())))
   else
    (DP (a0,())).bind fun r3=>
    let x4:=IntKind.wrap .i64 (a0.1-(1:Int))
    if ((decide (0<=(0:Int))&&decide ((0:Int)<=x4)&&decide (x4<=(List.length a1:Int))))=true then
    (Qy N N ((a1,(r3.1,(B1 a1 (0:Int) x4,((List.length (B1 a1 (0:Int) x4):Int),((0:Int),()))))))).bind fun o9=>match o9 with
    | .inl d10=>
     some ((d10.1,(d10.2.1,())))
    | .inr (.inl d11)=>
     some ((true,(true,())))
    else none
def Anz:FSig:=⟨[(Ac,false),(Af,false)],[.bool,.bool],true,(CK)⟩
def Aux:Ctx:={ tk:=Ad tks,ar:=Ad ars,fs:=Ad [(138,Iu)] }
abbrev Mq:=List Int×Gr×Int×Unit
abbrev M3:=(Bool×Unit)⊕(List Int×Gr×Unit)⊕Empty
def Aiz:AU:=[(1,.v Af),(2,.box Ac 0),(5,.v I)]
def Ale:AJ:=[(.ret,[(4,.v .bool)]),(.normal,[(1,.v Af),(2,.box Ac 0)])]
def Ki (N:Nat) (back:Mq->Option M3) (d:Mq):Option M3:=
 let s1:=d.1
 let s2:=d.2.1
 let s5:=d.2.2.1
 if (decide (s5<s2.1))=true then
  (E7 ((s1,(s5,())))).bind fun r6=>
  if (!r6.1)=true then
   some (.inl (false,()))
  else
   let x7:=IntKind.wrap .i64 (s5+(1:Int))
   back ((s1,(s2,(x7,()))))
 else
  some (.inr (.inl ((s1,(s2,())))))
def Ri (N:Nat):Nat->Mq->Option M3
 | 0,_=>none
 | k+1,d=>Ki N (Ri N k) d
def Vt (N:Nat) (d:Gr×List Int×Unit):Option (Bool×Unit):=
 let a0:=d.1
 let a1:=d.2.1
 (Ri N N ((a1,(a0,((0:Int),()))))).bind fun o3=>match o3 with
 | .inl d4=>
  some (d4.1,())
 | .inr (.inl d5)=>
  some ((List.length d5.1:Int)==d5.2.1.1,())
def Amg:FSig:=⟨[(Ac,false),(Af,false)],[.bool],true,(H0)⟩
def Av8:Ctx:={ tk:=Ad tks,ar:=Ad ars,fs:=Ad [(93,Is),(95,VW),(149,Amg),(150,Aa0)] }
abbrev MT:=List Int×Gr×List Int×Int×Unit
abbrev M0:=(Bool×Unit)⊕Unit⊕Empty
def Aji:AU:=[(1,.v Af),(2,.box Ac 0),(5,.own Af 99),(6,.v I)]
def Ak6:AJ:=[(.ret,[(4,.v .bool)]),(.normal,[])]
def Hb (N:Nat) (back:MT->Option M0) (d:MT):Option M0:=
 let s1:=d.1
 let s2:=d.2.1
 let s5:=d.2.2.1
 let s6:=d.2.2.2.1
 let x10:=IntKind.wrap .i64 (s6+(1:Int))
 if (decide (x10<(List.length s1:Int)))=true then
  if (Ak s6 (List.length s1))=true then
  (EG ((s2,(s5,(at_ I s1 s6.toNat,()))))).bind fun r11=>
  if (decide (r11.1<(0:Int)))=true then
   some (.inl (false,()))
  else
   if (Ak s6 (List.length s1))=true then
   (CO ((s5,(at_ I s1 s6.toNat,())))).bind fun r12=>
   let x13:=IntKind.wrap .i64 (s6+(1:Int))
   back ((s1,(s2,(r12.1,(x13,())))))
   else none
  else none
 else
  some (.inr (.inl ()))
def QX (N:Nat):Nat->MT->Option M0
 | 0,_=>none
 | k+1,d=>Hb N (QX N k) d
def Vw (N:Nat) (d:Gr×List Int×Unit):Option (Bool×Unit):=
 let a0:=d.1
 let a1:=d.2.1
 ((B7 0) (a0,())).bind fun r1=>
 (H0 ((a0,(a1,())))).bind fun r2=>
 if (!r2.1)=true then
  some (false,())
 else
  (QX N N ((a1,(a0,(r1.1,((0:Int),())))))).bind fun o7=>match o7 with
  | .inl d8=>
   some (d8.1,())
  | .inr (.inl d9)=>
   some (true,())
def Am1:FSig:=⟨[(Ac,false),(Af,false)],[.bool],true,(Ht)⟩
def As4:Ctx:={ tk:=Ad tks,ar:=Ad ars,fs:=Ad [(88,Pp),(89,Am1)] }
def RS (N:Nat) (d:Gr×List Int×Unit):Option (Bool×Bool×Unit):=
 let a0:=d.1
 let a1:=d.2.1
 ((Fl 0) (a0,())).bind fun r1=>
 if (!r1.1)=true then
  some ((false,(false,())))
 else
  (Ht ((a0,(a1,())))).bind fun r2=>
  some ((r2.1,(true,())))
def Ame:FSig:=⟨[(Ac,false),(Af,false)],[.bool,.bool],true,(RS 0)⟩
def Auz:Ctx:={ tk:=Ad tks,ar:=Ad ars,fs:=Ad [] }
def Jv (N:Nat) (d:(List Int×Unit)×Unit):Option (Int×Unit):=
 let a0:=d.1
 if (decide (0<=(List.length a0.1:Int)))=true then
 let x1:=shl .i64 (1:Int) (List.length a0.1:Int)
 let x2:=IntKind.wrap .i64 (x1-(1:Int))
 some (x2,())
 else none
def Acp:FSig:=⟨[(AL,false)],[I],true,(Jv 0)⟩
def Ath:Ctx:={ tk:=Ad tks,ar:=Ad ars,fs:=Ad [(86,S7)] }
def VH (N:Nat) (d:Int×(List Int×Unit)×Int×Unit):Option (Bool×Unit):=
 let a0:=d.1
 let a1:=d.2.1
 let a2:=d.2.2.1
 (Cp ((a1,(a2,(a0,()))))).bind fun r1=>
 some ((List.length r1.1:Int)==(0:Int),())
def Aym:FSig:=⟨[(I,false),(Kl,false),(Yj,false)],[.bool],true,(VH 0)⟩
def Mf (d:Int×(Unit×(List Int×Unit)×Int×Unit)×Unit):Option (Bool×Unit):=(VH 0) (d.1,d.2.1.2)
def Ve:FSig:=⟨[(I,false),(Br,false)],[.bool],true,Mf⟩
def Aw6:Ctx:={ tk:=Ad tks,ar:=Ad ars,fs:=Ad [],cs:=Ad [(152,Ve)] }
abbrev SL:=List Int×(Unit×(List Int×Unit)×Int×Unit)×Int×Int×Unit
abbrev R7:=(Int×Unit)⊕Unit⊕Empty
def Aru:AU:=[(0,.v Af),(1,.v Br),(7,.v I),(8,.v I)]
def Amp:AJ:=[(.ret,[(4,.v I)]),(.normal,[])]
def Mc (N:Nat) (back:SL->Option R7) (d:SL):Option R7:=
 let s0:=d.1
 let s1:=d.2.1
 let s7:=d.2.2.1
 let s8:=d.2.2.2.1
 if (decide (s8<s7))=true then
  if (Ak s8 (List.length s0))=true then
  (Mf ((at_ I s0 s8.toNat,(s1,())))).bind fun r6=>
  if (r6.1)=true then
   some (.inl (s8,()))
  else
   let x7:=IntKind.wrap .i64 (s8+(1:Int))
   back ((s0,(s1,(s7,(x7,())))))
  else none
 else
  some (.inr (.inl ()))
def VR (N:Nat):Nat->SL->Option R7
 | 0,_=>none
 | k+1,d=>Mc N (VR N k) d
def Aes (N:Nat) (d:List Int×(Unit×(List Int×Unit)×Int×Unit)×Unit):Option (Int×Unit):=
 let a0:=d.1
 let a1:=d.2.1
 (VR N N ((a0,(a1,((List.length a0:Int),((0:Int),())))))).bind fun o3=>match o3 with
 | .inl d4=>
  some (d4.1,())
 | .inr (.inl d5)=>
  some ((-1:Int),())
def Awd:FSig:=⟨[(Af,false),(Br,false)],[I],true,(EE)⟩
def Ay9:Ctx:={ tk:=Ad tks,ar:=Ad ars,fs:=Ad [(180,Awd)],cs:=Ad [(152,Ve)],gs:=Ad [],eqt:=inL [],md:={ gone:=[0],deep:=[] },subs:=fun t=>Nat.beq t 38 }
abbrev SH:=List Int×(Unit×(List Int×Unit)×Int×Unit)×Int×Int×Unit
abbrev S0:=(List Int×Int×Unit)⊕Empty
def Apk:AU:=[(0,.own Af 1),(1,.v Br),(5,.v I),(6,.v I)]
def Anj:AJ:=[(.normal,[(0,.own Af 1),(5,.v I)])]
def Jn (N:Nat) (back:SH->Option S0) (d:SH):Option S0:=
 let s0:=d.1
 let s1:=d.2.1
 let s5:=d.2.2.1
 let s6:=d.2.2.2.1
 if (decide (s6<(List.length s0:Int)))=true then
  if (Ak s6 (List.length s0))=true then
  (Mf ((at_ I s0 s6.toNat,(s1,())))).bind fun r21=>
  if (!r21.1)=true then
   if (Ak s5 (List.length s0))=true then
   let x22:=List.set s0 s5.toNat (at_ I s0 s6.toNat)
   let x23:=IntKind.wrap .i64 (s5+(1:Int))
   let x24:=IntKind.wrap .i64 (s6+(1:Int))
   back ((x22,(s1,(x23,(x24,())))))
   else none
  else
   let x25:=IntKind.wrap .i64 (s6+(1:Int))
   back ((s0,(s1,(s5,(x25,())))))
  else none
 else
  some (.inl ((s0,(s5,()))))
def WF (N:Nat):Nat->SH->Option S0
 | 0,_=>none
 | k+1,d=>Jn N (WF N k) d
def Aez (N:Nat) (d:List Int×(Unit×(List Int×Unit)×Int×Unit)×Unit):Option (List Int×List Int×Unit):=
 let a0:=d.1
 let a1:=d.2.1
 (EE ((a0,(a1,())))).bind fun r11=>
 if (r11.1==(-1:Int))=true then
  some ((a0,(([]:List Int),())))
 else
  let x12:=IntKind.wrap .i64 (r11.1+(1:Int))
  (WF N N ((a0,(a1,(r11.1,(x12,())))))).bind fun o18=>match o18 with
  | .inl d19=>
   if ((decide (0<=d19.2.1)&&decide (d19.2.1<(List.length d19.1:Int))))=true then
   if ((decide (0<=(0:Int))&&decide ((0:Int)<=d19.2.1)&&decide (d19.2.1<=(List.length (clr d19.1 (d19.2.1.toNat)):Int))))=true then
   let x20:=B1 (clr d19.1 (d19.2.1.toNat)) (0:Int) d19.2.1
   some ((x20,(([]:List Int),())))
   else none
   else none
def Awj:FSig:=⟨[(Af,true),(Br,false)],[Af],false,(Ic)⟩
def Asq:Ctx:={ tk:=Ad tks,ar:=Ad ars,fs:=Ad [(91,Cn)],cs:=Ad [],gs:=Ad [(151,(Awj,{ gone:=[0],deep:=[] }))],eqt:=inL [],md:=md0,fz:=fun t=>Nat.beq t 2||Nat.beq t 3 }
def Lc (N:Nat) (d:(List Int×Unit)×Int×Unit):Option (List Int×Unit):=
 let a0:=d.1
 let a1:=d.2.1
 (Di (a1,())).bind fun r3=>
 (Ic ((r3.1,(((),(a0,(a1,()))),())))).bind fun r4=>
 some (r4.1,())
def Ab0:FSig:=⟨[(AL,false),(I,false)],[Af],false,(Lc 0)⟩
def Avm:Ctx:={ tk:=Ad tks,ar:=Ad ars,fs:=Ad [(86,S7),(96,Ab0),(97,Acp)] }
abbrev NE:=(List Int×Unit)×(List (Int×Int×Unit))×Int×Unit
abbrev Nh:=((List (Int×Int×Unit))×Int×Unit)⊕Empty
def Aie:AU:=[(1,.box AL 0),(4,.own Bw 99),(5,.v I)]
def Ak7:AJ:=[(.ret,[(2,.own Bw 99),(3,.v I)])]
def Ib (N:Nat) (back:NE->Option Nh) (d:NE):Option Nh:=
 let s1:=d.1
 let s4:=d.2.1
 let s5:=d.2.2.1
 ((Lc 0) ((s1,(s5,())))).bind fun r8=>
 if ((List.length r8.1:Int)==(0:Int))=true then
  some (.inl ((s4,(s5,()))))
 else
  if (Ak (0:Int) (List.length r8.1))=true then
  (Cp ((s1,(s5,(at_ I r8.1 (0:Int).toNat,()))))).bind fun r9=>
  if (Ak (0:Int) (List.length r9.1))=true then
  if (decide (List.length s4+List.length ([(at_ I r8.1 (0:Int).toNat,(at_ I r9.1 (0:Int).toNat,()))])<=lim))=true then
  let x10:=s4++([(at_ I r8.1 (0:Int).toNat,(at_ I r9.1 (0:Int).toNat,()))])
  if (decide (0<=at_ I r8.1 (0:Int).toNat))=true then
  let x11:=shl .i64 (1:Int) (at_ I r8.1 (0:Int).toNat)
  back ((s1,(x10,(bits .andNot .i64 s5 x11,()))))
  else none
  else none
  else none
  else none
def Qk (N:Nat):Nat->NE->Option Nh
 | 0,_=>none
 | k+1,d=>Ib N (Qk N k) d
def WO (N:Nat) (d:(List Int×Unit)×Unit):Option ((List (Int×Int×Unit))×Int×Unit):=
 let a0:=d.1
 ((Jv 0) (a0,())).bind fun r1=>
 (Qk N N ((a0,(([]:List (Int×Int×Unit)),(r1.1,()))))).bind fun o6=>match o6 with
 | .inl d7=>
  some ((d7.1,(d7.2.1,())))
def Aao:FSig:=⟨[(AL,false)],[Bw,I],true,(Dt)⟩
def Aur:Ctx:={ tk:=Ad tks,ar:=Ad ars,fs:=Ad [(20,JI),(54,Cv),(90,Aao),(91,Cn)] }
abbrev N4:=Int×List Int×(List (Int×Int×Unit))×Int×Int×Unit
abbrev Ps:=(Int×List Int×Unit)⊕Empty
def Akq:AU:=[(5,.v I),(6,.own Af 99),(28,.own Bw 99),(29,.v I),(30,.v I)]
def Ajo:AJ:=[(.normal,[(5,.v I),(6,.own Af 99)])]
def J5 (N:Nat) (back:N4->Option Ps) (d:N4):Option Ps:=
 let s5:=d.1
 let s6:=d.2.1
 let s28:=d.2.2.1
 let s29:=d.2.2.2.1
 let s30:=d.2.2.2.2.1
 if (decide (s30<s29))=true then
  if (Ak s30 (List.length s28))=true then
  if (decide (List.length s6+List.length ([(at_ Aj s28 s30.toNat).1])<=lim))=true then
  let x10:=s6++([(at_ Aj s28 s30.toNat).1])
  let x11:=IntKind.wrap .i64 (s30+(1:Int))
  back ((s5,(x10,(s28,(s29,(x11,()))))))
  else none
  else none
 else
  some (.inl ((s5,(s6,()))))
def Q3 (N:Nat):Nat->N4->Option Ps
 | 0,_=>none
 | k+1,d=>J5 N (Q3 N k) d
def UQ (N:Nat) (d:Gr×Unit):Option (List Int×Bool×Unit):=
 let a0:=d.1
 (Bt (a0,())).bind fun r1=>
 if (!r1.1)=true then
  some ((([]:List Int),(false,())))
 else
  if (a0.1==(0:Int))=true then
   some ((([]:List Int),(false,())))
  else
   (DP (a0,())).bind fun r2=>
   (Dt (r2.1,())).bind fun r3=>
   let x4:=IntKind.wrap .i64 (r3.2.1-(1:Int))
   if (bits .and .i64 r3.2.1 x4 != (0:Int))=true then
    some ((([]:List Int),(false,())))
   else
    (Q3 N N ((r3.2.1,(([]:List Int),(r3.1,((List.length r3.1:Int),((0:Int),()))))))).bind fun o7=>match o7 with
    | .inl d8=>
     (Di (d8.1,())).bind fun r9=>
     if (decide (List.length d8.2.1+List.length r9.1<=lim))=true then
     some ((d8.2.1++r9.1,(true,())))
     else none
def Ar2:FSig:=⟨[(Ac,false)],[Af,.bool],true,(EF)⟩
def Au1:Ctx:={ tk:=Ad tks,ar:=Ad ars,fs:=Ad [(20,JI),(54,Cv),(96,Ab0),(97,Acp)] }
abbrev OO:=(List Int×Unit)×List Int×Int×List Int×Int×Int×Unit
abbrev MD:=((List Int×Unit)×List Int×Int×Unit)⊕Empty
def Alz:AU:=[(4,.box AL 0),(5,.own Af 99),(6,.v I),(39,.v Af),(40,.v I),(41,.v I)]
def Ah1:AJ:=[(.normal,[(4,.box AL 0),(5,.own Af 99),(6,.v I)])]
def G7 (N:Nat) (back:OO->Option MD) (d:OO):Option MD:=
 let s4:=d.1
 let s5:=d.2.1
 let s6:=d.2.2.1
 let s39:=d.2.2.2.1
 let s40:=d.2.2.2.2.1
 let s41:=d.2.2.2.2.2.1
 if (decide (s41<s40))=true then
  if (Ak s41 (List.length s39))=true then
  if (Ak s6 (List.length s5))=true then
  if (decide (0<=at_ I s39 s41.toNat))=true then
  let x37:=shl .i64 (1:Int) (at_ I s39 s41.toNat)
  if (Ak (bits .andNot .i64 s6 x37) (List.length s5))=true then
  let x38:=IntKind.wrap .i64 (at_ I s5 s6.toNat+at_ I s5 (bits .andNot .i64 s6 x37).toNat)
  if (Ak s6 (List.length s5))=true then
  let x39:=IntKind.wrap .i64 (s41+(1:Int))
  back ((s4,(List.set s5 s6.toNat x38,(s6,(s39,(s40,(x39,())))))))
  else none
  else none
  else none
  else none
  else none
 else
  some (.inl ((s4,(s5,(s6,())))))
def QO (N:Nat):Nat->OO->Option MD
 | 0,_=>none
 | k+1,d=>G7 N (QO N k) d
abbrev NI:=(List Int×Unit)×List Int×Int×Unit
abbrev Ni:=((List Int×Unit)×List Int×Unit)⊕Empty
def Ahy:AU:=[(4,.box AL 0),(5,.own Af 99),(6,.v I)]
def Afh:AJ:=[(.normal,[(4,.box AL 0),(5,.own Af 99)])]
def HS (N:Nat) (back:NI->Option Ni) (d:NI):Option Ni:=
 let s4:=d.1
 let s5:=d.2.1
 let s6:=d.2.2.1
 if (decide (s6<(List.length s5:Int)))=true then
  let x27:=IntKind.wrap .i64 (s6-(1:Int))
  if (bits .and .i64 s6 x27==(0:Int))=true then
   if (Ak s6 (List.length s5))=true then
   let x28:=List.set s5 s6.toNat (1:Int)
   let x29:=IntKind.wrap .i64 (s6+(1:Int))
   back ((s4,(x28,(x29,()))))
   else none
  else
   ((Lc 0) ((s4,(s6,())))).bind fun r30=>
   (QO N N ((s4,(s5,(s6,(r30.1,((List.length r30.1:Int),((0:Int),())))))))).bind fun o34=>match o34 with
   | .inl d35=>
    let x36:=IntKind.wrap .i64 (d35.2.2.1+(1:Int))
    back ((d35.1,(d35.2.1,(x36,()))))
 else
  some (.inl ((s4,(s5,()))))
def QD (N:Nat):Nat->NI->Option Ni
 | 0,_=>none
 | k+1,d=>HS N (QD N k) d
def Ws (N:Nat) (d:Gr×Unit):Option (Int×Bool×Unit):=
 let a0:=d.1
 (Bt (a0,())).bind fun r1=>
 if (!r1.1)=true then
  some (((0:Int),(false,())))
 else
  if (a0.1==(0:Int))=true then
   some (((0:Int),(false,())))
  else
   (DP (a0,())).bind fun r2=>
   if (decide (0<=a0.1))=true then
   if ((decide (0<=shl .i64 (1:Int) a0.1)&&decide (shl .i64 (1:Int) a0.1<=shl .i64 (1:Int) a0.1)&&decide (shl .i64 (1:Int) a0.1<=(lim:Int))))=true then
   let x3:=List.replicate (shl .i64 (1:Int) a0.1).toNat (0:Int)
   (QD N N ((r2.1,(x3,((1:Int),()))))).bind fun o24=>match o24 with
   | .inl d25=>
    ((Jv 0) (d25.1,())).bind fun r26=>
    if (Ak r26.1 (List.length d25.2.1))=true then
    some ((at_ I d25.2.1 r26.1.toNat,(true,())))
    else none
   else none
   else none
def Aqk:FSig:=⟨[(Ac,false)],[I,.bool],true,(G4)⟩
def Avf:Ctx:={ tk:=Ad tks,ar:=Ad ars,fs:=Ad [(88,Pp),(94,VN),(98,ZO)] }
abbrev Po:=Gr×List Int×Int×Int×List Int×Int×Unit
abbrev Om:=(Gr×List Int×Int×Int×Unit)⊕Empty
def Aj9:AU:=[(1,.box Ac 0),(4,.own Af 99),(5,.v I),(7,.v I),(8,.own Af 99),(9,.v I)]
def Ah3:AJ:=[(.normal,[(1,.box Ac 0),(4,.own Af 99),(5,.v I),(7,.v I)])]
def G5 (N:Nat) (back:Po->Option Om) (d:Po):Option Om:=
 let s1:=d.1
 let s4:=d.2.1
 let s5:=d.2.2.1
 let s7:=d.2.2.2.1
 let s8:=d.2.2.2.2.1
 let s9:=d.2.2.2.2.2.1
 if (decide (s9<(List.length s8:Int)))=true then
  if (Ak s9 (List.length s8))=true then
  if (decide (0<=at_ I s8 s9.toNat))=true then
  let x29:=shl .i64 (1:Int) (at_ I s8 s9.toNat)
  if (Ak (IntKind.wrap .i64 (s5-x29)) (List.length s4))=true then
  let x30:=IntKind.wrap .i64 (s7+at_ I s4 (IntKind.wrap .i64 (s5-x29)).toNat)
  let x31:=IntKind.wrap .i64 (s9+(1:Int))
  back ((s1,(s4,(s5,(x30,(s8,(x31,())))))))
  else none
  else none
  else none
 else
  some (.inl ((s1,(s4,(s5,(s7,()))))))
def Ma (N:Nat):Nat->Po->Option Om
 | 0,_=>none
 | k+1,d=>G5 N (Ma N k) d
abbrev N1:=Gr×List Int×Int×Unit
abbrev Ox:=(List Int×Unit)⊕Empty
def Ag7:AU:=[(1,.box Ac 0),(4,.own Af 99),(5,.v I)]
def Al3:AJ:=[(.normal,[(4,.own Af 99)])]
def Ih (N:Nat) (back:N1->Option Ox) (d:N1):Option Ox:=
 let s1:=d.1
 let s4:=d.2.1
 let s5:=d.2.2.1
 if (decide (0<=s1.1))=true then
 if (decide (s5<shl .i64 (1:Int) s1.1))=true then
  (Bg ((s1.1,(s5,())))).bind fun r17=>
  if ((List.length r17.1:Int)==(1:Int))=true then
   (Cc ((s1,(r17.1,())))).bind fun r18=>
   (Ma N N ((s1,(s4,(s5,((1:Int),(r18.1,((0:Int),())))))))).bind fun o22=>match o22 with
   | .inl d23=>
    if (decide (List.length d23.2.1+List.length ([d23.2.2.2.1])<=lim))=true then
    let x24:=IntKind.wrap .i64 (d23.2.2.1+(1:Int))
    back ((d23.1,(d23.2.1++([d23.2.2.2.1]),(x24,()))))
    else none
  else
   (Cc ((s1,(r17.1,())))).bind fun r25=>
   (Ma N N ((s1,(s4,(s5,((0:Int),(r25.1,((0:Int),())))))))).bind fun o26=>match o26 with
   | .inl d27=>
    if (decide (List.length d27.2.1+List.length ([d27.2.2.2.1])<=lim))=true then
    let x28:=IntKind.wrap .i64 (d27.2.2.1+(1:Int))
    back ((d27.1,(d27.2.1++([d27.2.2.2.1]),(x28,()))))
    else none
 else
  some (.inl (s4,()))
 else none
def Rf (N:Nat):Nat->N1->Option Ox
 | 0,_=>none
 | k+1,d=>Ih N (Rf N k) d
def VM (N:Nat) (d:Gr×Unit):Option (Int×Bool×Unit):=
 let a0:=d.1
 ((Fl 0) (a0,())).bind fun r1=>
 if (!r1.1)=true then
  some (((0:Int),(false,())))
 else
  (Rf N N ((a0,([(0:Int)],((1:Int),()))))).bind fun o14=>match o14 with
  | .inl d15=>
   let x16:=IntKind.wrap .i64 ((List.length d15.1:Int)-(1:Int))
   if (Ak x16 (List.length d15.1))=true then
   some ((at_ I d15.1 x16.toNat,(true,())))
   else none
def Aoa:FSig:=⟨[(Ac,false)],[I,.bool],true,(G4)⟩
def Atb:Ctx:={ tk:=Ad tks,ar:=Ad ars,fs:=Ad [] }
def WE (N:Nat) (d:(List Int×Unit)×Unit):Option (Int×Unit):=
 let a0:=d.1
 some ((List.length a0.1:Int),())
def IQ (d:(List Int×Unit)×Unit):Int×Unit:=
 let a0:=d.1
 ((List.length a0.1:Int),())
theorem Zk (N:Nat) (d):WE N d=some (IQ d):=by
 unfold WE IQ
 first
  | rfl
  | (dsimp only; (repeat' split)<;>rfl)
def UU:FSig:=⟨[(AL,false)],[I],true,(fun d=>some (IQ d))⟩
def ZX:FSig:=⟨[(Af,false),(I,false)],[Af],true,Dq⟩
def Ava:Ctx:={ tk:=Ad tks,ar:=Ad ars,fs:=Ad [(91,Cn),(148,Rv)] }
abbrev Nf:=List Int×Int×List Int×Int×Int×Unit
abbrev OT:=(Int×Unit)⊕(Int×Unit)⊕Empty
def Agm:AU:=[(1,.v Af),(7,.v I),(13,.own Af 99),(14,.v I),(15,.v I)]
def Ahk:AJ:=[(.ret,[(6,.v I)]),(.normal,[(7,.v I)])]
def Ko (N:Nat) (back:Nf->Option OT) (d:Nf):Option OT:=
 let s1:=d.1
 let s7:=d.2.1
 let s13:=d.2.2.1
 let s14:=d.2.2.2.1
 let s15:=d.2.2.2.2.1
 if (decide (s15<s14))=true then
  if (Ak s15 (List.length s13))=true then
  if (Ak (at_ I s13 s15.toNat) (List.length s1))=true then
  if (decide (at_ I s1 (at_ I s13 s15.toNat).toNat<(0:Int)))=true then
   some (.inl ((-1:Int),()))
  else
   if (Ak (at_ I s13 s15.toNat) (List.length s1))=true then
   let x8:=if s7<at_ I s1 (at_ I s13 s15.toNat).toNat then at_ I s1 (at_ I s13 s15.toNat).toNat else s7
   let x9:=IntKind.wrap .i64 (s15+(1:Int))
   back ((s1,(x8,(s13,(s14,(x9,()))))))
   else none
  else none
  else none
 else
  some (.inr (.inl (s7,())))
def FO (N:Nat):Nat->Nf->Option OT
 | 0,_=>none
 | k+1,d=>Ko N (FO N k) d
def Uw (N:Nat) (d:(List Int×Unit)×List Int×Int×Unit):Option (Int×Unit):=
 let a0:=d.1
 let a1:=d.2.1
 let a2:=d.2.2.1
 ((IE 0) ((a0,(a2,())))).bind fun r1=>
 (Di (r1.1,())).bind fun r2=>
 (FO N N ((a1,((0:Int),(r2.1,((List.length r2.1:Int),((0:Int),()))))))).bind fun o5=>match o5 with
 | .inl d6=>
  some (d6.1,())
 | .inr (.inl d7)=>
  some (d7.1,())
def ZA:FSig:=⟨[(AL,false),(Af,false),(I,false)],[I],true,(CP)⟩
def Auw:Ctx:={ tk:=Ad tks,ar:=Ad ars,fs:=Ad [(165,ZA)] }
def WI (N:Nat) (d:Int×Int×(List Int×Unit)×Tab×Unit):Option (Bool×Unit):=
 let a0:=d.1
 let a1:=d.2.1
 let a2:=d.2.2.1
 let a3:=d.2.2.2.1
 if (a0==a1)=true then
  some (true,())
 else
  if (Ak a0 (List.length a3))=true then
  (CP ((a2,(at_ Af a3 a0.toNat,(a1,()))))).bind fun r1=>
  some ((decide (r1.1>=(0:Int)),()))
  else none
def Azl:FSig:=⟨[(I,false),(Yj,false),(Kl,false),(Abh,false)],[.bool],true,(WI 0)⟩
def Q5 (d:Int×(Unit×Int×(List Int×Unit)×Tab×Unit)×Unit):Option (Bool×Unit):=(WI 0) (d.1,d.2.1.2)
def Aex:FSig:=⟨[(I,false),(Bn,false)],[.bool],true,Q5⟩
def Awz:Ctx:={ tk:=Ad tks,ar:=Ad ars,fs:=Ad [],cs:=Ad [(194,Aex)] }
abbrev Sv:=List Int×(Unit×Int×(List Int×Unit)×Tab×Unit)×Int×Int×Unit
abbrev Sq:=(Int×Unit)⊕Unit⊕Empty
def Aop:AU:=[(0,.v Af),(1,.v Bn),(7,.v I),(8,.v I)]
def Arq:AJ:=[(.ret,[(4,.v I)]),(.normal,[])]
def LB (N:Nat) (back:Sv->Option Sq) (d:Sv):Option Sq:=
 let s0:=d.1
 let s1:=d.2.1
 let s7:=d.2.2.1
 let s8:=d.2.2.2.1
 if (decide (s8<s7))=true then
  if (Ak s8 (List.length s0))=true then
  (Q5 ((at_ I s0 s8.toNat,(s1,())))).bind fun r6=>
  if (r6.1)=true then
   some (.inl (s8,()))
  else
   let x7:=IntKind.wrap .i64 (s8+(1:Int))
   back ((s0,(s1,(s7,(x7,())))))
  else none
 else
  some (.inr (.inl ()))
def VB (N:Nat):Nat->Sv->Option Sq
 | 0,_=>none
 | k+1,d=>LB N (VB N k) d
def Ael (N:Nat) (d:List Int×(Unit×Int×(List Int×Unit)×Tab×Unit)×Unit):Option (Int×Unit):=
 let a0:=d.1
 let a1:=d.2.1
 (VB N N ((a0,(a1,((List.length a0:Int),((0:Int),())))))).bind fun o3=>match o3 with
 | .inl d4=>
  some (d4.1,())
 | .inr (.inl d5)=>
  some ((-1:Int),())
def Awv:FSig:=⟨[(Af,false),(Bn,false)],[I],true,(GE)⟩
def Azn:Ctx:={ tk:=Ad tks,ar:=Ad ars,fs:=Ad [(180,Awv)] }
def Adz (N:Nat) (d:List Int×(Unit×Int×(List Int×Unit)×Tab×Unit)×Unit):Option (Bool×Unit):=
 let a0:=d.1
 let a1:=d.2.1
 (GE ((a0,(a1,())))).bind fun r1=>
 some ((decide (r1.1>=(0:Int)),()))
def Awf:FSig:=⟨[(Af,false),(Bn,false)],[.bool],true,(Adz 0)⟩
def Atj:Ctx:={ tk:=Ad tks,ar:=Ad ars,fs:=Ad [(91,Cn),(148,Rv),(163,Awf)],cs:=Ad [],fz:=fun t=>Nat.beq t 4||Nat.beq t 5||Nat.beq t 7 }
def RO (N:Nat) (d:(List Int×Unit)×Tab×Int×Int×Unit):Option (Bool×Unit):=
 let a0:=d.1
 let a1:=d.2.1
 let a2:=d.2.2.1
 let a3:=d.2.2.2.1
 ((IE 0) ((a0,(a2,())))).bind fun r1=>
 (Di (r1.1,())).bind fun r2=>
 ((Adz 0) ((r2.1,(((),(a3,(a0,(a1,())))),())))).bind fun r3=>
 some (r3.1,())
def Amc:FSig:=⟨[(AL,false),(AH,false),(I,false),(I,false)],[.bool],true,(RO 0)⟩
def Av5:Ctx:={ tk:=Ad tks,ar:=Ad ars,fs:=Ad [(124,ZX),(125,UU),(181,Amc)] }
abbrev MA:=(List Int×Unit)×Int×Tab×Int×Int×Unit
abbrev Mp:=((List Int×Unit)×Int×Tab×Unit)⊕Empty
def Alr:AU:=[(1,.box AL 0),(3,.v I),(4,.own AH 99),(18,.v I),(19,.v I)]
def Akg:AJ:=[(.normal,[(1,.box AL 0),(3,.v I),(4,.own AH 99)])]
def HE (N:Nat) (back:MA->Option Mp) (d:MA):Option Mp:=
 let s1:=d.1
 let s3:=d.2.1
 let s4:=d.2.2.1
 let s18:=d.2.2.2.1
 let s19:=d.2.2.2.2.1
 if (decide (s19<s18))=true then
  (Dq (([(-1:Int)],(s3,())))).bind fun r24=>
  if (Ak s19 (List.length s4))=true then
  if (Ak s19 (List.length (List.set s4 s19.toNat r24.1)))=true then
  if (Ak s19 (List.length (at_ Af (List.set s4 s19.toNat r24.1) s19.toNat)))=true then
  let x25:=List.set (List.set s4 s19.toNat r24.1) s19.toNat (List.set (at_ Af (List.set s4 s19.toNat r24.1) s19.toNat) s19.toNat (0:Int))
  let x26:=IntKind.wrap .i64 (s19+(1:Int))
  back ((s1,(s3,(x25,(s18,(x26,()))))))
  else none
  else none
  else none
 else
  some (.inl ((s1,(s3,(s4,())))))
def Ku (N:Nat):Nat->MA->Option Mp
 | 0,_=>none
 | k+1,d=>HE N (Ku N k) d
abbrev Py:=(List Int×Unit)×Int×Tab×Int×Bool×(List (Int×Int×Unit))×Int×Int×Int×Int×Int×Unit
abbrev Mk:=((List Int×Unit)×Int×Tab×Int×Bool×(List (Int×Int×Unit))×Int×Int×Unit)⊕Empty
def Afo:AU:=[(1,.box AL 0),(3,.v I),(4,.own AH 99),(6,.v I),(7,.v .bool),(8,.own Bw 99),(9,.v I),(38,.v I),(39,.v I),(42,.v I),(43,.v I)]
def Alp:AJ:=[(.normal,[(1,.box AL 0),(3,.v I),(4,.own AH 99),(6,.v I),(7,.v .bool),(8,.own Bw 99),(38,.v I),(39,.v I)])]
def Hw (N:Nat) (back:Py->Option Mk) (d:Py):Option Mk:=
 let s1:=d.1
 let s3:=d.2.1
 let s4:=d.2.2.1
 let s6:=d.2.2.2.1
 let s7:=d.2.2.2.2.1
 let s8:=d.2.2.2.2.2.1
 let s9:=d.2.2.2.2.2.2.1
 let s38:=d.2.2.2.2.2.2.2.1
 let s39:=d.2.2.2.2.2.2.2.2.1
 let s42:=d.2.2.2.2.2.2.2.2.2.1
 let s43:=d.2.2.2.2.2.2.2.2.2.2.1
 if (decide (s43<s42))=true then
  if (Ak s9 (List.length s4))=true then
  if (Ak s43 (List.length (at_ Af s4 s9.toNat)))=true then
  if (decide (at_ I (at_ Af s4 s9.toNat) s43.toNat<(0:Int)))=true then
   ((RO 0) ((s1,(s4,(s9,(s43,())))))).bind fun r48=>
   if (r48.1)=true then
    if (decide (List.length s8+List.length ([(s9,(s43,()))])<=lim))=true then
    let x49:=IntKind.wrap .i64 (s43+(1:Int))
    back ((s1,(s3,(s4,(s6,(s7,(s8++([(s9,(s43,()))]),(s9,(s38,(s39,(s42,(x49,()))))))))))))
    else none
   else
    let x50:=IntKind.wrap .i64 (s43+(1:Int))
    back ((s1,(s3,(s4,(s6,(s7,(s8,(s9,(s38,(s39,(s42,(x50,()))))))))))))
  else
   let x51:=IntKind.wrap .i64 (s43+(1:Int))
   back ((s1,(s3,(s4,(s6,(s7,(s8,(s9,(s38,(s39,(s42,(x51,()))))))))))))
  else none
  else none
 else
  some (.inl ((s1,(s3,(s4,(s6,(s7,(s8,(s38,(s39,()))))))))))
def J0 (N:Nat):Nat->Py->Option Mk
 | 0,_=>none
 | k+1,d=>Hw N (J0 N k) d
abbrev NM:=(List Int×Unit)×Int×Tab×Int×Bool×(List (Int×Int×Unit))×Int×Int×Unit
abbrev Nn:=((List Int×Unit)×Int×Tab×Int×Bool×(List (Int×Int×Unit))×Unit)⊕Empty
def Afd:AU:=[(1,.box AL 0),(3,.v I),(4,.own AH 99),(6,.v I),(7,.v .bool),(8,.own Bw 99),(38,.v I),(39,.v I)]
def Ajy:AJ:=[(.normal,[(1,.box AL 0),(3,.v I),(4,.own AH 99),(6,.v I),(7,.v .bool),(8,.own Bw 99)])]
def HM (N:Nat) (back:NM->Option Nn) (d:NM):Option Nn:=
 let s1:=d.1
 let s3:=d.2.1
 let s4:=d.2.2.1
 let s6:=d.2.2.2.1
 let s7:=d.2.2.2.2.1
 let s8:=d.2.2.2.2.2.1
 let s38:=d.2.2.2.2.2.2.1
 let s39:=d.2.2.2.2.2.2.2.1
 if (decide (s39<s38))=true then
  (J0 N N ((s1,(s3,(s4,(s6,(s7,(s8,(s39,(s38,(s39,(s3,((0:Int),()))))))))))))).bind fun o45=>match o45 with
  | .inl d46=>
   let x47:=IntKind.wrap .i64 (d46.2.2.2.2.2.2.2.1+(1:Int))
   back ((d46.1,(d46.2.1,(d46.2.2.1,(d46.2.2.2.1,(d46.2.2.2.2.1,(d46.2.2.2.2.2.1,(d46.2.2.2.2.2.2.1,(x47,())))))))))
 else
  some (.inl ((s1,(s3,(s4,(s6,(s7,(s8,()))))))))
def Ka (N:Nat):Nat->NM->Option Nn
 | 0,_=>none
 | k+1,d=>HM N (Ka N k) d
abbrev M2:=(List Int×Unit)×Int×Tab×Int×Bool×(List (Int×Int×Unit))×Int×Int×Unit
abbrev MV:=((List Int×Unit)×Int×Tab×Int×Bool×Unit)⊕Empty
def Aht:AU:=[(1,.box AL 0),(3,.v I),(4,.own AH 99),(6,.v I),(7,.v .bool),(69,.own Bw 99),(70,.v I),(71,.v I)]
def Aj6:AJ:=[(.normal,[(1,.box AL 0),(3,.v I),(4,.own AH 99),(6,.v I),(7,.v .bool)])]
def Ig (N:Nat) (back:M2->Option MV) (d:M2):Option MV:=
 let s1:=d.1
 let s3:=d.2.1
 let s4:=d.2.2.1
 let s6:=d.2.2.2.1
 let s7:=d.2.2.2.2.1
 let s69:=d.2.2.2.2.2.1
 let s70:=d.2.2.2.2.2.2.1
 let s71:=d.2.2.2.2.2.2.2.1
 if (decide (s71<s70))=true then
  if (Ak s71 (List.length s69))=true then
  if (Ak (at_ Aj s69 s71.toNat).1 (List.length s4))=true then
  if (Ak (at_ Aj s69 s71.toNat).2.1 (List.length (at_ Af s4 (at_ Aj s69 s71.toNat).1.toNat)))=true then
  let x52:=List.set s4 (at_ Aj s69 s71.toNat).1.toNat (List.set (at_ Af s4 (at_ Aj s69 s71.toNat).1.toNat) (at_ Aj s69 s71.toNat).2.1.toNat s6)
  let x53:=IntKind.wrap .i64 (s71+(1:Int))
  back ((s1,(s3,(x52,(s6,(true,(s69,(s70,(x53,())))))))))
  else none
  else none
  else none
 else
  some (.inl ((s1,(s3,(s4,(s6,(s7,())))))))
def KO (N:Nat):Nat->M2->Option MV
 | 0,_=>none
 | k+1,d=>Ig N (KO N k) d
abbrev MR:=(List Int×Unit)×Int×Tab×Int×Bool×Unit
abbrev MZ:=(Tab×Unit)⊕Empty
def Aiu:AU:=[(1,.box AL 0),(3,.v I),(4,.own AH 99),(6,.v I),(7,.v .bool)]
def Agh:AJ:=[(.normal,[(4,.own AH 99)])]
def Nz (N:Nat) (back:MR->Option MZ) (d:MR):Option MZ:=
 let s1:=d.1
 let s3:=d.2.1
 let s4:=d.2.2.1
 let s6:=d.2.2.2.1
 let s7:=d.2.2.2.2.1
 if (s7)=true then
  (Ka N N ((s1,(s3,(s4,(s6,(false,(([]:List (Int×Int×Unit)),(s3,((0:Int),())))))))))).bind fun o34=>match o34 with
  | .inl d35=>
   (KO N N ((d35.1,(d35.2.1,(d35.2.2.1,(d35.2.2.2.1,(d35.2.2.2.2.1,(d35.2.2.2.2.2.1,((List.length d35.2.2.2.2.2.1:Int),((0:Int),())))))))))).bind fun o38=>match o38 with
   | .inl d39=>
    let x40:=IntKind.wrap .i64 (d39.2.2.2.1+(1:Int))
    back ((d39.1,(d39.2.1,(d39.2.2.1,(x40,(d39.2.2.2.2.1,()))))))
 else
  some (.inl (s4,()))
def LF (N:Nat):Nat->MR->Option MZ
 | 0,_=>none
 | k+1,d=>Nz N (LF N k) d
def V3 (N:Nat) (d:(List Int×Unit)×Unit):Option (Tab×Unit):=
 let a0:=d.1
 let r1:=IQ (a0,())
 if ((decide (0<=r1.1)&&decide (r1.1<=r1.1)&&decide (r1.1<=(lim:Int))))=true then
 let x2:=List.replicate r1.1.toNat ([]:List Int)
 (Ku N N ((a0,(r1.1,(x2,((List.length x2:Int),((0:Int),()))))))).bind fun o6=>match o6 with
 | .inl d7=>
  (LF N N ((d7.1,(d7.2.1,(d7.2.2.1,((1:Int),(true,()))))))).bind fun o22=>match o22 with
  | .inl d23=>
   some (d23.1,())
 else none
def Ami:FSig:=⟨[(AL,false)],[AH],true,(Gf)⟩
def Asi:Ctx:={ tk:=Ad tks,ar:=Ad ars,fs:=Ad [] }
abbrev Mi:=List Int×Int×Int×Int×Unit
abbrev Mm:=(Int×Unit)⊕Unit⊕Empty
def Ag8:AU:=[(0,.v Af),(1,.v I),(7,.v I),(8,.v I)]
def Agn:AJ:=[(.ret,[(4,.v I)]),(.normal,[])]
def Kg (N:Nat) (back:Mi->Option Mm) (d:Mi):Option Mm:=
 let s0:=d.1
 let s1:=d.2.1
 let s7:=d.2.2.1
 let s8:=d.2.2.2.1
 if (decide (s8<s7))=true then
  if (Ak s8 (List.length s0))=true then
  if (s1==at_ I s0 s8.toNat)=true then
   some (.inl (s8,()))
  else
   let x5:=IntKind.wrap .i64 (s8+(1:Int))
   back ((s0,(s1,(s7,(x5,())))))
  else none
 else
  some (.inr (.inl ()))
def Q8 (N:Nat):Nat->Mi->Option Mm
 | 0,_=>none
 | k+1,d=>Kg N (Q8 N k) d
def UL (N:Nat) (d:List Int×Int×Unit):Option (Int×Unit):=
 let a0:=d.1
 let a1:=d.2.1
 (Q8 N N ((a0,(a1,((List.length a0:Int),((0:Int),())))))).bind fun o2=>match o2 with
 | .inl d3=>
  some (d3.1,())
 | .inr (.inl d4)=>
  some ((-1:Int),())
def Amf:FSig:=⟨[(Af,false),(I,false)],[I],true,(KM)⟩
def Aw7:Ctx:={ tk:=Ad tks,ar:=Ad ars,fs:=Ad [(158,Amf)] }
def Jg (N:Nat) (d:List Int×Int×Unit):Option (Bool×Unit):=
 let a0:=d.1
 let a1:=d.2.1
 (KM ((a0,(a1,())))).bind fun r1=>
 some ((decide (r1.1>=(0:Int)),()))
def Yo:FSig:=⟨[(Af,false),(I,false)],[.bool],true,(Jg 0)⟩
def Au2:Ctx:={ tk:=Ad tks,ar:=Ad ars,fs:=Ad [] }
abbrev NW:=List Int×Int×Int×Unit
abbrev NJ:=(Int×Unit)⊕Empty
def Aje:AU:=[(0,.v Af),(3,.v I),(4,.v I)]
def Al1:AJ:=[(.normal,[(3,.v I)])]
def Kb (N:Nat) (back:NW->Option NJ) (d:NW):Option NJ:=
 let s0:=d.1
 let s3:=d.2.1
 let s4:=d.2.2.1
 if (decide (s4<(List.length s0:Int)))=true then
  if (Ak s4 (List.length s0))=true then
  let x5:=if s3<at_ I s0 s4.toNat then at_ I s0 s4.toNat else s3
  let x6:=IntKind.wrap .i64 (s4+(1:Int))
  back ((s0,(x5,(x6,()))))
  else none
 else
  some (.inl (s3,()))
def KJ (N:Nat):Nat->NW->Option NJ
 | 0,_=>none
 | k+1,d=>Kb N (KJ N k) d
def UW (N:Nat) (d:List Int×Unit):Option (Int×Unit):=
 let a0:=d.1
 if (decide ((List.length a0:Int)<(1:Int)))=true then
  none
 else
  if (Ak (0:Int) (List.length a0))=true then
  (KJ N N ((a0,(at_ I a0 (0:Int).toNat,((1:Int),()))))).bind fun o3=>match o3 with
  | .inl d4=>
   some (d4.1,())
  else none
def Aaz:FSig:=⟨[(Af,false)],[I],true,(Lw)⟩
def Atq:Ctx:={ tk:=Ad tks,ar:=Ad ars,fs:=Ad [(103,Yo),(127,Aaz),(153,Ami)] }
abbrev Mn:=Int×Int×Bool×Tab×Int×Int×Unit
abbrev NL:=(Int×Int×Bool×Unit)⊕Empty
def Afa:AU:=[(5,.v I),(6,.v I),(7,.v .bool),(12,.own AH 99),(13,.v I),(14,.v I)]
def Agq:AJ:=[(.normal,[(5,.v I),(6,.v I),(7,.v .bool)])]
def HT (N:Nat) (back:Mn->Option NL) (d:Mn):Option NL:=
 let s5:=d.1
 let s6:=d.2.1
 let s7:=d.2.2.1
 let s12:=d.2.2.2.1
 let s13:=d.2.2.2.2.1
 let s14:=d.2.2.2.2.2.1
 if (decide (s14<s13))=true then
  if (Ak s14 (List.length s12))=true then
  ((Jg 0) ((at_ Af s12 s14.toNat,((-1:Int),())))).bind fun r10=>
  if (r10.1)=true then
   let x11:=IntKind.wrap .i64 (s14+(1:Int))
   back ((s5,(s6,(s7,(s12,(s13,(x11,())))))))
  else
   (Lw (at_ Af s12 s14.toNat,())).bind fun r12=>
   if (!s7)=true then
    let x13:=IntKind.wrap .i64 (s14+(1:Int))
    back ((s14,(r12.1,(true,(s12,(s13,(x13,())))))))
   else
    if (decide (r12.1<s6))=true then
     let x14:=IntKind.wrap .i64 (s14+(1:Int))
     back ((s14,(r12.1,(true,(s12,(s13,(x14,())))))))
    else
     let x15:=IntKind.wrap .i64 (s14+(1:Int))
     back ((s5,(s6,(s7,(s12,(s13,(x15,())))))))
  else none
 else
  some (.inl ((s5,(s6,(s7,())))))
def QC (N:Nat):Nat->Mn->Option NL
 | 0,_=>none
 | k+1,d=>HT N (QC N k) d
def VY (N:Nat) (d:(List Int×Unit)×Unit):Option (Int×Int×Bool×Unit):=
 let a0:=d.1
 (Gf (a0,())).bind fun r1=>
 (QC N N (((0:Int),((0:Int),(false,(r1.1,((List.length r1.1:Int),((0:Int),())))))))).bind fun o8=>match o8 with
 | .inl d9=>
  some ((d9.1,(d9.2.1,(d9.2.2.1,()))))
def Apg:FSig:=⟨[(AL,false)],[I,I,.bool],true,(Hh)⟩
def Atx:Ctx:={ tk:=Ad tks,ar:=Ad ars,fs:=Ad [(20,JI),(54,Cv),(99,Apg)] }
def SW (N:Nat) (d:Gr×Unit):Option (Bool×Bool×Unit):=
 let a0:=d.1
 (Bt (a0,())).bind fun r1=>
 if (!r1.1)=true then
  some ((false,(false,())))
 else
  if (a0.1==(0:Int))=true then
   some ((false,(false,())))
  else
   (DP (a0,())).bind fun r2=>
   (Hh (r2.1,())).bind fun r3=>
   some ((r3.2.2.1,(true,())))
def An8:FSig:=⟨[(Ac,false)],[.bool,.bool],true,(SW 0)⟩
def Avs:Ctx:={ tk:=Ad tks,ar:=Ad ars,fs:=Ad [] }
def Wu (N:Nat) (d:Bool×Unit):Option (Int×Unit):=
 let a0:=d.1
 if (a0)=true then
  some ((0:Int),())
 else
  some ((-1:Int),())
def NT (d:Bool×Unit):Int×Unit:=
 let a0:=d.1
 if (a0)=true then
  ((0:Int),())
 else
  ((-1:Int),())
theorem Abz (N:Nat) (d):Wu N d=some (NT d):=by
 unfold Wu NT
 first
  | rfl
  | (dsimp only; (repeat' split)<;>rfl)
def Aoj:FSig:=⟨[(.bool,false)],[I],true,(fun d=>some (NT d))⟩
def Tf:Ctx:={ tk:=Ad tks,ar:=Ad ars,fs:=Ad [] }
def Ed (N:Nat) (d:List Int×Unit):Option (List Int×Unit):=
 let a0:=d.1
 if (decide (List.length ([]:List Int)+List.length a0<=lim))=true then
 some (([]:List Int)++a0,())
 else none
def Lq:FSig:=⟨[(Af,false)],[Af],true,(Ed 0)⟩
def Atg:Ctx:={ tk:=Ad tks,ar:=Ad ars,fs:=Ad [(120,U7),(137,RM)] }
abbrev M8:=Tab×Int×Int×List Int×Int×Unit
abbrev OR:=(Int×Unit)⊕(Int×Unit)⊕Empty
def Ah6:AU:=[(1,.v AH),(2,.v I),(9,.v I),(10,.own Af 99),(11,.v I)]
def Ag0:AJ:=[(.ret,[(8,.v I)]),(.normal,[(9,.v I)])]
def KE (N:Nat) (back:M8->Option OR) (d:M8):Option OR:=
 let s1:=d.1
 let s2:=d.2.1
 let s9:=d.2.2.1
 let s10:=d.2.2.2.1
 let s11:=d.2.2.2.2.1
 if (decide (s11<(List.length s10:Int)))=true then
  if (Ak s2 (List.length s1))=true then
  if (Ak s11 (List.length s10))=true then
  if (Ak (at_ I s10 s11.toNat) (List.length (at_ Af s1 s2.toNat)))=true then
  if (decide (at_ I (at_ Af s1 s2.toNat) (at_ I s10 s11.toNat).toNat<(0:Int)))=true then
   some (.inl ((-1:Int),()))
  else
   if (Ak s2 (List.length s1))=true then
   if (Ak s11 (List.length s10))=true then
   if (Ak (at_ I s10 s11.toNat) (List.length (at_ Af s1 s2.toNat)))=true then
   let r7:=Ja ((s9,(at_ I (at_ Af s1 s2.toNat) (at_ I s10 s11.toNat).toNat,())))
   let x8:=IntKind.wrap .i64 (s11+(1:Int))
   back ((s1,(s2,(r7.1,(s10,(x8,()))))))
   else none
   else none
   else none
  else none
  else none
  else none
 else
  some (.inr (.inl (s9,())))
def F4 (N:Nat):Nat->M8->Option OR
 | 0,_=>none
 | k+1,d=>KE N (F4 N k) d
def WH (N:Nat) (d:Gr×Tab×Int×Int×Unit):Option (Int×Unit):=
 let a0:=d.1
 let a1:=d.2.1
 let a2:=d.2.2.1
 let a3:=d.2.2.2.1
 ((GW 0) ((a0,(a3,())))).bind fun r1=>
 (F4 N N ((a1,(a2,((0:Int),(r1.1,((0:Int),()))))))).bind fun o4=>match o4 with
 | .inl d5=>
  some (d5.1,())
 | .inr (.inl d6)=>
  some (d6.1,())
def Ap0:FSig:=⟨[(Ac,false),(AH,false),(I,false),(I,false)],[I],true,(H9)⟩
def Auf:Ctx:={ tk:=Ad tks,ar:=Ad ars,fs:=Ad [(214,Ap0)] }
def Sc (N:Nat) (d:Gr×Tab×Int×Int×Unit):Option (Int×Unit):=
 let a0:=d.1
 let a1:=d.2.1
 let a2:=d.2.2.1
 let a3:=d.2.2.2.1
 if (a2==a3)=true then
  some ((0:Int),())
 else
  (H9 ((a0,(a1,(a2,(a3,())))))).bind fun r1=>
  some (r1.1,())
def Arw:FSig:=⟨[(Ac,false),(AH,false),(I,false),(I,false)],[I],true,(Sc 0)⟩
def Asl:Ctx:={ tk:=Ad tks,ar:=Ad ars,fs:=Ad [(137,RM),(195,Arw)] }
abbrev Px:=Tab×Int×Gr×Int×List Int×Int×Unit
abbrev Mx:=(Int×Unit)⊕Empty
def Ajh:AU:=[(1,.v AH),(3,.v I),(4,.box Ac 0),(9,.v I),(10,.own Af 99),(11,.v I)]
def Aj0:AJ:=[(.normal,[(9,.v I)])]
def Kc (N:Nat) (back:Px->Option Mx) (d:Px):Option Mx:=
 let s1:=d.1
 let s3:=d.2.1
 let s4:=d.2.2.1
 let s9:=d.2.2.2.1
 let s10:=d.2.2.2.2.1
 let s11:=d.2.2.2.2.2.1
 if (decide (s11<(List.length s10:Int)))=true then
  if (Ak s11 (List.length s10))=true then
  ((Sc 0) ((s4,(s1,(at_ I s10 s11.toNat,(s3,())))))).bind fun r9=>
  if (decide (r9.1>=(0:Int)))=true then
   if (decide (s9<(0:Int)))=true then
    let x10:=IntKind.wrap .i64 (s11+(1:Int))
    back ((s1,(s3,(s4,(r9.1,(s10,(x10,())))))))
   else
    if (decide (r9.1<s9))=true then
     let x11:=IntKind.wrap .i64 (s11+(1:Int))
     back ((s1,(s3,(s4,(r9.1,(s10,(x11,())))))))
    else
     let x12:=IntKind.wrap .i64 (s11+(1:Int))
     back ((s1,(s3,(s4,(s9,(s10,(x12,())))))))
  else
   let x13:=IntKind.wrap .i64 (s11+(1:Int))
   back ((s1,(s3,(s4,(s9,(s10,(x13,())))))))
  else none
 else
  some (.inl (s9,()))
def JX (N:Nat):Nat->Px->Option Mx
 | 0,_=>none
 | k+1,d=>Kc N (JX N k) d
def Vc (N:Nat) (d:Gr×Tab×Int×Int×Unit):Option (Int×Unit):=
 let a0:=d.1
 let a1:=d.2.1
 let a2:=d.2.2.1
 let a3:=d.2.2.2.1
 ((GW 0) ((a0,(a2,())))).bind fun r1=>
 (JX N N ((a1,(a3,(a0,((-1:Int),(r1.1,((0:Int),())))))))).bind fun o7=>match o7 with
 | .inl d8=>
  some (d8.1,())
def And:FSig:=⟨[(Ac,false),(AH,false),(I,false),(I,false)],[I],true,(Jj)⟩
def Aty:Ctx:={ tk:=Ad tks,ar:=Ad ars,fs:=Ad [(76,Lq),(182,Aoj),(183,And)] }
abbrev Od:=Gr×Tab×Int×List Int×Int×Unit
abbrev Nc:=(Gr×Tab×Int×List Int×Unit)⊕Empty
def Ag2:AU:=[(1,.box Ac 0),(3,.own AH 100),(4,.v I),(5,.own Af 99),(6,.v I)]
def Ahw:AJ:=[(.normal,[(1,.box Ac 0),(3,.own AH 100),(4,.v I),(5,.own Af 99)])]
def Ky (N:Nat) (back:Od->Option Nc) (d:Od):Option Nc:=
 let s1:=d.1
 let s3:=d.2.1
 let s4:=d.2.2.1
 let s5:=d.2.2.2.1
 let s6:=d.2.2.2.2.1
 if (decide (s6<s1.1))=true then
  let r27:=NT (s4==s6,())
  if (decide (List.length s5+List.length ([r27.1])<=lim))=true then
  let x28:=IntKind.wrap .i64 (s6+(1:Int))
  back ((s1,(s3,(s4,(s5++([r27.1]),(x28,()))))))
  else none
 else
  some (.inl ((s1,(s3,(s4,(s5,()))))))
def KP (N:Nat):Nat->Od->Option Nc
 | 0,_=>none
 | k+1,d=>Ky N (KP N k) d
abbrev Nw:=Gr×Tab×Int×Unit
abbrev NK:=(Gr×Tab×Unit)⊕Empty
def Ald:AU:=[(1,.box Ac 0),(3,.own AH 100),(4,.v I)]
def Alt:AJ:=[(.normal,[(1,.box Ac 0),(3,.own AH 100)])]
def J9 (N:Nat) (back:Nw->Option NK) (d:Nw):Option NK:=
 let s1:=d.1
 let s3:=d.2.1
 let s4:=d.2.2.1
 if (decide (s4<s1.1))=true then
  (KP N N ((s1,(s3,(s4,(([]:List Int),((0:Int),()))))))).bind fun o24=>match o24 with
  | .inl d25=>
   if (decide (List.length d25.2.1+List.length ([d25.2.2.2.1])<=lim))=true then
   let x26:=IntKind.wrap .i64 (d25.2.2.1+(1:Int))
   back ((d25.1,(d25.2.1++([d25.2.2.2.1]),(x26,()))))
   else none
 else
  some (.inl ((s1,(s3,()))))
def J2 (N:Nat):Nat->Nw->Option NK
 | 0,_=>none
 | k+1,d=>J9 N (J2 N k) d
abbrev OA:=Gr×Tab×Bool×Tab×Int×List Int×Int×Unit
abbrev Nx:=(Gr×Tab×Bool×Tab×Int×List Int×Unit)⊕Empty
def Ah0:AU:=[(1,.box Ac 0),(3,.own AH 100),(7,.v .bool),(8,.own AH 100),(9,.v I),(10,.own Af 99),(11,.v I)]
def Akt:AJ:=[(.normal,[(1,.box Ac 0),(3,.own AH 100),(7,.v .bool),(8,.own AH 100),(9,.v I),(10,.own Af 99)])]
def Hm (N:Nat) (back:OA->Option Nx) (d:OA):Option Nx:=
 let s1:=d.1
 let s3:=d.2.1
 let s7:=d.2.2.1
 let s8:=d.2.2.2.1
 let s9:=d.2.2.2.2.1
 let s10:=d.2.2.2.2.2.1
 let s11:=d.2.2.2.2.2.2.1
 if (decide (s11<s1.1))=true then
  (Jj ((s1,(s3,(s9,(s11,())))))).bind fun r51=>
  if (Ak s11 (List.length s10))=true then
  if (decide (at_ I s10 s11.toNat<(0:Int)))=true then
   if (decide (r51.1>=(0:Int)))=true then
    let x52:=IntKind.wrap .i64 (r51.1+(1:Int))
    if (Ak s11 (List.length s10))=true then
    let x53:=IntKind.wrap .i64 (s11+(1:Int))
    back ((s1,(s3,(true,(s8,(s9,(List.set s10 s11.toNat x52,(x53,()))))))))
    else none
   else
    let x54:=IntKind.wrap .i64 (s11+(1:Int))
    back ((s1,(s3,(s7,(s8,(s9,(s10,(x54,()))))))))
  else
   let x55:=IntKind.wrap .i64 (s11+(1:Int))
   back ((s1,(s3,(s7,(s8,(s9,(s10,(x55,()))))))))
  else none
 else
  some (.inl ((s1,(s3,(s7,(s8,(s9,(s10,()))))))))
def Kv (N:Nat):Nat->OA->Option Nx
 | 0,_=>none
 | k+1,d=>Hm N (Kv N k) d
abbrev Ny:=Gr×Tab×Bool×Tab×Int×Unit
abbrev Oi:=(Gr×Bool×Tab×Unit)⊕Empty
def Aiv:AU:=[(1,.box Ac 0),(3,.own AH 100),(7,.v .bool),(8,.own AH 100),(9,.v I)]
def Afc:AJ:=[(.normal,[(1,.box Ac 0),(7,.v .bool),(8,.own AH 100)])]
def Hx (N:Nat) (back:Ny->Option Oi) (d:Ny):Option Oi:=
 let s1:=d.1
 let s3:=d.2.1
 let s7:=d.2.2.1
 let s8:=d.2.2.2.1
 let s9:=d.2.2.2.2.1
 if (decide (s9<s1.1))=true then
  if (Ak s9 (List.length s3))=true then
  ((Ed 0) (at_ Af s3 s9.toNat,())).bind fun r41=>
  (Kv N N ((s1,(s3,(s7,(s8,(s9,(r41.1,((0:Int),()))))))))).bind fun o47=>match o47 with
  | .inl d48=>
   if (decide (List.length d48.2.2.2.1+List.length ([d48.2.2.2.2.2.1])<=lim))=true then
   let x49:=d48.2.2.2.1++([d48.2.2.2.2.2.1])
   let x50:=IntKind.wrap .i64 (d48.2.2.2.2.1+(1:Int))
   back ((d48.1,(d48.2.1,(d48.2.2.1,(x49,(x50,()))))))
   else none
  else none
 else
  some (.inl ((s1,(s7,(s8,())))))
def Kw (N:Nat):Nat->Ny->Option Oi
 | 0,_=>none
 | k+1,d=>Hx N (Kw N k) d
abbrev Nk:=Gr×Tab×Bool×Unit
abbrev My:=(Tab×Unit)⊕Empty
def Aig:AU:=[(1,.box Ac 0),(3,.own AH 100),(7,.v .bool)]
def Ahe:AJ:=[(.normal,[(3,.own AH 100)])]
def M4 (N:Nat) (back:Nk->Option My) (d:Nk):Option My:=
 let s1:=d.1
 let s3:=d.2.1
 let s7:=d.2.2.1
 if (s7)=true then
  (Kw N N ((s1,(s3,(false,(([]:Tab),((0:Int),()))))))).bind fun o39=>match o39 with
  | .inl d40=>
   back ((d40.1,(d40.2.2.1,(d40.2.1,()))))
 else
  some (.inl (s3,()))
def Ly (N:Nat):Nat->Nk->Option My
 | 0,_=>none
 | k+1,d=>M4 N (Ly N k) d
def UO (N:Nat) (d:Gr×Unit):Option (Tab×Unit):=
 let a0:=d.1
 (J2 N N ((a0,(([]:Tab),((0:Int),()))))).bind fun o6=>match o6 with
 | .inl d7=>
  (Ly N N ((d7.1,(d7.2.1,(true,()))))).bind fun o20=>match o20 with
  | .inl d21=>
   some (d21.1,())
def Aqr:FSig:=⟨[(Ac,false)],[AH],true,(HP)⟩
def Avi:Ctx:={ tk:=Ad tks,ar:=Ad ars,fs:=Ad [(120,U7)] }
abbrev O2:=Tab×Int×Int×Int×Unit
abbrev Mh:=(Int×Unit)⊕(Int×Unit)⊕Empty
def Ah4:AU:=[(0,.v AH),(1,.v I),(5,.v I),(6,.v I)]
def Alw:AJ:=[(.ret,[(4,.v I)]),(.normal,[(5,.v I)])]
def EW (N:Nat) (back:O2->Option Mh) (d:O2):Option Mh:=
 let s0:=d.1
 let s1:=d.2.1
 let s5:=d.2.2.1
 let s6:=d.2.2.2.1
 if (decide (s6<(List.length s0:Int)))=true then
  if (Ak s1 (List.length s0))=true then
  if (Ak s6 (List.length (at_ Af s0 s1.toNat)))=true then
  if (decide (at_ I (at_ Af s0 s1.toNat) s6.toNat<(0:Int)))=true then
   some (.inl ((-1:Int),()))
  else
   if (Ak s1 (List.length s0))=true then
   if (Ak s6 (List.length (at_ Af s0 s1.toNat)))=true then
   let r6:=Ja ((s5,(at_ I (at_ Af s0 s1.toNat) s6.toNat,())))
   let x7:=IntKind.wrap .i64 (s6+(1:Int))
   back ((s0,(s1,(r6.1,(x7,())))))
   else none
   else none
  else none
  else none
 else
  some (.inr (.inl (s5,())))
def QF (N:Nat):Nat->O2->Option Mh
 | 0,_=>none
 | k+1,d=>EW N (QF N k) d
def V9 (N:Nat) (d:Tab×Int×Unit):Option (Int×Unit):=
 let a0:=d.1
 let a1:=d.2.1
 (QF N N ((a0,(a1,((0:Int),((0:Int),())))))).bind fun o3=>match o3 with
 | .inl d4=>
  some (d4.1,())
 | .inr (.inl d5)=>
  some (d5.1,())
def Ap2:FSig:=⟨[(AH,false),(I,false)],[I],true,(Dd)⟩
def Asz:Ctx:={ tk:=Ad tks,ar:=Ad ars,fs:=Ad [(88,Pp),(154,Aqr),(155,Ap2)] }
abbrev Nb:=Gr×Tab×Int×Int×Unit
abbrev NC:=(Tab×Int×Unit)⊕Empty
def Aio:AU:=[(1,.box Ac 0),(5,.own AH 99),(6,.v I),(7,.v I)]
def Ajm:AJ:=[(.normal,[(5,.own AH 99),(6,.v I)])]
def Ie (N:Nat) (back:Nb->Option NC) (d:Nb):Option NC:=
 let s1:=d.1
 let s5:=d.2.1
 let s6:=d.2.2.1
 let s7:=d.2.2.2.1
 if (decide (s7<s1.1))=true then
  (Dd ((s5,(s7,())))).bind fun r12=>
  if (decide (r12.1>=(0:Int)))=true then
   if (decide (s6<(0:Int)))=true then
    let x13:=IntKind.wrap .i64 (s7+(1:Int))
    back ((s1,(s5,(s7,(x13,())))))
   else
    (Dd ((s5,(s6,())))).bind fun r14=>
    if (decide (r12.1<r14.1))=true then
     let x15:=IntKind.wrap .i64 (s7+(1:Int))
     back ((s1,(s5,(s7,(x15,())))))
    else
     let x16:=IntKind.wrap .i64 (s7+(1:Int))
     back ((s1,(s5,(s6,(x16,())))))
  else
   let x17:=IntKind.wrap .i64 (s7+(1:Int))
   back ((s1,(s5,(s6,(x17,())))))
 else
  some (.inl ((s5,(s6,()))))
def Q2 (N:Nat):Nat->Nb->Option NC
 | 0,_=>none
 | k+1,d=>Ie N (Q2 N k) d
def Wa (N:Nat) (d:Gr×Unit):Option (Int×Int×Bool×Unit):=
 let a0:=d.1
 ((Fl 0) (a0,())).bind fun r1=>
 if (!r1.1)=true then
  some (((0:Int),((0:Int),(false,()))))
 else
  (HP (a0,())).bind fun r2=>
  (Q2 N N ((a0,(r2.1,((-1:Int),((0:Int),())))))).bind fun o9=>match o9 with
  | .inl d10=>
   if (decide (d10.2.1<(0:Int)))=true then
    some (((0:Int),((0:Int),(false,()))))
   else
    (Dd ((d10.1,(d10.2.1,())))).bind fun r11=>
    some ((d10.2.1,(r11.1,(true,()))))
def Ang:FSig:=⟨[(Ac,false)],[I,I,.bool],true,(H6)⟩
def At1:Ctx:={ tk:=Ad tks,ar:=Ad ars,fs:=Ad [(88,Pp),(100,Ang)] }
def SR (N:Nat) (d:Gr×Unit):Option (Bool×Bool×Unit):=
 let a0:=d.1
 ((Fl 0) (a0,())).bind fun r1=>
 if (!r1.1)=true then
  some ((false,(false,())))
 else
  (H6 (a0,())).bind fun r2=>
  some ((r2.2.2.1,(true,())))
def Apu:FSig:=⟨[(Ac,false)],[.bool,.bool],true,(SR 0)⟩
def Tg:Ctx:={ tk:=Ad tks,ar:=Ad ars,fs:=Ad [] }
abbrev FJ:=List Int×List Int×Int×Unit
abbrev FG:=(Bool×Unit)⊕Unit⊕Empty
def P1:AU:=[(0,.v Af),(1,.v Af),(5,.v I)]
def Qa:AJ:=[(.ret,[(4,.v .bool)]),(.normal,[])]
def Db (N:Nat) (back:FJ->Option FG) (d:FJ):Option FG:=
 let s0:=d.1
 let s1:=d.2.1
 let s5:=d.2.2.1
 if (decide (s5<(List.length s0:Int)))=true then
  if (Ak s5 (List.length s0))=true then
  if (Ak s5 (List.length s1))=true then
  if (at_ I s0 s5.toNat != at_ I s1 s5.toNat)=true then
   some (.inl (false,()))
  else
   let x5:=IntKind.wrap .i64 (s5+(1:Int))
   back ((s0,(s1,(x5,()))))
  else none
  else none
 else
  some (.inr (.inl ()))
def EX (N:Nat):Nat->FJ->Option FG
 | 0,_=>none
 | k+1,d=>Db N (EX N k) d
def F2 (N:Nat) (d:List Int×List Int×Unit):Option (Bool×Unit):=
 let a0:=d.1
 let a1:=d.2.1
 if ((List.length a0:Int) != (List.length a1:Int))=true then
  some (false,())
 else
  (EX N N ((a0,(a1,((0:Int),()))))).bind fun o2=>match o2 with
  | .inl d3=>
   some (d3.1,())
  | .inr (.inl d4)=>
   some (true,())
def LO:FSig:=⟨[(Af,false),(Af,false)],[.bool],true,(J3)⟩
def Au5:Ctx:={ tk:=Ad tks,ar:=Ad ars,fs:=Ad [(20,JI),(54,Cv),(90,Aao),(91,Cn)] }
def Sm (N:Nat) (d:Gr×Unit):Option (List Int×Bool×Unit):=
 let a0:=d.1
 (Bt (a0,())).bind fun r1=>
 if (!r1.1)=true then
  some ((([]:List Int),(false,())))
 else
  if (a0.1==(0:Int))=true then
   some ((([]:List Int),(false,())))
  else
   (DP (a0,())).bind fun r2=>
   (Dt (r2.1,())).bind fun r3=>
   (Di (r3.2.1,())).bind fun r4=>
   some ((r4.1,(true,())))
def Aoe:FSig:=⟨[(Ac,false)],[Af,.bool],true,(Sm 0)⟩
def Avy:Ctx:={ tk:=Ad tks,ar:=Ad ars,fs:=Ad [(20,JI),(67,Wv)] }
def SK (N:Nat) (d:Gr×Int×Unit):Option (Bool×Unit):=
 let a0:=d.1
 let a1:=d.2.1
 (Bt (a0,())).bind fun r1=>
 if (r1.1)=true then
  if (decide (a0.1>(0:Int)))=true then
   let r2:=Ju ((a1,((1:Int),((3:Int),()))))
   some (r2.1,())
  else
   some (false,())
 else
  some (false,())
def An1:FSig:=⟨[(Ac,false),(I,false)],[.bool],true,(SK 0)⟩
def Ato:Ctx:={ tk:=Ad tks,ar:=Ad ars,fs:=Ad [] }
def U2 (N:Nat) (d:List Int×Unit):Option (List Int×Unit):=
 let a0:=d.1
 if (decide (List.length a0=0))=true then
  An5 (
    some (([]:List Int),())) (
    if (decide (List.length ([]:List Int)+List.length a0<=lim))=true then
    some (([]:List Int)++a0,())
    else none)
 else
  if (decide (List.length ([]:List Int)+List.length a0<=lim))=true then
  some (([]:List Int)++a0,())
  else none
def Vs:FSig:=⟨[(Af,false)],[Af],true,(DL)⟩
def As0:Ctx:={ tk:=Ad tks,ar:=Ad ars,fs:=Ad [(114,Vs)],dm:=fun t=>Nat.beq t 8||Nat.beq t 15,cs:=Ad [] }
abbrev O5:=Int×Tab×List Int×Int×Int×Int×Tab×Int×Int×Unit
abbrev MU:=(Int×Tab×Int×Int×Tab×Int×Int×Unit)⊕Empty
def Aip:AU:=[(0,.v I),(6,.own AH 99),(8,.v Af),(10,.v I),(12,.v I),(13,.v I),(15,.v AH),(16,.v I),(17,.v I)]
def Ahf:AJ:=[(.normal,[(0,.v I),(6,.own AH 99),(12,.v I),(13,.v I),(15,.v AH),(16,.v I),(17,.v I)])]
def Ha (N:Nat) (back:O5->Option MU) (d:O5):Option MU:=
 let s0:=d.1
 let s6:=d.2.1
 let s8:=d.2.2.1
 let s10:=d.2.2.2.1
 let s12:=d.2.2.2.2.1
 let s13:=d.2.2.2.2.2.1
 let s15:=d.2.2.2.2.2.2.1
 let s16:=d.2.2.2.2.2.2.2.1
 let s17:=d.2.2.2.2.2.2.2.2.1
 if (decide (s10<s0))=true then
  (DL (s8,())).bind fun r48=>
  if (decide (List.length r48.1+List.length ([s10])<=lim))=true then
  if (decide (List.length s6+List.length ([r48.1++([s10])])<=lim))=true then
  let x49:=IntKind.wrap .i64 (s10+(1:Int))
  back ((s0,(s6++([r48.1++([s10])]),(s8,(x49,(s12,(s13,(s15,(s16,(s17,()))))))))))
  else none
  else none
 else
  some (.inl ((s0,(s6,(s12,(s13,(s15,(s16,(s17,())))))))))
def LN (N:Nat):Nat->O5->Option MU
 | 0,_=>none
 | k+1,d=>Ha N (LN N k) d
abbrev Mj:=Int×Tab×Int×Int×Tab×Int×Int×Unit
abbrev Ns:=(Int×Tab×Int×Int×Unit)⊕Empty
def Aj1:AU:=[(0,.v I),(6,.own AH 99),(12,.v I),(13,.v I),(15,.v AH),(16,.v I),(17,.v I)]
def Aff:AJ:=[(.normal,[(0,.v I),(6,.own AH 99),(12,.v I),(13,.v I)])]
def Hi (N:Nat) (back:Mj->Option Ns) (d:Mj):Option Ns:=
 let s0:=d.1
 let s6:=d.2.1
 let s12:=d.2.2.1
 let s13:=d.2.2.2.1
 let s15:=d.2.2.2.2.1
 let s16:=d.2.2.2.2.2.1
 let s17:=d.2.2.2.2.2.2.1
 if (decide (s17<s16))=true then
  if (Ak s17 (List.length s15))=true then
  if (decide ((List.length (at_ Af s15 s17.toNat):Int)>(0:Int)))=true then
   let x39:=IntKind.wrap .i64 ((List.length (at_ Af s15 s17.toNat):Int)-(1:Int))
   if (Ak x39 (List.length (at_ Af s15 s17.toNat)))=true then
   (LN N N ((s0,(s6,(at_ Af s15 s17.toNat,(at_ I (at_ Af s15 s17.toNat) x39.toNat,(s12,(s13,(s15,(s16,(s17,()))))))))))).bind fun o42=>match o42 with
   | .inl d43=>
    let x44:=IntKind.wrap .i64 (d43.2.2.2.2.2.2.1+(1:Int))
    back ((d43.1,(d43.2.1,(d43.2.2.1,(d43.2.2.2.1,(d43.2.2.2.2.1,(d43.2.2.2.2.2.1,(x44,()))))))))
   else none
  else
   (LN N N ((s0,(s6,(at_ Af s15 s17.toNat,((0:Int),(s12,(s13,(s15,(s16,(s17,()))))))))))).bind fun o45=>match o45 with
   | .inl d46=>
    let x47:=IntKind.wrap .i64 (d46.2.2.2.2.2.2.1+(1:Int))
    back ((d46.1,(d46.2.1,(d46.2.2.1,(d46.2.2.2.1,(d46.2.2.2.2.1,(d46.2.2.2.2.2.1,(x47,()))))))))
  else none
 else
  some (.inl ((s0,(s6,(s12,(s13,()))))))
def Ra (N:Nat):Nat->Mj->Option Ns
 | 0,_=>none
 | k+1,d=>Hi N (Ra N k) d
abbrev MC:=Int×Tab×Int×Int×Unit
abbrev NR:=(Tab×Unit)⊕Empty
def Ah9:AU:=[(0,.v I),(5,.own AH 99),(12,.v I),(13,.v I)]
def Ahb:AJ:=[(.normal,[(5,.own AH 99)])]
def If (N:Nat) (back:MC->Option NR) (d:MC):Option NR:=
 let s0:=d.1
 let s5:=d.2.1
 let s12:=d.2.2.1
 let s13:=d.2.2.2.1
 if (decide (s13<s12))=true then
  (Ra N N ((s0,(([]:Tab),(s12,(s13,(s5,((List.length s5:Int),((0:Int),()))))))))).bind fun o36=>match o36 with
  | .inl d37=>
   let x38:=IntKind.wrap .i64 (d37.2.2.2.1+(1:Int))
   back ((d37.1,(d37.2.1,(d37.2.2.1,(x38,())))))
 else
  some (.inl (s5,()))
def QB (N:Nat):Nat->MC->Option NR
 | 0,_=>none
 | k+1,d=>If N (QB N k) d
def US (N:Nat) (d:Int×Int×Unit):Option (Tab×Unit):=
 let a0:=d.1
 let a1:=d.2.1
 (QB N N ((a0,([([]:List Int)],(a1,((0:Int),())))))).bind fun o25=>match o25 with
 | .inl d26=>
  some (d26.1,())
def Aqa:FSig:=⟨[(I,false),(I,false)],[AH],true,(Ey)⟩
def Aoz:FSig:=⟨[(Af,true)],[],true,Ir⟩
def Aww:FSig:=⟨[(AH,true),(D0,false)],[],true,IT⟩
def Awq:FSig:=⟨[(AH,true),(Ft,false)],[AH],true,EN⟩
def Avd:Ctx:={ tk:=Ad tks,ar:=Ad ars,fs:=Ad [(91,Cn),(114,Vs),(148,Rv),(176,Aoz),(177,Aww)],dm:=fun t=>Nat.beq t 10||Nat.beq t 22,cs:=Ad [],gs:=Ad [(178,(Awq,{ gone:=[0],deep:=[] }))],eqt:=inL [],md:=md0 }
abbrev OE:=(List Int×Unit)×Int×Tab×List Int×List Int×Int×Int×Tab×Int×Int×List Int×Int×Int×Unit
abbrev NB:=((List Int×Unit)×Int×Tab×List Int×Int×Int×Tab×Int×Int×Unit)⊕Empty
def Aln:AU:=[(2,.box AL 0),(7,.v I),(8,.own AH 99),(10,.v Af),(16,.v Af),(17,.v I),(18,.v I),(22,.v AH),(23,.v I),(24,.v I),(31,.own Af 99),(32,.v I),(33,.v I)]
def Ah2:AJ:=[(.normal,[(2,.box AL 0),(7,.v I),(8,.own AH 99),(16,.v Af),(17,.v I),(18,.v I),(22,.v AH),(23,.v I),(24,.v I)])]
def HG (N:Nat) (back:OE->Option NB) (d:OE):Option NB:=
 let s2:=d.1
 let s7:=d.2.1
 let s8:=d.2.2.1
 let s10:=d.2.2.2.1
 let s16:=d.2.2.2.2.1
 let s17:=d.2.2.2.2.2.1
 let s18:=d.2.2.2.2.2.2.1
 let s22:=d.2.2.2.2.2.2.2.1
 let s23:=d.2.2.2.2.2.2.2.2.1
 let s24:=d.2.2.2.2.2.2.2.2.2.1
 let s31:=d.2.2.2.2.2.2.2.2.2.2.1
 let s32:=d.2.2.2.2.2.2.2.2.2.2.2.1
 let s33:=d.2.2.2.2.2.2.2.2.2.2.2.2.1
 if (decide (s33<s32))=true then
  if (Ak s33 (List.length s31))=true then
  (DL (s10,())).bind fun r50=>
  if (decide (List.length r50.1+List.length ([at_ I s31 s33.toNat])<=lim))=true then
  let x51:=r50.1++([at_ I s31 s33.toNat])
  if (decide (List.length s8+List.length ([x51])<=lim))=true then
  let x52:=IntKind.wrap .i64 (s33+(1:Int))
  back ((s2,(s7,(s8++([x51]),(s10,(s16,(s17,(s18,(s22,(s23,(s24,(s31,(s32,(x52,()))))))))))))))
  else none
  else none
  else none
 else
  some (.inl ((s2,(s7,(s8,(s16,(s17,(s18,(s22,(s23,(s24,())))))))))))
def Ql (N:Nat):Nat->OE->Option NB
 | 0,_=>none
 | k+1,d=>HG N (Ql N k) d
abbrev Nu:=(List Int×Unit)×Int×Tab×List Int×Int×Int×Tab×Int×Int×Unit
abbrev Og:=((List Int×Unit)×Tab×List Int×Int×Int×Unit)⊕Empty
def Aka:AU:=[(2,.box AL 0),(7,.v I),(8,.own AH 99),(16,.v Af),(17,.v I),(18,.v I),(22,.v AH),(23,.v I),(24,.v I)]
def Af4:AJ:=[(.normal,[(2,.box AL 0),(8,.own AH 99),(16,.v Af),(17,.v I),(18,.v I)])]
def Hv (N:Nat) (back:Nu->Option Og) (d:Nu):Option Og:=
 let s2:=d.1
 let s7:=d.2.1
 let s8:=d.2.2.1
 let s16:=d.2.2.2.1
 let s17:=d.2.2.2.2.1
 let s18:=d.2.2.2.2.2.1
 let s22:=d.2.2.2.2.2.2.1
 let s23:=d.2.2.2.2.2.2.2.1
 let s24:=d.2.2.2.2.2.2.2.2.1
 if (decide (s24<s23))=true then
  if (Ak s24 (List.length s22))=true then
  ((IE 0) ((s2,(s7,())))).bind fun r42=>
  (Di (r42.1,())).bind fun r43=>
  (Ql N N ((s2,(s7,(s8,(at_ Af s22 s24.toNat,(s16,(s17,(s18,(s22,(s23,(s24,(r43.1,((List.length r43.1:Int),((0:Int),()))))))))))))))).bind fun o47=>match o47 with
  | .inl d48=>
   let x49:=IntKind.wrap .i64 (d48.2.2.2.2.2.2.2.2.1+(1:Int))
   back ((d48.1,(d48.2.1,(d48.2.2.1,(d48.2.2.2.1,(d48.2.2.2.2.1,(d48.2.2.2.2.2.1,(d48.2.2.2.2.2.2.1,(d48.2.2.2.2.2.2.2.1,(x49,()))))))))))
  else none
 else
  some (.inl ((s2,(s8,(s16,(s17,(s18,())))))))
def Re (N:Nat):Nat->Nu->Option Og
 | 0,_=>none
 | k+1,d=>Hv N (Re N k) d
abbrev On:=(List Int×Unit)×Tab×List Int×Int×Int×Unit
abbrev MO:=(Tab×Unit)⊕Empty
def Af0:AU:=[(2,.box AL 0),(5,.own AH 99),(16,.v Af),(17,.v I),(18,.v I)]
def Al0:AJ:=[(.normal,[(5,.own AH 99)])]
def Hr (N:Nat) (back:On->Option MO) (d:On):Option MO:=
 let s2:=d.1
 let s5:=d.2.1
 let s16:=d.2.2.1
 let s17:=d.2.2.2.1
 let s18:=d.2.2.2.2.1
 if (decide (s18<s17))=true then
  if (Ak s18 (List.length s16))=true then
  (Re N N ((s2,(at_ I s16 s18.toNat,(([]:Tab),(s16,(s17,(s18,(s5,((List.length s5:Int),((0:Int),()))))))))))).bind fun o39=>match o39 with
  | .inl d40=>
   let x41:=IntKind.wrap .i64 (d40.2.2.2.2.1+(1:Int))
   back ((d40.1,(d40.2.1,(d40.2.2.1,(d40.2.2.2.1,(x41,()))))))
  else none
 else
  some (.inl (s5,()))
def Rb (N:Nat):Nat->On->Option MO
 | 0,_=>none
 | k+1,d=>Hr N (Rb N k) d
abbrev Mu:=Tab×Unit×Int×Int×Unit
abbrev Pg:=(Tab×Unit)⊕Empty
def Agk:AU:=[(5,.own AH 99),(49,.same 5 []),(50,.v I),(51,.v I)]
def Afz:AJ:=[(.normal,[(5,.own AH 99)])]
def Hd (N:Nat) (back:Mu->Option Pg) (d:Mu):Option Pg:=
 let s5:=d.1
 let s49:=d.2.1
 let s50:=d.2.2.1
 let s51:=d.2.2.2.1
 if (decide (s51<s50))=true then
  if (Ak s51 (List.length s5))=true then
  (Ir (at_ Af s5 s51.toNat,())).bind fun r53=>
  let x54:=IntKind.wrap .i64 (s51+(1:Int))
  back ((List.set s5 s51.toNat r53.1,((),(s50,(x54,())))))
  else none
 else
  some (.inl (s5,()))
def Rc (N:Nat):Nat->Mu->Option Pg
 | 0,_=>none
 | k+1,d=>Hd N (Rc N k) d
def Uy (N:Nat) (d:(List Int×Unit)×List Int×Unit):Option (Tab×Unit):=
 let a0:=d.1
 let a1:=d.2.1
 (Rb N N ((a0,([([]:List Int)],(a1,((List.length a1:Int),((0:Int),()))))))).bind fun o23=>match o23 with
 | .inl d24=>
  (Rc N N ((d24.1,((),((List.length d24.1:Int),((0:Int),())))))).bind fun o27=>match o27 with
  | .inl d28=>
   (IT ((d28.1,(((),()),())))).bind fun r29=>
   (EN ((r29.1,(((),()),())))).bind fun r30=>
   some (r30.1,())
def Aqf:FSig:=⟨[(AL,false),(Af,false)],[AH],true,(EU)⟩
def II (d:List Int×List Int×(Unit×Unit)×Unit):Option (Int×Unit):=D9 (d.1,d.2.1,d.2.2.1.2)
def Aec:FSig:=⟨[(Af,false),(Af,false),(D0,false)],[I],true,II⟩
def Aw8:Ctx:={ tk:=Ad tks,ar:=Ad ars,fs:=Ad [],cs:=Ad [(68,Aec)] }
abbrev Ro:=Tab×List Int×(Unit×Unit)×Int×Int×Int×Unit
abbrev Sa:=(Tab×List Int×(Unit×Unit)×Int×Int×Unit)⊕Empty
def Anc:AU:=[(0,.v AH),(1,.v Af),(2,.v D0),(8,.v I),(9,.v I),(10,.v I)]
def Aqp:AJ:=[(.normal,[(0,.v AH),(1,.v Af),(2,.v D0),(8,.v I),(9,.v I)])]
def Jr (N:Nat) (back:Ro->Option Sa) (d:Ro):Option Sa:=
 let s0:=d.1
 let s1:=d.2.1
 let s2:=d.2.2.1
 let s8:=d.2.2.2.1
 let s9:=d.2.2.2.2.1
 let s10:=d.2.2.2.2.2.1
 if (decide (s9<s10))=true then
  let x8:=IntKind.wrap .u64 (IntKind.wrap .i64 (s9+s10))
  if (decide (0<=(1:Int)))=true then
  let x9:=IntKind.wrap .i64 (shr .u64 x8 (1:Int))
  if (Ak x9 (List.length s0))=true then
  (II ((at_ Af s0 x9.toNat,(s1,(s2,()))))).bind fun r10=>
  if (decide (r10.1<(0:Int)))=true then
   let x11:=IntKind.wrap .i64 (x9+(1:Int))
   back ((s0,(s1,(s2,(s8,(x11,(s10,())))))))
  else
   back ((s0,(s1,(s2,(s8,(s9,(x9,())))))))
  else none
  else none
 else
  some (.inl ((s0,(s1,(s2,(s8,(s9,())))))))
end Go.V.W
end
