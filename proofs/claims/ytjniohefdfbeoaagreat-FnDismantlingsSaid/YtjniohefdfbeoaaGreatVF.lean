/- What the law FnDismantlings leans on, part 6: an interpreter of the model as plain data, its soundness, the functions as it tells them, and their laws. -/
import Derived.Test.YtjniohefdfbeoaaGreatProg
import Derived.Laws.CopyOwn
import Derived.Deep.OwnRows
import Derived.WalkKit
import Derived.LoopN
import Derived.Deep.DeepFit
import Derived.Shelf.Lays
import Derived.IntWalk
import Derived.Lib.Builder
import Derived.Test.YtjniohefdfbeoaaGreatVE
set_option linter.unusedVariables false
set_option linter.unusedSimpArgs false
set_option maxRecDepth 100000
noncomputable section
namespace Go.V.W
open Go.Proofs
def Vj (N:Nat):Nat->Ro->Option Sa
 | 0,_=>none
 | k+1,d=>Jr N (Vj N k) d
def Aee (N:Nat) (d:Tab×List Int×(Unit×Unit)×Unit):Option (Int×Bool×Unit):=
 let a0:=d.1
 let a1:=d.2.1
 let a2:=d.2.2.1
 (Vj N N ((a0,(a1,(a2,((List.length a0:Int),((0:Int),((List.length a0:Int),())))))))).bind fun o5=>match o5 with
 | .inl d6=>
  if (decide (d6.2.2.2.2.1<d6.2.2.2.1))=true then
   if (Ak d6.2.2.2.2.1 (List.length d6.1))=true then
   (II ((at_ Af d6.1 d6.2.2.2.2.1.toNat,(d6.2.1,(d6.2.2.1,()))))).bind fun r7=>
   some ((d6.2.2.2.2.1,(r7.1==(0:Int),())))
   else none
  else
   some ((d6.2.2.2.2.1,(false,())))
def Awk:FSig:=⟨[(AH,false),(Af,false),(D0,false)],[I,.bool],true,(YH)⟩
def Ati:Ctx:={ tk:=Ad tks,ar:=Ad ars,fs:=Ad [(184,Awk)] }
def Sf (N:Nat) (d:((List Int×Unit)×Tab×Tab×Tab×Unit)×List Int×Unit):Option (Int×Unit):=
 let a0:=d.1
 let a1:=d.2.1
 (YH ((a0.2.1,(a1,(((),()),()))))).bind fun r1=>
 some (r1.1,())
def Arb:FSig:=⟨[(AQ,false),(Af,false)],[I],true,(Sf 0)⟩
def Atc:Ctx:={ tk:=Ad tks,ar:=Ad ars,fs:=Ad [(125,UU),(142,Aqf),(160,Aqa),(161,Arb)] }
abbrev OB:=(List Int×Unit)×((List Int×Unit)×Tab×Tab×Tab×Unit)×List Int×Tab×Int×Int×Tab×Int×Int×Unit
abbrev MF:=((List Int×Unit)×((List Int×Unit)×Tab×Tab×Tab×Unit)×List Int×Tab×Int×Int×Unit)⊕Empty
def Alb:AU:=[(2,.box AL 0),(5,.box AC 99),(8,.own Af 99),(21,.v AH),(22,.v I),(23,.v I),(29,.own AH 99),(30,.v I),(31,.v I)]
def Al2:AJ:=[(.normal,[(2,.box AL 0),(5,.box AC 99),(8,.own Af 99),(21,.v AH),(22,.v I),(23,.v I)])]
def HU (N:Nat) (back:OB->Option MF) (d:OB):Option MF:=
 let s2:=d.1
 let s5:=d.2.1
 let s8:=d.2.2.1
 let s21:=d.2.2.2.1
 let s22:=d.2.2.2.2.1
 let s23:=d.2.2.2.2.2.1
 let s29:=d.2.2.2.2.2.2.1
 let s30:=d.2.2.2.2.2.2.2.1
 let s31:=d.2.2.2.2.2.2.2.2.1
 if (decide (s31<s30))=true then
  if (Ak s31 (List.length s29))=true then
  ((Sf 0) ((s5,(at_ Af s29 s31.toNat,())))).bind fun r18=>
  if (decide (List.length s8+List.length ([r18.1])<=lim))=true then
  let x19:=IntKind.wrap .i64 (s31+(1:Int))
  back ((s2,(s5,(s8++([r18.1]),(s21,(s22,(s23,(s29,(s30,(x19,()))))))))))
  else none
  else none
 else
  some (.inl ((s2,(s5,(s8,(s21,(s22,(s23,()))))))))
def QH (N:Nat):Nat->OB->Option MF
 | 0,_=>none
 | k+1,d=>HU N (QH N k) d
abbrev Mv:=(List Int×Unit)×((List Int×Unit)×Tab×Tab×Tab×Unit)×Tab×Int×Int×Unit
abbrev Ms:=(((List Int×Unit)×Tab×Tab×Tab×Unit)×Unit)⊕Empty
def Af1:AU:=[(2,.box AL 0),(5,.box AC 99),(21,.v AH),(22,.v I),(23,.v I)]
def Afs:AJ:=[(.normal,[(5,.box AC 99)])]
def Hn (N:Nat) (back:Mv->Option Ms) (d:Mv):Option Ms:=
 let s2:=d.1
 let s5:=d.2.1
 let s21:=d.2.2.1
 let s22:=d.2.2.2.1
 let s23:=d.2.2.2.2.1
 if (decide (s23<s22))=true then
  if (Ak s23 (List.length s21))=true then
  (EU ((s2,(at_ Af s21 s23.toNat,())))).bind fun r11=>
  (QH N N ((s2,(s5,(([]:List Int),(s21,(s22,(s23,(r11.1,((List.length r11.1:Int),((0:Int),()))))))))))).bind fun o14=>match o14 with
  | .inl d15=>
   if (decide (List.length d15.2.1.2.2.1+List.length ([d15.2.2.1])<=lim))=true then
   let x16:=d15.2.1.2.2.1++([d15.2.2.1])
   let x17:=IntKind.wrap .i64 (d15.2.2.2.2.2.1+(1:Int))
   back ((d15.1,((d15.2.1.1,(d15.2.1.2.1,(x16,d15.2.1.2.2.2))),(d15.2.2.2.1,(d15.2.2.2.2.1,(x17,()))))))
   else none
  else none
 else
  some (.inl (s5,()))
def QP (N:Nat):Nat->Mv->Option Ms
 | 0,_=>none
 | k+1,d=>Hn N (QP N k) d
def VO (N:Nat) (d:(List Int×Unit)×Int×Unit):Option (((List Int×Unit)×Tab×Tab×Tab×Unit)×Unit):=
 let a0:=d.1
 let a1:=d.2.1
 let r1:=IQ (a0,())
 (Ey ((r1.1,(a1,())))).bind fun r2=>
 (QP N N ((a0,((a0,(r2.1,(([]:Tab),(([]:Tab),())))),(r2.1,((List.length r2.1:Int),((0:Int),()))))))).bind fun o9=>match o9 with
 | .inl d10=>
  some (d10.1,())
def Arn:FSig:=⟨[(AL,false),(I,false)],[AQ],true,(EM)⟩
def Ask:Ctx:={ tk:=Ad tks,ar:=Ad ars,fs:=Ad [(103,Yo),(165,ZA)],cs:=Ad [],w1:=inL [76] }
def Wt (N:Nat) (d:Int×((List Int×Unit)×Tab×Tab×Tab×Unit)×Int×Unit):Option (Bool×Unit):=
 let a0:=d.1
 let a1:=d.2.1
 let a2:=d.2.2.1
 if (Ak a0 (List.length a1.2.1))=true then
 ((Jg 0) ((at_ Af a1.2.1 a0.toNat,(a2,())))).bind fun r1=>
 if (r1.1)=true then
  some (true,())
 else
  if (Ak a0 (List.length a1.2.2.2.1))=true then
  (CP ((a1.1,(at_ Af a1.2.2.2.1 a0.toNat,(a2,()))))).bind fun r2=>
  some ((decide (r2.1>=(0:Int)),()))
  else none
 else none
def Axl:FSig:=⟨[(I,false),(DC,false),(Yj,false)],[.bool],true,(Wt 0)⟩
def Qu (d:Int×(Unit×((List Int×Unit)×Tab×Tab×Tab×Unit)×Int×Unit)×Unit):Option (Bool×Unit):=(Wt 0) (d.1,d.2.1.2)
def Aev:FSig:=⟨[(I,false),(AZ,false)],[.bool],true,Qu⟩
def Axp:Ctx:={ tk:=Ad tks,ar:=Ad ars,fs:=Ad [],cs:=Ad [(164,Aev)] }
abbrev Sz:=List Int×(Unit×((List Int×Unit)×Tab×Tab×Tab×Unit)×Int×Unit)×Int×Int×Unit
abbrev Rn:=(Int×Unit)⊕Unit⊕Empty
def Ana:AU:=[(0,.v Af),(1,.v AZ),(7,.v I),(8,.v I)]
def Apw:AJ:=[(.ret,[(4,.v I)]),(.normal,[])]
def LC (N:Nat) (back:Sz->Option Rn) (d:Sz):Option Rn:=
 let s0:=d.1
 let s1:=d.2.1
 let s7:=d.2.2.1
 let s8:=d.2.2.2.1
 if (decide (s8<s7))=true then
  if (Ak s8 (List.length s0))=true then
  (Qu ((at_ I s0 s8.toNat,(s1,())))).bind fun r6=>
  if (r6.1)=true then
   some (.inl (s8,()))
  else
   let x7:=IntKind.wrap .i64 (s8+(1:Int))
   back ((s0,(s1,(s7,(x7,())))))
  else none
 else
  some (.inr (.inl ()))
def WN (N:Nat):Nat->Sz->Option Rn
 | 0,_=>none
 | k+1,d=>LC N (WN N k) d
def Ae6 (N:Nat) (d:List Int×(Unit×((List Int×Unit)×Tab×Tab×Tab×Unit)×Int×Unit)×Unit):Option (Int×Unit):=
 let a0:=d.1
 let a1:=d.2.1
 (WN N N ((a0,(a1,((List.length a0:Int),((0:Int),())))))).bind fun o3=>match o3 with
 | .inl d4=>
  some (d4.1,())
 | .inr (.inl d5)=>
  some ((-1:Int),())
def Awg:FSig:=⟨[(Af,false),(AZ,false)],[I],true,(H5)⟩
def Az3:Ctx:={ tk:=Ad tks,ar:=Ad ars,fs:=Ad [(180,Awg)] }
def Aem (N:Nat) (d:List Int×(Unit×((List Int×Unit)×Tab×Tab×Tab×Unit)×Int×Unit)×Unit):Option (Bool×Unit):=
 let a0:=d.1
 let a1:=d.2.1
 (H5 ((a0,(a1,())))).bind fun r1=>
 some ((decide (r1.1>=(0:Int)),()))
def Awu:FSig:=⟨[(Af,false),(AZ,false)],[.bool],true,(Aem 0)⟩
def Avj:Ctx:={ tk:=Ad tks,ar:=Ad ars,fs:=Ad [(163,Awu)],cs:=Ad [],w1:=inL [76],fz:=fun t=>Nat.beq t 3||Nat.beq t 5 }
def RI (N:Nat) (d:((List Int×Unit)×Tab×Tab×Tab×Unit)×Int×Int×Unit):Option (Bool×Unit):=
 let a0:=d.1
 let a1:=d.2.1
 let a2:=d.2.2.1
 if (Ak a1 (List.length a0.2.2.1))=true then
 ((Aem 0) ((at_ Af a0.2.2.1 a1.toNat,(((),(a0,(a2,()))),())))).bind fun r1=>
 some (r1.1,())
 else none
def Aqs:FSig:=⟨[(AQ,false),(I,false),(I,false)],[.bool],true,(RI 0)⟩
def Asx:Ctx:={ tk:=Ad tks,ar:=Ad ars,fs:=Ad [(124,ZX),(125,UU),(126,Aqs)],cs:=Ad [],gs:=Ad [(110,(Arn,md0))],eqt:=inL [],md:=md0 }
abbrev Ng:=(List Int×Unit)×((List Int×Unit)×Tab×Tab×Tab×Unit)×List Int×Tab×Int×Int×List Int×Int×Int×Unit
abbrev N5:=((List Int×Unit)×((List Int×Unit)×Tab×Tab×Tab×Unit)×List Int×Tab×Int×Int×Unit)⊕Empty
def Akh:AU:=[(2,.box AL 0),(5,.box AC 99),(8,.own Af 99),(26,.v AH),(27,.v I),(28,.v I),(36,.v Af),(37,.v I),(38,.v I)]
def Afw:AJ:=[(.normal,[(2,.box AL 0),(5,.box AC 99),(8,.own Af 99),(26,.v AH),(27,.v I),(28,.v I)])]
def HJ (N:Nat) (back:Ng->Option N5) (d:Ng):Option N5:=
 let s2:=d.1
 let s5:=d.2.1
 let s8:=d.2.2.1
 let s26:=d.2.2.2.1
 let s27:=d.2.2.2.2.1
 let s28:=d.2.2.2.2.2.1
 let s36:=d.2.2.2.2.2.2.1
 let s37:=d.2.2.2.2.2.2.2.1
 let s38:=d.2.2.2.2.2.2.2.2.1
 if (decide (s38<s37))=true then
  if (Ak s38 (List.length s36))=true then
  if (Ak (at_ I s36 s38.toNat) (List.length s8))=true then
  let x35:=List.set s8 (at_ I s36 s38.toNat).toNat (0:Int)
  let x36:=IntKind.wrap .i64 (s38+(1:Int))
  back ((s2,(s5,(x35,(s26,(s27,(s28,(s36,(s37,(x36,()))))))))))
  else none
  else none
 else
  some (.inl ((s2,(s5,(s8,(s26,(s27,(s28,()))))))))
def QZ (N:Nat):Nat->Ng->Option N5
 | 0,_=>none
 | k+1,d=>HJ N (QZ N k) d
abbrev M6:=(List Int×Unit)×((List Int×Unit)×Tab×Tab×Tab×Unit)×Tab×Int×Int×Unit
abbrev OI:=(((List Int×Unit)×Tab×Tab×Tab×Unit)×Unit)⊕Empty
def Ak8:AU:=[(2,.box AL 0),(5,.box AC 99),(26,.v AH),(27,.v I),(28,.v I)]
def Ak9:AJ:=[(.normal,[(5,.box AC 99)])]
def Hq (N:Nat) (back:M6->Option OI) (d:M6):Option OI:=
 let s2:=d.1
 let s5:=d.2.1
 let s26:=d.2.2.1
 let s27:=d.2.2.2.1
 let s28:=d.2.2.2.2.1
 if (decide (s28<s27))=true then
  if (Ak s28 (List.length s26))=true then
  let r27:=IQ (s2,())
  (Dq (([(-1:Int)],(r27.1,())))).bind fun r28=>
  (QZ N N ((s2,(s5,(r28.1,(s26,(s27,(s28,(at_ Af s26 s28.toNat,((List.length (at_ Af s26 s28.toNat):Int),((0:Int),()))))))))))).bind fun o31=>match o31 with
  | .inl d32=>
   if (decide (List.length d32.2.1.2.2.2.1+List.length ([d32.2.2.1])<=lim))=true then
   let x33:=d32.2.1.2.2.2.1++([d32.2.2.1])
   let x34:=IntKind.wrap .i64 (d32.2.2.2.2.2.1+(1:Int))
   back ((d32.1,((d32.2.1.1,(d32.2.1.2.1,(d32.2.1.2.2.1,(x33,d32.2.1.2.2.2.2)))),(d32.2.2.2.1,(d32.2.2.2.2.1,(x34,()))))))
   else none
  else none
 else
  some (.inl (s5,()))
def Q4 (N:Nat):Nat->M6->Option OI
 | 0,_=>none
 | k+1,d=>Hq N (Q4 N k) d
abbrev MI:=((List Int×Unit)×Tab×Tab×Tab×Unit)×Int×Bool×(List (Int×Int×Unit))×Int×Int×Int×Int×Int×Unit×Int×Unit
abbrev Oc:=(((List Int×Unit)×Tab×Tab×Tab×Unit)×Int×Bool×(List (Int×Int×Unit))×Int×Int×Unit×Unit)⊕Empty
def Ain:AU:=[(5,.box AC 99),(11,.v I),(12,.v .bool),(13,.own Bw 99),(14,.v I),(64,.v I),(65,.v I),(71,.v I),(72,.v I),(63,.same 5 [.r,.r,.r,.l]),(70,.hole 5 [.r,.r,.r,.l] [])]
def Ajg:AJ:=[(.normal,[(5,.box AC 99),(11,.v I),(12,.v .bool),(13,.own Bw 99),(64,.v I),(65,.v I),(63,.same 5 [.r,.r,.r,.l])])]
def Ho (N:Nat) (back:MI->Option Oc) (d:MI):Option Oc:=
 let s5:=d.1
 let s11:=d.2.1
 let s12:=d.2.2.1
 let s13:=d.2.2.2.1
 let s14:=d.2.2.2.2.1
 let s64:=d.2.2.2.2.2.1
 let s65:=d.2.2.2.2.2.2.1
 let s71:=d.2.2.2.2.2.2.2.1
 let s72:=d.2.2.2.2.2.2.2.2.1
 let s63:=d.2.2.2.2.2.2.2.2.2.1
 let s70:=d.2.2.2.2.2.2.2.2.2.2.1
 if (decide (s72<s71))=true then
  if (Ak s72 (List.length (at_ Af s5.2.2.2.1 (Int.toNat s70))))=true then
  if (decide (at_ I (at_ Af s5.2.2.2.1 (Int.toNat s70)) s72.toNat<(0:Int)))=true then
   ((RI 0) ((s5,(s14,(s72,()))))).bind fun r57=>
   if (r57.1)=true then
    if (decide (List.length s13+List.length ([(s14,(s72,()))])<=lim))=true then
    let x58:=IntKind.wrap .i64 (s72+(1:Int))
    back ((s5,(s11,(s12,(s13++([(s14,(s72,()))]),(s14,(s64,(s65,(s71,(x58,((),((((Int.toNat s70):Nat):Int),()))))))))))))
    else none
   else
    let x59:=IntKind.wrap .i64 (s72+(1:Int))
    back ((s5,(s11,(s12,(s13,(s14,(s64,(s65,(s71,(x59,((),((((Int.toNat s70):Nat):Int),()))))))))))))
  else
   let x60:=IntKind.wrap .i64 (s72+(1:Int))
   back ((s5,(s11,(s12,(s13,(s14,(s64,(s65,(s71,(x60,((),((((Int.toNat s70):Nat):Int),()))))))))))))
  else none
 else
  some (.inl ((s5,(s11,(s12,(s13,(s64,(s65,((),())))))))))
def QR (N:Nat):Nat->MI->Option Oc
 | 0,_=>none
 | k+1,d=>Ho N (QR N k) d
abbrev NX:=((List Int×Unit)×Tab×Tab×Tab×Unit)×Int×Bool×(List (Int×Int×Unit))×Int×Int×Unit×Unit
abbrev Nr:=(((List Int×Unit)×Tab×Tab×Tab×Unit)×Int×Bool×(List (Int×Int×Unit))×Unit)⊕Empty
def Ak2:AU:=[(5,.box AC 99),(11,.v I),(12,.v .bool),(13,.own Bw 99),(64,.v I),(65,.v I),(63,.same 5 [.r,.r,.r,.l])]
def Agb:AJ:=[(.normal,[(5,.box AC 99),(11,.v I),(12,.v .bool),(13,.own Bw 99)])]
def HA (N:Nat) (back:NX->Option Nr) (d:NX):Option Nr:=
 let s5:=d.1
 let s11:=d.2.1
 let s12:=d.2.2.1
 let s13:=d.2.2.2.1
 let s64:=d.2.2.2.2.1
 let s65:=d.2.2.2.2.2.1
 let s63:=d.2.2.2.2.2.2.1
 if (decide (s65<s64))=true then
  if (Ak s65 (List.length s5.2.2.2.1))=true then
  (QR N N ((s5,(s11,(s12,(s13,(s65,(s64,(s65,((List.length (at_ Af s5.2.2.2.1 s65.toNat):Int),((0:Int),((),(((s65.toNat:Nat):Int),()))))))))))))).bind fun o54=>match o54 with
  | .inl d55=>
   let x56:=IntKind.wrap .i64 (d55.2.2.2.2.2.1+(1:Int))
   back ((d55.1,(d55.2.1,(d55.2.2.1,(d55.2.2.2.1,(d55.2.2.2.2.1,(x56,((),()))))))))
  else none
 else
  some (.inl ((s5,(s11,(s12,(s13,()))))))
def Q1 (N:Nat):Nat->NX->Option Nr
 | 0,_=>none
 | k+1,d=>HA N (Q1 N k) d
abbrev K5:=((List Int×Unit)×Tab×Tab×Tab×Unit)×Int×Bool×(List (Int×Int×Unit))×Int×Int×Unit
abbrev K1:=(((List Int×Unit)×Tab×Tab×Tab×Unit)×Int×Bool×Unit)⊕Empty
def Aa1:AU:=[(5,.box AC 99),(11,.v I),(12,.v .bool),(93,.own Bw 99),(94,.v I),(95,.v I)]
def YL:AJ:=[(.normal,[(5,.box AC 99),(11,.v I),(12,.v .bool)])]
def Gn (N:Nat) (back:K5->Option K1) (d:K5):Option K1:=
 let s5:=d.1
 let s11:=d.2.1
 let s12:=d.2.2.1
 let s93:=d.2.2.2.1
 let s94:=d.2.2.2.2.1
 let s95:=d.2.2.2.2.2.1
 if (decide (s95<s94))=true then
  if (Ak s95 (List.length s93))=true then
  if (Ak (at_ Aj s93 s95.toNat).1 (List.length s5.2.2.2.1))=true then
  if (Ak (at_ Aj s93 s95.toNat).2.1 (List.length (at_ Af s5.2.2.2.1 (at_ Aj s93 s95.toNat).1.toNat)))=true then
  let x61:=IntKind.wrap .i64 (s95+(1:Int))
  back (((s5.1,(s5.2.1,(s5.2.2.1,(List.set s5.2.2.2.1 (at_ Aj s93 s95.toNat).1.toNat (List.set (at_ Af s5.2.2.2.1 (at_ Aj s93 s95.toNat).1.toNat) (at_ Aj s93 s95.toNat).2.1.toNat s11),s5.2.2.2.2)))),(s11,(true,(s93,(s94,(x61,())))))))
  else none
  else none
  else none
 else
  some (.inl ((s5,(s11,(s12,())))))
def LQ (N:Nat):Nat->K5->Option K1
 | 0,_=>none
 | k+1,d=>Gn N (LQ N k) d
abbrev N9:=((List Int×Unit)×Tab×Tab×Tab×Unit)×Int×Bool×Unit
abbrev Pe:=(((List Int×Unit)×Tab×Tab×Tab×Unit)×Unit)⊕Empty
def Aj4:AU:=[(5,.box AC 99),(11,.v I),(12,.v .bool)]
def Agj:AJ:=[(.normal,[(5,.box AC 99)])]
def Oy (N:Nat) (back:N9->Option Pe) (d:N9):Option Pe:=
 let s5:=d.1
 let s11:=d.2.1
 let s12:=d.2.2.1
 if (s12)=true then
  (Q1 N N ((s5,(s11,(false,(([]:List (Int×Int×Unit)),((List.length s5.2.2.2.1:Int),((0:Int),((),()))))))))).bind fun o44=>match o44 with
  | .inl d45=>
   (LQ N N ((d45.1,(d45.2.1,(d45.2.2.1,(d45.2.2.2.1,((List.length d45.2.2.2.1:Int),((0:Int),())))))))).bind fun o47=>match o47 with
   | .inl d48=>
    let x49:=IntKind.wrap .i64 (d48.2.1+(1:Int))
    back ((d48.1,(x49,(d48.2.2.1,()))))
 else
  some (.inl (s5,()))
def Qs (N:Nat):Nat->N9->Option Pe
 | 0,_=>none
 | k+1,d=>Oy N (Qs N k) d
def Va (N:Nat) (d:(List Int×Unit)×Int×Unit):Option (((List Int×Unit)×Tab×Tab×Tab×Unit)×Unit):=
 let a0:=d.1
 let a1:=d.2.1
 (EM ((a0,(a1,())))).bind fun r1=>
 (Q4 N N ((a0,(r1.1,(r1.1.2.1,((List.length r1.1.2.1:Int),((0:Int),()))))))).bind fun o10=>match o10 with
 | .inl d11=>
  (Qs N N ((d11.1,((1:Int),(true,()))))).bind fun o25=>match o25 with
  | .inl d26=>
   some (d26.1,())
def Anb:FSig:=⟨[(AL,false),(I,false)],[AQ],true,(Ge)⟩
def Auk:Ctx:={ tk:=Ad tks,ar:=Ad ars,fs:=Ad [(103,Yo),(114,Vs),(127,Aaz)] }
abbrev Oj:=((List Int×Unit)×Tab×Tab×Tab×Unit)×Int×Int×Tab×Int×Int×Unit
abbrev Pw:=(((List Int×Unit)×Tab×Tab×Tab×Unit)×Int×Int×Unit)⊕Empty
def Agw:AU:=[(0,.v AQ),(5,.v I),(6,.v I),(13,.v AH),(14,.v I),(15,.v I)]
def Aiy:AJ:=[(.normal,[(0,.v AQ),(5,.v I),(6,.v I)])]
def Ik (N:Nat) (back:Oj->Option Pw) (d:Oj):Option Pw:=
 let s0:=d.1
 let s5:=d.2.1
 let s6:=d.2.2.1
 let s13:=d.2.2.2.1
 let s14:=d.2.2.2.2.1
 let s15:=d.2.2.2.2.2.1
 if (decide (s15<s14))=true then
  if (Ak s15 (List.length s13))=true then
  ((Jg 0) ((at_ Af s13 s15.toNat,((-1:Int),())))).bind fun r10=>
  if (r10.1)=true then
   let x11:=IntKind.wrap .i64 (s15+(1:Int))
   back ((s0,(s5,(s6,(s13,(s14,(x11,())))))))
  else
   (Lw (at_ Af s13 s15.toNat,())).bind fun r12=>
   if (decide (s5<(0:Int)))=true then
    let x13:=IntKind.wrap .i64 (s15+(1:Int))
    back ((s0,(s15,(r12.1,(s13,(s14,(x13,())))))))
   else
    if (decide (r12.1<s6))=true then
     let x14:=IntKind.wrap .i64 (s15+(1:Int))
     back ((s0,(s15,(r12.1,(s13,(s14,(x14,())))))))
    else
     let x15:=IntKind.wrap .i64 (s15+(1:Int))
     back ((s0,(s5,(s6,(s13,(s14,(x15,())))))))
  else none
 else
  some (.inl ((s0,(s5,(s6,())))))
def Rg (N:Nat):Nat->Oj->Option Pw
 | 0,_=>none
 | k+1,d=>Ik N (Rg N k) d
def VA (N:Nat) (d:((List Int×Unit)×Tab×Tab×Tab×Unit)×Unit):Option (List Int×Int×Bool×Unit):=
 let a0:=d.1
 (Rg N N ((a0,((-1:Int),((0:Int),(a0.2.2.2.1,((List.length a0.2.2.2.1:Int),((0:Int),())))))))).bind fun o7=>match o7 with
 | .inl d8=>
  if (decide (d8.2.1<(0:Int)))=true then
   some ((([]:List Int),((0:Int),(false,()))))
  else
   if (Ak d8.2.1 (List.length d8.1.2.1))=true then
   (DL (at_ Af d8.1.2.1 d8.2.1.toNat,())).bind fun r9=>
   some ((r9.1,(d8.2.2.1,(true,()))))
   else none
def Anv:FSig:=⟨[(AQ,false)],[Af,I,.bool],true,(F9)⟩
def Aus:Ctx:={ tk:=Ad tks,ar:=Ad ars,fs:=Ad [(53,An1),(54,Cv),(65,Anv)],cs:=Ad [],gs:=Ad [(64,(Anb,md0))],eqt:=inL [],md:=md0 }
def O9 (N:Nat) (d:Gr×Int×Unit):Option (Bool×Bool×Unit):=
 let a0:=d.1
 let a1:=d.2.1
 ((SK 0) ((a0,(a1,())))).bind fun r1=>
 if (!r1.1)=true then
  some ((false,(false,())))
 else
  (DP (a0,())).bind fun r2=>
  (Ge ((r2.1,(a1,())))).bind fun r3=>
  (F9 (r3.1,())).bind fun r4=>
  some ((r4.2.2.1,(true,())))
def Aor:FSig:=⟨[(Ac,false),(I,false)],[.bool,.bool],true,(O9 0)⟩
def Tc:Ctx:={ tk:=Ad tks,ar:=Ad ars,fs:=Ad [] }
abbrev FC:=Int×Int×List Int×Int×Unit
abbrev FM:=(List Int×Unit)⊕Empty
def P3:AU:=[(0,.v I),(1,.v I),(5,.own Af 99),(6,.v I)]
def PU:AJ:=[(.normal,[(5,.own Af 99)])]
def DO (N:Nat) (back:FC->Option FM) (d:FC):Option FM:=
 let s0:=d.1
 let s1:=d.2.1
 let s5:=d.2.2.1
 let s6:=d.2.2.2.1
 if (decide (s6<s0))=true then
  if (decide (0<=s6))=true then
  let x6:=bits .and .i64 (shr .i64 s1 s6) (1:Int)
  if (x6==(1:Int))=true then
   if (decide (List.length s5+List.length ([s6])<=lim))=true then
   let x7:=IntKind.wrap .i64 (s6+(1:Int))
   back ((s0,(s1,(s5++([s6]),(x7,())))))
   else none
  else
   let x8:=IntKind.wrap .i64 (s6+(1:Int))
   back ((s0,(s1,(s5,(x8,())))))
  else none
 else
  some (.inl (s5,()))
def E3 (N:Nat):Nat->FC->Option FM
 | 0,_=>none
 | k+1,d=>DO N (E3 N k) d
def FR (N:Nat) (d:Int×Int×Unit):Option (List Int×Unit):=
 let a0:=d.1
 let a1:=d.2.1
 (E3 N N ((a0,(a1,(([]:List Int),((0:Int),())))))).bind fun o4=>match o4 with
 | .inl d5=>
  some (d5.1,())
def LK:FSig:=⟨[(I,false),(I,false)],[Af],true,(Bg)⟩
def Td:Ctx:={ tk:=Ad tks,ar:=Ad ars,fs:=Ad [],cs:=Ad [],gs:=Ad [],eqt:=inL [80],md:=md0 }
abbrev Fs:=Int×Int×Gr×Int×Unit
abbrev FF:=(Bool×Unit)⊕Unit⊕Empty
def Qe:AU:=[(1,.v I),(2,.v I),(3,.box Ac 0),(7,.v I)]
def P2:AJ:=[(.ret,[(6,.v .bool)]),(.normal,[])]
def C7 (N:Nat) (back:Fs->Option FF) (d:Fs):Option FF:=
 let s1:=d.1
 let s2:=d.2.1
 let s3:=d.2.2.1
 let s7:=d.2.2.2.1
 if (decide (s7<(List.length s3.2.1:Int)))=true then
  if (Ak s7 (List.length s3.2.1))=true then
  if (eqB Aj (at_ Aj s3.2.1 s7.toNat) ((s1,(s2,()))))=true then
   some (.inl (true,()))
  else
   if (Ak s7 (List.length s3.2.1))=true then
   if (eqB Aj (at_ Aj s3.2.1 s7.toNat) ((s2,(s1,()))))=true then
    some (.inl (true,()))
   else
    let x5:=IntKind.wrap .i64 (s7+(1:Int))
    back ((s1,(s2,(s3,(x5,())))))
   else none
  else none
 else
  some (.inr (.inl ()))
def E1 (N:Nat):Nat->Fs->Option FF
 | 0,_=>none
 | k+1,d=>C7 N (E1 N k) d
def FQ (N:Nat) (d:Gr×Int×Int×Unit):Option (Bool×Unit):=
 let a0:=d.1
 let a1:=d.2.1
 let a2:=d.2.2.1
 if (a1==a2)=true then
  some (true,())
 else
  (E1 N N ((a1,(a2,(a0,((0:Int),())))))).bind fun o2=>match o2 with
  | .inl d3=>
   some (d3.1,())
  | .inr (.inl d4)=>
   some (false,())
def L3:FSig:=⟨[(Ac,false),(I,false),(I,false)],[.bool],true,(Iw)⟩
def Ayg (self:(Gr×List Int×Unit)->Option (Int×Unit)):FSig:=⟨[(Ac,false),(Af,false)],[I],true,self⟩
def QE (self:(Gr×List Int×Unit)->Option (Int×Unit)):Ctx:={ tk:=Ad tks,ar:=Ad ars,fs:=Ad [(46,Ayg self),(101,L3)] }
abbrev Oo:=List Int×Gr×Int×Int×Bool×Int×Bool×Int×Unit
abbrev Mt:=(List Int×Gr×Int×Int×Bool×Int×Bool×Unit)⊕Empty
def MS:AU:=[(1,.v Af),(2,.box Ac 0),(5,.v I),(6,.v I),(7,.v .bool),(8,.v I),(9,.v .bool),(10,.v I)]
def Mz:AJ:=[(.normal,[(1,.v Af),(2,.box Ac 0),(5,.v I),(6,.v I),(7,.v .bool),(8,.v I),(9,.v .bool)])]
def Gc (N:Nat) (self:(Gr×List Int×Unit)->Option (Int×Unit)) (back:Oo->Option Mt) (d:Oo):Option Mt:=
 let s1:=d.1
 let s2:=d.2.1
 let s5:=d.2.2.1
 let s6:=d.2.2.2.1
 let s7:=d.2.2.2.2.1
 let s8:=d.2.2.2.2.2.1
 let s9:=d.2.2.2.2.2.2.1
 let s10:=d.2.2.2.2.2.2.2.1
 if (decide (s10<(List.length s1:Int)))=true then
  if (s9)=true then
   if (Ak s6 (List.length s1))=true then
   if (Ak s10 (List.length s1))=true then
   (Iw ((s2,(at_ I s1 s6.toNat,(at_ I s1 s10.toNat,()))))).bind fun r50=>
   if (!r50.1)=true then
    let x51:=IntKind.wrap .i64 (s10+(1:Int))
    back ((s1,(s2,(s5,(s6,(s7,(s8,(true,(x51,())))))))))
   else
    if (Ak s8 (List.length s1))=true then
    if (Ak s10 (List.length s1))=true then
    (Iw ((s2,(at_ I s1 s8.toNat,(at_ I s1 s10.toNat,()))))).bind fun r52=>
    let x53:=IntKind.wrap .i64 (s10+(1:Int))
    back ((s1,(s2,(s5,(s6,(s7,(s8,(r52.1,(x53,())))))))))
    else none
    else none
   else none
   else none
  else
   let x54:=IntKind.wrap .i64 (s10+(1:Int))
   back ((s1,(s2,(s5,(s6,(s7,(s8,(false,(x54,())))))))))
 else
  some (.inl ((s1,(s2,(s5,(s6,(s7,(s8,(s9,())))))))))
def Kt (N:Nat) (self:(Gr×List Int×Unit)->Option (Int×Unit)):Nat->Oo->Option Mt
 | 0,_=>none
 | k+1,d=>Gc N self (Kt N self k) d
theorem ZT (N:Nat) (self:(Gr×List Int×Unit)->Option (Int×Unit)) (back) (d):SO (QE self) (Ad []) 4 MS Mz (Au Tryz.f46 4) back d=Gc N self back d:=by kernel_rfl
abbrev MB:=List Int×Gr×Int×Int×Bool×Int×Unit
abbrev NP:=(List Int×Gr×Int×Int×Bool×Unit)⊕Empty
def OC:AU:=[(1,.v Af),(2,.box Ac 0),(5,.v I),(6,.v I),(7,.v .bool),(8,.v I)]
def N3:AJ:=[(.normal,[(1,.v Af),(2,.box Ac 0),(5,.v I),(6,.v I),(7,.v .bool)])]
def Ga (N:Nat) (self:(Gr×List Int×Unit)->Option (Int×Unit)) (back:MB->Option NP) (d:MB):Option NP:=
 let s1:=d.1
 let s2:=d.2.1
 let s5:=d.2.2.1
 let s6:=d.2.2.2.1
 let s7:=d.2.2.2.2.1
 let s8:=d.2.2.2.2.2.1
 if (decide (s8<(List.length s1:Int)))=true then
  (Kt N self N ((s1,(s2,(s5,(s6,(s7,(s8,(s8 != s6,((0:Int),())))))))))).bind fun o46=>match o46 with
  | .inl d47=>
   if (d47.2.2.2.2.1)=true then
    let x48:=IntKind.wrap .i64 (d47.2.2.2.2.2.1+(1:Int))
    back ((d47.1,(d47.2.1,(d47.2.2.1,(d47.2.2.2.1,(true,(x48,())))))))
   else
    let x49:=IntKind.wrap .i64 (d47.2.2.2.2.2.1+(1:Int))
    back ((d47.1,(d47.2.1,(d47.2.2.1,(d47.2.2.2.1,(d47.2.2.2.2.2.2.1,(x49,())))))))
 else
  some (.inl ((s1,(s2,(s5,(s6,(s7,())))))))
def KN (N:Nat) (self:(Gr×List Int×Unit)->Option (Int×Unit)):Nat->MB->Option NP
 | 0,_=>none
 | k+1,d=>Ga N self (KN N self k) d
theorem ZY (N:Nat) (self:(Gr×List Int×Unit)->Option (Int×Unit)) (back) (d):SO (QE self) (Ad [(4,⟨MS,Mz,Kt N self N⟩)]) 2 OC N3 (Au Tryz.f46 2) back d=Ga N self back d:=by kernel_rfl
abbrev MQ:=List Int×Gr×Int×Int×Unit
abbrev OG:=(Int×Unit)⊕Empty
def TS:AU:=[(1,.v Af),(2,.box Ac 0),(5,.v I),(6,.v I)]
def T8:AJ:=[(.normal,[(5,.v I)])]
def Gd (N:Nat) (self:(Gr×List Int×Unit)->Option (Int×Unit)) (back:MQ->Option OG) (d:MQ):Option OG:=
 let s1:=d.1
 let s2:=d.2.1
 let s5:=d.2.2.1
 let s6:=d.2.2.2.1
 if (decide (s6<(List.length s1:Int)))=true then
  (KN N self N ((s1,(s2,(s5,(s6,(false,((0:Int),())))))))).bind fun o31=>match o31 with
  | .inl d32=>
   if (d32.2.2.2.2.1)=true then
    if ((decide (0<=(0:Int))&&decide ((0:Int)<=d32.2.2.2.1)&&decide (d32.2.2.2.1<=(List.length d32.1:Int))))=true then
    let x33:=B1 d32.1 (0:Int) d32.2.2.2.1
    if (decide (List.length ([]:List Int)+List.length x33<=lim))=true then
    let x34:=IntKind.wrap .i64 (d32.2.2.2.1+(1:Int))
    if ((decide (0<=x34)&&decide (x34<=(List.length d32.1:Int))&&decide ((List.length d32.1:Int)<=(List.length d32.1:Int))))=true then
    let x35:=B1 d32.1 x34 (List.length d32.1:Int)
    if (decide (List.length (([]:List Int)++x33)+List.length x35<=lim))=true then
    let x36:=(([]:List Int)++x33)++x35
    (self ((d32.2.1,(x36,())))).bind fun r37=>
    let x38:=IntKind.wrap .i64 (d32.2.2.1+r37.1)
    let x39:=IntKind.wrap .i64 (d32.2.2.2.1+(1:Int))
    back ((d32.1,(d32.2.1,(x38,(x39,())))))
    else none
    else none
    else none
    else none
   else
    let x40:=IntKind.wrap .i64 (d32.2.2.2.1+(1:Int))
    back ((d32.1,(d32.2.1,(d32.2.2.1,(x40,())))))
 else
  some (.inl (s5,()))
def LX (N:Nat) (self:(Gr×List Int×Unit)->Option (Int×Unit)):Nat->MQ->Option OG
 | 0,_=>none
 | k+1,d=>Gd N self (LX N self k) d
theorem Aat (N:Nat) (self:(Gr×List Int×Unit)->Option (Int×Unit)) (back) (d):SO (QE self) (Ad [(2,⟨OC,N3,KN N self N⟩)]) 0 TS T8 (Au Tryz.f46 0) back d=Gd N self back d:=by kernel_rfl
def CZ:Nat->(Gr×List Int×Unit)->Option (Int×Unit)
 | 0,_=>none
 | N+1,d=>
  let a0:=d.1
  let a1:=d.2.1
  if ((List.length a1:Int)==(1:Int))=true then
   some ((1:Int),())
  else
   (LX N (CZ N) N ((a1,(a0,((0:Int),((0:Int),())))))).bind fun o20=>match o20 with
   | .inl d21=>
    some (d21.1,())
def Aos:FSig:=⟨[(Ac,false),(Af,false)],[I],true,(DZ)⟩
def At4:Ctx:={ tk:=Ad tks,ar:=Ad ars,fs:=Ad [(20,JI),(147,YN)] }
def Rs (N:Nat) (d:Gr×List Int×Unit):Option (Bool×Unit):=
 let a0:=d.1
 let a1:=d.2.1
 (Bt (a0,())).bind fun r1=>
 if (r1.1)=true then
  let x2:=IntKind.wrap .i64 (a0.1-(1:Int))
  (CQ ((a1,((0:Int),(x2,()))))).bind fun r3=>
  some (r3.1,())
 else
  some (false,())
def An9:FSig:=⟨[(Ac,false),(Af,false)],[.bool],true,(Rs 0)⟩
def Avw:Ctx:={ tk:=Ad tks,ar:=Ad ars,fs:=Ad [] }
abbrev Pf:=List Int×Int×Unit
abbrev NN:=(Bool×Unit)⊕Unit⊕Empty
def Ajw:AU:=[(0,.v Af),(3,.v I)]
def Akj:AJ:=[(.ret,[(2,.v .bool)]),(.normal,[])]
def JZ (N:Nat) (back:Pf->Option NN) (d:Pf):Option NN:=
 let s0:=d.1
 let s3:=d.2.1
 if (decide (s3<(List.length s0:Int)))=true then
  let x6:=IntKind.wrap .i64 (s3-(1:Int))
  if (Ak x6 (List.length s0))=true then
  if (Ak s3 (List.length s0))=true then
  if (decide (at_ I s0 x6.toNat>=at_ I s0 s3.toNat))=true then
   some (.inl (false,()))
  else
   let x7:=IntKind.wrap .i64 (s3+(1:Int))
   back ((s0,(x7,())))
  else none
  else none
 else
  some (.inr (.inl ()))
def Qw (N:Nat):Nat->Pf->Option NN
 | 0,_=>none
 | k+1,d=>JZ N (Qw N k) d
def Vz (N:Nat) (d:List Int×Unit):Option (Bool×Unit):=
 let a0:=d.1
 (Qw N N ((a0,((1:Int),())))).bind fun o3=>match o3 with
 | .inl d4=>
  some (d4.1,())
 | .inr (.inl d5)=>
  some (true,())
def Ank:FSig:=⟨[(Af,false)],[.bool],true,(Ef)⟩
def Tz:Ctx:={ tk:=Ad tks,ar:=Ad ars,fs:=Ad [(156,An9),(157,Ank)] }
def Es (N:Nat) (d:Gr×List Int×Unit):Option (Bool×Unit):=
 let a0:=d.1
 let a1:=d.2.1
 ((Rs 0) ((a0,(a1,())))).bind fun r1=>
 if (r1.1)=true then
  (Ef (a1,())).bind fun r2=>
  some (r2.1,())
 else
  some (false,())
def LZ:FSig:=⟨[(Ac,false),(Af,false)],[.bool],true,(Es 0)⟩
def Atk:Ctx:={ tk:=Ad tks,ar:=Ad ars,fs:=Ad [(54,Cv),(86,S7),(87,WP),(102,LZ),(103,Yo)] }
def EI (N:Nat) (d:Gr×List Int×Int×Unit):Option (Bool×Bool×Unit):=
 let a0:=d.1
 let a1:=d.2.1
 let a2:=d.2.2.1
 ((Es 0) ((a0,(a1,())))).bind fun r1=>
 if (!r1.1)=true then
  some ((false,(false,())))
 else
  ((Jg 0) ((a1,(a2,())))).bind fun r2=>
  if (!r2.1)=true then
   some ((false,(false,())))
  else
   (DP (a0,())).bind fun r3=>
   (Fb (a1,())).bind fun r4=>
   (Cp ((r3.1,(r4.1,(a2,()))))).bind fun r5=>
   some ((decide ((List.length r5.1:Int)>(0:Int)),(true,())))
def Aqv:FSig:=⟨[(Ac,false),(Af,false),(I,false)],[.bool,.bool],true,(EI 0)⟩
def IR:Ctx:={ tk:=Ad tks,ar:=Ad ars,fs:=Ad [(24,Aor),(34,PB),(35,Ans),(36,Anz),(37,Ame),(38,Ar2),(39,Abt),(40,Aqk),(41,Aoa),(42,An8),(43,Apu),(44,LO),(45,Aoe),(46,Aos),(47,LK),(48,Aqv)] }
def Bu (N:Nat) (d:List Int×Unit):Option (Bool×Unit):=
 let a0:=d.1
 let r1:=Ea (a0,())
 if (r1.1)=true then
  some (true,())
 else
  ((Ot 0) (a0,())).bind fun r2=>
  (CK ((r2.1,(r2.2.1,())))).bind fun r3=>
  ((RS 0) ((r2.1,(r2.2.1,())))).bind fun r4=>
  (EF (r2.1,())).bind fun r5=>
  (EF (r2.1,())).bind fun r6=>
  (G4 (r2.1,())).bind fun r7=>
  (G4 (r2.1,())).bind fun r8=>
  ((SW 0) (r2.1,())).bind fun r9=>
  ((SR 0) (r2.1,())).bind fun r10=>
  if (!(r3.1==r4.1))=true then
   some (false,())
  else
   if (!(r3.2.1==r4.2.1))=true then
    some (false,())
   else
    if (!(r5.2.1==r6.2.1))=true then
     some (false,())
    else
     (J3 ((r5.1,(r6.1,())))).bind fun r11=>
     if (!r11.1)=true then
      some (false,())
     else
      if (r7.1 != r8.1)=true then
       some (false,())
      else
       if (!(r7.2.1==r8.2.1))=true then
        some (false,())
       else
        if (!(r9.1==r10.1))=true then
         some (false,())
        else
         if (!(r9.2.1==r10.2.1))=true then
          some (false,())
         else
          if (!r9.2.1)=true then
           if (!r5.2.1)=true then
            some (!r7.2.1,())
           else
            some (false,())
          else
           ((Sm 0) (r2.1,())).bind fun r12=>
           ((O9 0) ((r2.1,((1:Int),())))).bind fun r13=>
           if (!(r9.1==r5.2.1))=true then
            some (false,())
           else
            if (!(r9.1==((List.length r12.1:Int)==(1:Int))))=true then
             some (false,())
            else
             if (!(r9.1==(decide (r7.1>(0:Int)))))=true then
              some (false,())
             else
              if (!r13.2.1)=true then
               some (false,())
              else
               if (!(r13.1==r9.1))=true then
                some (false,())
               else
                if (r3.1)=true then
                 if (!r9.1)=true then
                  some (false,())
                 else
                  if (decide (r2.1.1<=(5:Int)))=true then
                   if (decide (0<=r2.1.1))=true then
                   let x14:=IntKind.wrap .i64 (shl .i64 (1:Int) r2.1.1-(1:Int))
                   (Bg ((r2.1.1,(x14,())))).bind fun r15=>
                   (DZ ((r2.1,(r15.1,())))).bind fun r16=>
                   if (r7.1 != r16.1)=true then
                    some (false,())
                   else
                    if (r9.1)=true then
                     (CK ((r2.1,(r5.1,())))).bind fun r17=>
                     if (!r17.2.1)=true then
                      some (false,())
                     else
                      if (!r17.1)=true then
                       some (false,())
                      else
                       if (r3.1)=true then
                        if (decide ((List.length r2.2.1:Int)>(1:Int)))=true then
                         if (decide (0<=r2.1.1))=true then
                         let x18:=IntKind.wrap .i64 (shl .i64 (1:Int) r2.1.1-(1:Int))
                         (Bg ((r2.1.1,(x18,())))).bind fun r19=>
                         if (Ak (0:Int) (List.length r2.2.1))=true then
                         ((EI 0) ((r2.1,(r19.1,(at_ I r2.2.1 (0:Int).toNat,()))))).bind fun r20=>
                         if (r20.2.1)=true then
                          some (r20.1,())
                         else
                          some (false,())
                         else none
                         else none
                        else
                         some (true,())
                       else
                        some (true,())
                    else
                     if (r3.1)=true then
                      if (decide ((List.length r2.2.1:Int)>(1:Int)))=true then
                       if (decide (0<=r2.1.1))=true then
                       let x21:=IntKind.wrap .i64 (shl .i64 (1:Int) r2.1.1-(1:Int))
                       (Bg ((r2.1.1,(x21,())))).bind fun r22=>
                       if (Ak (0:Int) (List.length r2.2.1))=true then
                       ((EI 0) ((r2.1,(r22.1,(at_ I r2.2.1 (0:Int).toNat,()))))).bind fun r23=>
                       if (r23.2.1)=true then
                        some (r23.1,())
                       else
                        some (false,())
                       else none
                       else none
                      else
                       some (true,())
                     else
                      some (true,())
                   else none
                  else
                   if (r9.1)=true then
                    (CK ((r2.1,(r5.1,())))).bind fun r24=>
                    if (!r24.2.1)=true then
                     some (false,())
                    else
                     if (!r24.1)=true then
                      some (false,())
                     else
                      if (r3.1)=true then
                       if (decide ((List.length r2.2.1:Int)>(1:Int)))=true then
                        if (decide (0<=r2.1.1))=true then
                        let x25:=IntKind.wrap .i64 (shl .i64 (1:Int) r2.1.1-(1:Int))
                        (Bg ((r2.1.1,(x25,())))).bind fun r26=>
                        if (Ak (0:Int) (List.length r2.2.1))=true then
                        ((EI 0) ((r2.1,(r26.1,(at_ I r2.2.1 (0:Int).toNat,()))))).bind fun r27=>
                        if (r27.2.1)=true then
                         some (r27.1,())
                        else
                         some (false,())
                        else none
                        else none
                       else
                        some (true,())
                      else
                       some (true,())
                   else
                    if (r3.1)=true then
                     if (decide ((List.length r2.2.1:Int)>(1:Int)))=true then
                      if (decide (0<=r2.1.1))=true then
                      let x28:=IntKind.wrap .i64 (shl .i64 (1:Int) r2.1.1-(1:Int))
                      (Bg ((r2.1.1,(x28,())))).bind fun r29=>
                      if (Ak (0:Int) (List.length r2.2.1))=true then
                      ((EI 0) ((r2.1,(r29.1,(at_ I r2.2.1 (0:Int).toNat,()))))).bind fun r30=>
                      if (r30.2.1)=true then
                       some (r30.1,())
                      else
                       some (false,())
                      else none
                      else none
                     else
                      some (true,())
                    else
                     some (true,())
                else
                 if (decide (r2.1.1<=(5:Int)))=true then
                  if (decide (0<=r2.1.1))=true then
                  let x31:=IntKind.wrap .i64 (shl .i64 (1:Int) r2.1.1-(1:Int))
                  (Bg ((r2.1.1,(x31,())))).bind fun r32=>
                  (DZ ((r2.1,(r32.1,())))).bind fun r33=>
                  if (r7.1 != r33.1)=true then
                   some (false,())
                  else
                   if (r9.1)=true then
                    (CK ((r2.1,(r5.1,())))).bind fun r34=>
                    if (!r34.2.1)=true then
                     some (false,())
                    else
                     if (!r34.1)=true then
                      some (false,())
                     else
                      if (r3.1)=true then
                       if (decide ((List.length r2.2.1:Int)>(1:Int)))=true then
                        if (decide (0<=r2.1.1))=true then
                        let x35:=IntKind.wrap .i64 (shl .i64 (1:Int) r2.1.1-(1:Int))
                        (Bg ((r2.1.1,(x35,())))).bind fun r36=>
                        if (Ak (0:Int) (List.length r2.2.1))=true then
                        ((EI 0) ((r2.1,(r36.1,(at_ I r2.2.1 (0:Int).toNat,()))))).bind fun r37=>
                        if (r37.2.1)=true then
                         some (r37.1,())
                        else
                         some (false,())
                        else none
                        else none
                       else
                        some (true,())
                      else
                       some (true,())
                   else
                    if (r3.1)=true then
                     if (decide ((List.length r2.2.1:Int)>(1:Int)))=true then
                      if (decide (0<=r2.1.1))=true then
                      let x38:=IntKind.wrap .i64 (shl .i64 (1:Int) r2.1.1-(1:Int))
                      (Bg ((r2.1.1,(x38,())))).bind fun r39=>
                      if (Ak (0:Int) (List.length r2.2.1))=true then
                      ((EI 0) ((r2.1,(r39.1,(at_ I r2.2.1 (0:Int).toNat,()))))).bind fun r40=>
                      if (r40.2.1)=true then
                       some (r40.1,())
                      else
                       some (false,())
                      else none
                      else none
                     else
                      some (true,())
                    else
                     some (true,())
                  else none
                 else
                  if (r9.1)=true then
                   (CK ((r2.1,(r5.1,())))).bind fun r41=>
                   if (!r41.2.1)=true then
                    some (false,())
                   else
                    if (!r41.1)=true then
                     some (false,())
                    else
                     if (r3.1)=true then
                      if (decide ((List.length r2.2.1:Int)>(1:Int)))=true then
                       if (decide (0<=r2.1.1))=true then
                       let x42:=IntKind.wrap .i64 (shl .i64 (1:Int) r2.1.1-(1:Int))
                       (Bg ((r2.1.1,(x42,())))).bind fun r43=>
                       if (Ak (0:Int) (List.length r2.2.1))=true then
                       ((EI 0) ((r2.1,(r43.1,(at_ I r2.2.1 (0:Int).toNat,()))))).bind fun r44=>
                       if (r44.2.1)=true then
                        some (r44.1,())
                       else
                        some (false,())
                       else none
                       else none
                      else
                       some (true,())
                     else
                      some (true,())
                  else
                   if (r3.1)=true then
                    if (decide ((List.length r2.2.1:Int)>(1:Int)))=true then
                     if (decide (0<=r2.1.1))=true then
                     let x45:=IntKind.wrap .i64 (shl .i64 (1:Int) r2.1.1-(1:Int))
                     (Bg ((r2.1.1,(x45,())))).bind fun r46=>
                     if (Ak (0:Int) (List.length r2.2.1))=true then
                     ((EI 0) ((r2.1,(r46.1,(at_ I r2.2.1 (0:Int).toNat,()))))).bind fun r47=>
                     if (r47.2.1)=true then
                      some (r47.1,())
                     else
                      some (false,())
                     else none
                     else none
                    else
                     some (true,())
                   else
                    some (true,())
def I7:FSig:=⟨[(K_Su8,false)],[.bool],true,(Xs)⟩
theorem RN {m:Nat} (h:m<9223372036854775808):IntKind.wrap .i64 (m:Int)=(m:Int):=Go.IntWalk.i64_in _ (by omega)
theorem F6 (m:Nat):BitVec.ofInt 64 (m:Int)=BitVec.ofNat 64 m:=by simp
theorem QL {a b:Nat} (ha:a<256) (hb:b<256):bits .or .i64 (a:Int) (b:Int)=((a|||b:Nat):Int):=by
 have hab:a|||b<256:=Nat.or_lt_two_pow (n:=8) ha hb
 have e:(BitVec.ofInt IntKind.i64.bits (a:Int)|||BitVec.ofInt IntKind.i64.bits (b:Int)).toNat=a|||b:=by
  show (BitVec.ofInt 64 (a:Int)|||BitVec.ofInt 64 (b:Int)).toNat=a|||b
  rw [F6,F6,BitVec.toNat_or,BitVec.toNat_ofNat,BitVec.toNat_ofNat,Nat.mod_eq_of_lt (by omega),Nat.mod_eq_of_lt (by omega)]
 unfold bits Ww
 simp only [Option.getD_some]
 rw [e]
 exact RN (by omega)
theorem XW {a b:Nat} (ha:a<256) (hb:b<256):bits .and .i64 (a:Int) (b:Int)=((a&&&b:Nat):Int):=by
 have hab:a&&&b<=a:=Nat.and_le_left
 have e:(BitVec.ofInt IntKind.i64.bits (a:Int)&&&BitVec.ofInt IntKind.i64.bits (b:Int)).toNat=a&&&b:=by
  show (BitVec.ofInt 64 (a:Int)&&&BitVec.ofInt 64 (b:Int)).toNat=a&&&b
  rw [F6,F6,BitVec.toNat_and,BitVec.toNat_ofNat,BitVec.toNat_ofNat,Nat.mod_eq_of_lt (by omega),Nat.mod_eq_of_lt (by omega)]
 unfold bits Ww
 simp only [Option.getD_some]
 rw [e]
 exact RN (by omega)
theorem GO {y:Nat} (h:y<8):shl .i64 1 (y:Int)=((2 ^ y:Nat):Int):=by
 have:y=0\/y=1\/y=2\/y=3\/y=4\/y=5\/y=6\/y=7:=by omega
 rcases this with rfl | rfl | rfl | rfl | rfl | rfl | rfl | rfl<;>decide
theorem CL {y:Nat} (h:y<8):2 ^ y<256:=by
 have:y=0\/y=1\/y=2\/y=3\/y=4\/y=5\/y=6\/y=7:=by omega
 rcases this with rfl | rfl | rfl | rfl | rfl | rfl | rfl | rfl<;>decide
theorem VC {m y:Nat} (h:y<8):shr .i64 (m:Int) (y:Int)=((m>>>y:Nat):Int):=by
 unfold shr
 have e:min (y:Int).toNat IntKind.i64.bits=y:=by
  show min (y:Int).toNat 64=y
  rw [Int.toNat_natCast]
  omega
 rw [e,Nat.shiftRight_eq_div_pow,Int.fdiv_eq_ediv_of_nonneg _ (by
  have:=Nat.two_pow_pos y
  exact_mod_cast Nat.zero_le (2 ^ y))]
 norm_cast
theorem U1 {m y:Nat} (hm:m<256) (h:y<8):(bits .and .i64 (shr .i64 (m:Int) (y:Int)) 1==(1:Int))=m.testBit y:=by
 have h1:m>>>y<256:=by
  rw [Nat.shiftRight_eq_div_pow]
  exact Nat.lt_of_le_of_lt (Nat.div_le_self _ _) hm
 rw [VC h]
 have:=XW h1 (show 1<256 by omega)
 rw [show ((1:Nat):Int)=1 from rfl] at this
 rw [this,Nat.testBit_eq_decide_div_mod_eq,Nat.shiftRight_eq_div_pow,Nat.and_one_is_mod]
 have:m / 2 ^ y % 2=0\/m / 2 ^ y % 2=1:=by omega
 rcases this with h | h<;>simp [h]
def okN (n:Nat) (ms:List Nat):Prop:=ms.length=n /\ ∀x,ms.getD x 0<256
theorem Rz (n:Nat):okN n (List.replicate n 0):=by
 refine ⟨by simp,fun x => ?_⟩
 simp only [ACy,List.getElem?_replicate]
 split<;>simp
theorem Gp (ms:List Nat) (a x v:Nat) (h:a<ms.length):(ms.set a v).getD x 0=if x=a then v else ms.getD x 0:=by
 simp only [ACy,List.getElem?_set]
 by_cases e:x=a
 ·subst e;simp [h]
 ·simp [e,Ne.symm e]
theorem WQ {n:Nat} {ms:List Nat} (h:okN n ms) {a b:Nat} (ha:a<n) (hb:b<8):okN n (orN ms a b):=by
 refine ⟨by simp [orN,h.1],fun x => ?_⟩
 unfold orN
 rw [Gp _ _ _ _ (by rw [h.1];exact ha)]
 split
 ·exact Nat.or_lt_two_pow (n:=8) (h.2 a) (CL hb)
 ·exact h.2 x
theorem Ady {n:Nat} {ms:List Nat} (h:okN n ms) {a b:Nat} (ha:a<n) (x y:Nat):((orN ms a b).getD x 0).testBit y=((ms.getD x 0).testBit y||(decide (x=a)&&decide (y=b))):=by
 unfold orN
 rw [Gp _ _ _ _ (by rw [h.1];exact ha)]
 by_cases e:x=a
 ·subst e
  simp only [if_true,Nat.testBit_or,Nat.testBit_two_pow,decide_true,Bool.true_and]
  congr 1
  by_cases e:y=b
  ·simp [e]
  ·simp [e,Ne.symm e]
 ·simp [e]
theorem F7 {n:Nat} {e:E} (h:BI (n:Int) e=true):e.1.toNat<e.2.1.toNat/\e.2.1.toNat<n/\e.1=(e.1.toNat:Int)/\e.2.1=(e.2.1.toNat:Int):=by
 unfold BI at h
 simp only [ACo,decide_eq_true_eq] at h
 omega
theorem Aeo {n:Nat} {ms:List Nat} (hn:n<=8) (h:okN n ms) {e:E} (he:BI (n:Int) e=true):okN n (WR ms e):=by
 obtain ⟨h1,h2,_,_⟩:=F7 he
 exact WQ (WQ h (by omega) (by omega)) h2 (by omega)
def isE (e:E) (x y:Nat):Bool:=(decide (x=e.1.toNat)&&decide (y=e.2.1.toNat))||(decide (x=e.2.1.toNat)&&decide (y=e.1.toNat))
theorem YD {n:Nat} (hn:n<=8):∀(es:List E) (ms:List Nat),okN n ms->es.all (BI (n:Int))=true->okN n (es.foldl WR ms) /\ ∀x y,((es.foldl WR ms).getD x 0).testBit y=((ms.getD x 0).testBit y||es.any (fun e=>isE e x y)):=by
 intro es
 induction es with
 | nil=>intro ms h _;exact ⟨h,fun x y=>by simp⟩
 | cons e es ih=>
  intro ms h he
  simp only [List.all_cons,ACo] at he
  obtain ⟨h1,h2,_,_⟩:=F7 he.1
  obtain ⟨k1,k2⟩:=ih (WR ms e) (Aeo hn h he.1) he.2
  refine ⟨k1,fun x y => ?_⟩
  rw [List.foldl_cons,k2 x y]
  unfold WR
  rw [Ady (WQ h (show e.1.toNat<n by omega) (by omega)) h2,Ady h (show e.1.toNat<n by omega)]
  simp only [List.any_cons,isE,Bool.or_assoc]
theorem Ae7 {n:Nat} (hn:n<=8) {es:List E} (h:es.all (BI (n:Int))=true):okN n (Dn n es):=(YD hn es _ (Rz n) h).1
theorem R8 {n:Nat} (hn:n<=8) {es:List E} (h:es.all (BI (n:Int))=true) (x y:Nat):Agd (Dn n es) x y=es.any (fun e=>isE e x y):=by
 unfold Agd Dn
 rw [(YD hn es _ (Rz n) h).2 x y]
 have:((List.replicate n 0).getD x 0).testBit y=false:=by
  simp only [ACy,List.getElem?_replicate]
  split<;>simp
 rw [this,Bool.false_or]
theorem Ams (ms:List Nat):Ca (toI ms)=ms:=by
 unfold Ca toI
 rw [List.map_map]
 exact List.map_id' _
theorem Arz (ms:List Nat) (x:Nat):at_ (.int .i64) (toI ms) x=((ms.getD x 0:Nat):Int):=by
 unfold at_ toI
 simp only [ACy,List.getElem?_map]
 cases ms[x]?<;>rfl
theorem Adt (ms:List Nat) (x v:Nat):List.set (toI ms) x (v:Int)=toI (ms.set x v):=by
 simp [toI,List.map_set]
theorem Vm (ms:List Nat):(toI ms).length=ms.length:=by simp [toI]
end Go.V.W
namespace Go.V
/-- Every order is good if each operation, when it may come up, keeps what is held of the listed ones. -/
theorem Ag4 {P:Program} {Q:Exit->Act->World->Prop} {ops:Array Oper} {Φ:(Nat->Bool)->Act->World->Prop} (back:∀(i:Nat) o,ops[i]? = some o -> ∀e∈o.after,Region.binds .any e=true->e.on<i)
    (hdone:∀L a w,(∀i,i<ops.size->L i=true)->Φ L a w->Q .normal a w)
    (hstep:∀L a w j o,ops[j]? = some o->L j=false->JP ops L->(∀e∈o.after,Region.binds .any e=true->L e.on=true)->Φ L a w->o.guard=none /\ ∀K:Act->World->Prop,(∀a' w',Φ (fun i=>L i||decide (i=j)) a' w'->K a' w')->o.wp P a w K Q) :
    ∀(fuel:Nat) (listed:Array Bool) (a:Act) (w:World),listed.size=ops.size->listed.toList.count false=fuel->JP ops (fun i=>listed.getD i false)->Φ (fun i=>listed.getD i false) a w->wpAny P .any ops Q fuel listed a w:=by
  have hready:∀(listed:Array Bool),listed.size=ops.size->Region.ready .any ops listed=[] -> ∀i,i<ops.size->listed.getD i false=true:=by
    intro listed hsz hr
    have key:∀m i,i<m->i<ops.size->listed.getD i false=true:=by
      intro m
      induction m with
      | zero=>intro i hi;omega
      | succ m ih=>
        intro i hi hlt
        by_cases him:i<m
        · exact ih i him hlt
        · cases hl:listed.getD i false with
          | true=>rfl
          | false=>
            exfalso
            have ho':ops[i]? = some ops[i]:=by simp [hlt]
            have:i∈Region.ready .any ops listed:=by
              rw [mem_ready]
              have hl2:i<listed.size:=by omega
              refine ⟨?_,_,ho',fun e he hb=>ih e.on ?_ ?_⟩
              · simp only [Array.getD,hl2,dif_pos] at hl |-;exact hl
              · have:=back i _ ho' e he hb;omega
              · have:=back i _ ho' e he hb;omega
            rw [hr] at this
            simp at this
    exact fun i hi=>key (i+1) i (by omega) hi
  intro fuel
  induction fuel with
  | zero=>
    intro listed a w hsz hc hL hi
    have hall:∀i,i<ops.size->listed.getD i false=true:=by
      intro i hlt
      have hlt':i<listed.size:=by omega
      rw [List.count_eq_zero] at hc
      cases hb:listed.getD i false with
      | true=>rfl
      | false=>
        exfalso
        apply hc
        simp only [Array.getD,hlt',dif_pos] at hb
        rw [<- hb]
        exact Array.getElem_mem_toList hlt'
    refine ⟨?_,hdone _ a w hall hi⟩
    apply List.eq_nil_iff_forall_not_mem.2
    intro i hm
    rw [mem_ready] at hm
    obtain ⟨h1,o,h2,_⟩:=hm
    have hlt:=(Array.getElem?_eq_some_iff.1 h2).1
    have:=hall i hlt
    have hlt':i<listed.size:=by omega
    simp only [Array.getD,hlt',dif_pos] at h1 this
    rw [this] at h1
    cases h1
  | succ fuel ih=>
    intro listed a w hsz hc hL hi
    refine ⟨fun hr=>hdone _ a w (hready listed hsz hr) hi,fun j hj => ?_⟩
    rw [mem_ready] at hj
    obtain ⟨h1,o,ho,hr⟩:=hj
    have hlt:=(Array.getElem?_eq_some_iff.1 ho).1
    have hlt':j<listed.size:=by omega
    have hjf:listed.getD j false=false:=by simp only [Array.getD,hlt',dif_pos] at h1 |-;exact h1
    obtain ⟨hg,hs⟩:=hstep _ a w j o ho hjf hL hr hi
    unfold wpOp
    rw [ho]
    simp only [Region.wanted,hg,if_true]
    refine .inl (hs _ fun a' w' hi'=>ih (listed.setIfInBounds j true) a' w' (by simpa using hsz) ?_ ?_ ?_)
    · have hlj:listed[j]=false:=by simp only [Array.getD,hlt',dif_pos] at hjf;exact hjf
      rw [Array.toList_setIfInBounds,List.count_set (by simpa using hlt')]
      simp [hlj,hc]
    · intro i o' ho' hli e he hb
      simp only [Gp hlt',Bool.or_eq_true,decide_eq_true_eq] at hli |-
      rcases hli with hli | hli
      · exact .inl (hL i o' ho' hli e he hb)
      · subst hli
        rw [ho] at ho'
        injection ho' with ho'
        subst ho'
        exact .inl (hr e he hb)
    · have e:(fun i=>(listed.setIfInBounds j true).getD i false)=fun i=>listed.getD i false||decide (i=j):=by
        funext i
        exact Gp hlt'
      rw [e]
      exact hi'
theorem Xh {P:Program} {Q:Exit->Act->World->Prop} {ops:Array Oper} {rid:Nat} {a:Act} {w:World} (Φ:(Nat->Bool)->Act->World->Prop) (hm:P.follows .mixedOrders=true) (back:∀(i:Nat) o,ops[i]? = some o -> ∀e∈o.after,Region.binds .any e=true->e.on<i)
    (hdone:∀L a w,(∀i,i<ops.size->L i=true)->Φ L a w->Q .normal a w)
    (hstep:∀L a w j o,ops[j]? = some o->L j=false->JP ops L->(∀e∈o.after,Region.binds .any e=true->L e.on=true)->Φ L a w->o.guard=none /\ ∀K:Act->World->Prop,(∀a' w',Φ (fun i=>L i||decide (i=j)) a' w'->K a' w')->o.wp P a w K Q)
    (h0:Φ (fun _=>false) a { w with drawn:=w.drawn+1 }):(Code.region rid ops true).wp P Q a w:=by
  refine wp_region_any hm ?_
  have e2:(fun i=>(Array.replicate ops.size false).getD i false)=fun _=>false:=by
    funext i
    simp only [Array.getD_eq_getD_getElem?]
    by_cases hj:i<ops.size
    · simp [hj]
    · simp [hj]
  refine Ag4 back hdone hstep ops.size _ a _ (by simp) (by simp) (fun j o ho hl => ?_) (by rw [e2];exact h0)
  rw [e2] at hl
  cases hl
end Go.V
namespace Go.V.W
open Go.Proofs Go.RowKit
def Pz (id:Nat):Code->Option (Array Oper)
  | .region i ops _=>if i=id then some ops else none
  | .seq a b=>(Pz id a).or (Pz id b)
  | .cond _ a b=>(Pz id a).or (Pz id b)
  | .block _ c=>Pz id c
  | .loop c=>Pz id c
  | .scope c=>Pz id c
  | _=>none
def Lp:Array Oper:=(Pz 9 (Ao Tryz.f124)).getD #[]
def dof (j:Nat):Option (Option Tmp×Op×Option (Nat×Bool)):=(Lp[j]?).map fun o=>(o.dst,o.op,o.guard)
theorem ACf:dof 0=some (some 38,.move (.tmp 8),none):=by kernel_rfl
theorem ACh:dof 1=some (some 39,.move (.tmp 7),none):=by kernel_rfl
theorem AB2:dof 2=some (some 40,.move (.tmp 8),none):=by kernel_rfl
theorem AB0:dof 3=some (some 41,.slice 45 (.tmp 39) (some (.tmp 40)) none none,none):=by kernel_rfl
theorem AB6:dof 4=some (some 42,.move (.tmp 7),none):=by kernel_rfl
theorem ACi:dof 5=some (some 43,.move (.tmp 8),none):=by kernel_rfl
theorem ACe:dof 6=some (some 44,.slice 45 (.tmp 42) none (some (.tmp 43)) none,none):=by kernel_rfl
theorem AB5:dof 7=some (some 45,.call { callee:=.builtin .copy,args := #[.tmp 41,.tmp 44],argTypes := #[45,45] },none):=by kernel_rfl
theorem ACj:dof 8=some (some 46,.binOp .add 3 (.tmp 38) (.tmp 45) 3,none):=by kernel_rfl
theorem AB9:dof 9=some (some 8,.assign (.tmp 46),none):=by kernel_rfl
theorem Aen:Lp.size=10:=by kernel_rfl
def Awh (ops:Array Oper):Bool:=(List.range ops.size).all fun i=>((ops[i]?).map fun o=>o.after.toList.all fun e => !Region.binds .any e||decide (e.on<i)).getD true
theorem Ax8:Awh Lp=true:=by kernel_rfl
theorem AA9:∀(i:Nat) o,Lp[i]? = some o -> ∀e∈o.after,Region.binds .any e=true->e.on<i:=by
  intro i o ho e he hb
  have h:=Ax8
  unfold Awh at h
  rw [List.all_eq_true] at h
  have hi:=(Array.getElem?_eq_some_iff.1 ho).1
  have h1:=h i (List.mem_range.2 hi)
  rw [ho] at h1
  simp only [Option.map_some,Option.getD_some,List.all_eq_true] at h1
  have h2:=h1 e (Array.mem_toList_iff.2 he)
  rw [hb] at h2
  simpa using h2
def As2 (i j:Nat):Bool:=((Lp[i]?).map fun o=>o.after.toList.any fun e=>Region.binds .any e&&e.on==j).getD false
theorem Aep {i j:Nat} (h:As2 i j=true) {o:Oper} (ho:Lp[i]? = some o):∃e∈o.after,Region.binds .any e=true/\e.on=j:=by
  unfold As2 at h
  rw [ho] at h
  simp only [Option.map_some,Option.getD_some,List.any_eq_true,ACo,beq_iff_eq] at h
  obtain ⟨e,he,h1,h2⟩:=h
  exact ⟨e,Array.mem_toList_iff.1 he,h1,h2⟩
theorem YM {L:Nat->Bool} (hL:JP Lp L) {i j:Nat} (h:As2 i j=true) (hi:i<10) (h1:L i=true):L j=true:=by
  have hs:=Aen
  have hlt:i<Lp.size:=by omega
  have ho:Lp[i]? = some Lp[i]:=Array.getElem?_eq_getElem hlt
  obtain ⟨e,he,hb,rfl⟩:=Aep h ho
  exact hL i _ ho h1 e he hb
theorem rdy {L:Nat->Bool} {i j:Nat} {o:Oper} (h:As2 i j=true) (ho:Lp[i]? = some o) (hr:∀e∈o.after,Region.binds .any e=true->L e.on=true):L j=true:=by
  obtain ⟨e,he,hb,rfl⟩:=Aep h ho
  exact hr e he hb
def val (a0 F:Nat->Value) (L:Nat->Bool) (t:Nat):Value:=if t=8 then (if L 9=true then F 9 else a0 8) else if 38<=t/\t<=46 then (if L (t-38)=true then F (t-38) else a0 t) else a0 t
def Amx (j:Nat):Nat:=if j=9 then 8 else 38+j
theorem Aq9 (a0 F:Nat->Value) (L:Nat->Bool) {j:Nat} (hj:j<=9) (t:Nat):(if t=Amx j then F j else val a0 F L t)=val a0 F (fun i=>L i||decide (i=j)) t:=by
  unfold val Amx
  by_cases e9:j=9
  · subst e9
    simp only [if_true]
    by_cases et:t=8
    · simp [et]
    · simp only [et,if_false]
      by_cases er:38<=t/\t<=46
      · have:¬t-38=9:=by omega
        simp [er,this]
      · simp [er]
  · simp only [e9,if_false]
    by_cases et:t=8
    · subst et
      have h1:¬8=38+j:=by omega
      have h2:¬(9=j):=fun h=>e9 h.symm
      simp [h1,h2]
    · simp only [et,if_false]
      by_cases er:38<=t/\t<=46
      · simp only [er,and_self,if_true]
        by_cases ej:t=38+j
        · subst ej
          simp
        · have:¬t-38=j:=by omega
          simp [ej,this]
      · have:¬t=38+j:=by omega
        simp [er,this]
def Lz (n m:Nat) (x z:Value):List Value:=List.replicate m x++List.replicate (n-m) z
theorem WW {n m c:Nat} {x z:Value} (h:m+c<=n):(Lz n m x z).take m++List.replicate c x++(Lz n m x z).drop (m+c)=Lz n (m+c) x z:=by
  unfold Lz
  have e1:(List.replicate m x++List.replicate (n-m) z).take m=List.replicate m x:=by simp
  have e2:(List.replicate m x++List.replicate (n-m) z).drop (m+c)=List.replicate (n-(m+c)) z:=by
    rw [List.drop_append]
    simp
    omega
  rw [e1,e2,<- List.replicate_append_replicate]
theorem Atz {w:World} {g:Nat} {L:List Value} {T:TypeId} (h:w.heap[g]? = some (.cells L.toArray T (0,0))):∀j v,L[j]? = some v->w.cell? ((⟨g,0,none⟩:Addr).add j)=some v:=by
  intro j v hj
  by_cases e:j=0
  · subst e
    simp [World.cell?,Addr.add,h,hj]
  · simp [World.cell?,Addr.add,h,hj,e]
theorem DF (a:Act) (t:Nat):a.eval (.tmp t)=a.tmps.getD t undef:=rfl
theorem Aro {a:Act} {d t:Nat} {v:Value} (hd:d<a.tmps.size):(a.put (some d) v).tmps.getD t undef=if t=d then v else a.tmps.getD t undef:=by
  unfold Act.put
  by_cases e:t=d
  · subst e
    simp [Array.getD_eq_getD_getElem?,hd]
  · have e':d≠t:=fun h=>e h.symm
    simp [Array.getD_eq_getD_getElem?,Array.getElem?_setIfInBounds_ne e',e]
/-- What is held of the listed operations. -/
structure Phi (a0 F:Nat->Value) (df:List Deferred) (sz g n m c B:Nat) (x z:Value) (T:TypeId) (w0:World) (L:Nat->Bool) (a:Act) (w:World):Prop where
  size:a.tmps.size=sz
  defers:a.defers=df
  tmps:∀t,a.tmps.getD t undef=val a0 F L t
  row:w.heap[g]? = some (.cells (Lz n (if L 7=true then m+c else m) x z).toArray T (0,0))
  below:Below B w0 w
theorem G3 {j:Nat} {d:Option Tmp} {p:Op} {gd:Option (Nat×Bool)} (h:dof j=some (d,p,gd)) {o:Oper} (ho:Lp[j]? = some o):o.dst=d/\o.op=p/\o.guard=gd:=by
  unfold dof at h
  rw [ho] at h
  simp only [Option.map_some,ACp,Prod.mk.injEq] at h
  exact h
theorem Phi.fin {P:Program} {Q:Exit->Act->World->Prop} {a0 F:Nat->Value} {df:List Deferred} {g n m c B:Nat} {x z:Value} {T:TypeId} {w0 w w':World} {L:Nat->Bool} {a:Act} (h:Phi a0 F df 48 g n m c B x z T w0 L a w) {j:Nat} (hj:j<=9) {o:Oper} (hd:o.dst=some (Amx j))
    (hrun:(execOp a.eval o).run P w=.ok (.value (F j)) w') (hrow:w'.heap[g]? = some (.cells (Lz n (if (L 7||decide (7=j))=true then m+c else m) x z).toArray T (0,0))) (hB:Below B w0 w')
    (K:Act->World->Prop) (hK:∀a' w',Phi a0 F df 48 g n m c B x z T w0 (fun i=>L i||decide (i=j)) a' w'->K a' w'):o.wp P a w K Q:=by
  refine Jq hrun (hK _ _ ⟨?_,?_,fun t => ?_,hrow,hB⟩)
  · rw [hd]
    simp [Act.put,h.size]
  · rw [hd]
    exact h.defers
  · rw [hd,Aro (by rw [h.size];unfold Amx;split<;>omega),h.tmps t]
    exact Aq9 a0 F L hj t
theorem Phi.fin0 {P:Program} {Q:Exit->Act->World->Prop} {a0 F:Nat->Value} {df:List Deferred} {g n m c B:Nat} {x z:Value} {T:TypeId} {w0 w:World} {L:Nat->Bool} {a:Act} (h:Phi a0 F df 48 g n m c B x z T w0 L a w) {j:Nat} (hj:j<=9) (hj7:7≠j) {o:Oper} (hd:o.dst=some (Amx j))
    (hrun:(execOp a.eval o).run P w=.ok (.value (F j)) w)
    (K:Act->World->Prop) (hK:∀a' w',Phi a0 F df 48 g n m c B x z T w0 (fun i=>L i||decide (i=j)) a' w'->K a' w'):o.wp P a w K Q:=by
  refine h.fin hj hd hrun ?_ h.below K hK
  have:(L 7||decide (7=j))=L 7:=by simp [hj7]
  rw [this]
  exact h.row
def Fv (g n m c:Nat):Nat->Value
  | 0=>.int .i64 (m:Int)
  | 1=>.slice (some ⟨g,0,none⟩) n n
  | 2=>.int .i64 (m:Int)
  | 3=>.slice (some ⟨g,m,none⟩) (n-m) (n-m)
  | 4=>.slice (some ⟨g,0,none⟩) n n
  | 5=>.int .i64 (m:Int)
  | 6=>.slice (some ⟨g,0,none⟩) m n
  | 7=>.int .i64 (c:Int)
  | 8=>.int .i64 ((m+c:Nat):Int)
  | _=>.int .i64 ((m+c:Nat):Int)
theorem Aw5 {a0 F:Nat->Value} {L:Nat->Bool} (h:L 9=false):val a0 F L 8=a0 8:=by simp [val,h]
theorem AAi {a0 F:Nat->Value} {L:Nat->Bool}:val a0 F L 7=a0 7:=by simp [val]
theorem V5 {a0 F:Nat->Value} {L:Nat->Bool} {j:Nat} (hj:j<=8) (h:L j=true):val a0 F L (38+j)=F j:=by
  unfold val
  have h1:¬38+j=8:=by omega
  have h2:38<=38+j/\38+j<=46:=by omega
  have h3:38+j-38=j:=by omega
  simp only [h1,if_false,h2,and_self,if_true,h3,h]
theorem sz3:(Tryz.prog.info? 3).map (·.size)=some 1:=by kernel_rfl
theorem Aok:Tryz.prog.elem 45=3:=by kernel_rfl
theorem Ae1:Tryz.prog.underlying 45=some (.slice (Tryz.prog.elem 45)):=by kernel_rfl
theorem Aoy {n m g:Nat} (w:World) (hmn:m<n):(Instr.sliceAt 45 (.slice (some ⟨g,0,none⟩) n n) (some (.int .i64 (m:Int))) none none).run Tryz.prog w=.ok (.slice (some ⟨g,m,none⟩) (n-m) (n-m)) w:=by
  have hs:=Tryz.sizeOf3 w
  have hne:¬n=m:=by omega
  rw [run_sliceAt_slice w 45 _ _ _ _ Ae1,run_slice_l w 45 _ n n Ae1 .i64 (m:Int) (by omega) (by omega),Aok,hs]
  simp only [Result.andThen,sliced,Int.toNat_natCast,hne,if_false,Option.map_some,Addr.add,Nat.mul_one,Nat.zero_add]
  by_cases h0:m=0
  · subst h0
    simp
  · simp [h0]
theorem Ap7 {n m g:Nat} (w:World) (hmn:m<n):(Instr.sliceAt 45 (.slice (some ⟨g,0,none⟩) n n) none (some (.int .i64 (m:Int))) none).run Tryz.prog w=.ok (.slice (some ⟨g,0,none⟩) m n) w:=by
  have hs:=Tryz.sizeOf3 w
  have hne:¬n=0:=by omega
  rw [run_sliceAt_slice w 45 _ _ _ _ Ae1,run_slice_h w 45 _ n n Ae1 .i64 (m:Int) (by omega) (by omega),Aok,hs]
  simp [Result.andThen,sliced,Addr.add]
theorem ACc {Q:Exit->Act->World->Prop} {rid:Nat} {a:Act} {w w0:World} {g n m c B:Nat} {xi zi:Int} {T:TypeId} {a0:Nat->Value} (hsz:a.tmps.size=48) (ha0:∀t,a.tmps.getD t undef=a0 t) (h7:a0 7=.slice (some ⟨g,0,none⟩) n n) (h8:a0 8=.int .i64 (m:Int))
    (hm:1<=m) (hmn:m<n) (hn:n<=8) (hc:c=min m (n-m)) (hg:w.heap[g]? = some (.cells (Lz n m (.int .i64 xi) (.int .i64 zi)).toArray T (0,0))) (hB:Below B w0 w) (hBg:B<=g)
    (hQ:∀a' w',Phi a0 (Fv g n m c) a.defers 48 g n m c B (.int .i64 xi) (.int .i64 zi) T w0 (fun _=>true) a' w'->Q .normal a' w'):(Code.region rid Lp true).wp Tryz.prog Q a w:=by
  have h0:Phi a0 (Fv g n m c) a.defers 48 g n m c B (.int .i64 xi) (.int .i64 zi) T w0 (fun _=>false) a { w with drawn:=w.drawn+1 }:=
    ⟨hsz,rfl,fun t=>by rw [ha0 t];unfold val;by_cases e:t=8<;>simp [e],hg,⟨hB.os,hB.tape,hB.output,hB.size,hB.block⟩⟩
  refine Xh (Phi a0 (Fv g n m c) a.defers 48 g n m c B (.int .i64 xi) (.int .i64 zi) T w0) (by kernel_rfl) AA9 (fun L a' w' hL h => ?_) (fun L a1 w1 j o ho hj hL hr h => ?_) h0
  · refine hQ a' w' ⟨h.size,h.defers,fun t => ?_,?_,h.below⟩
    · rw [h.tmps t]
      unfold val
      have:=Aen
      have e9:L 9=true:=hL 9 (by omega)
      by_cases et:t=8
      · simp [et,e9]
      · by_cases er:38<=t/\t<=46
        · have:L (t-38)=true:=hL _ (by omega)
          simp [et,er,this]
        · simp [et,er]
    · have e7:L 7=true:=hL 7 (by have:=Aen;omega)
      have:=h.row
      rw [e7] at this
      exact this
  · have hj10:j<10:=by
      have:=(Array.getElem?_eq_some_iff.1 ho).1
      have:=Aen
      omega
    have l98:L 9=true->L 8=true:=YM hL (by kernel_rfl) (by omega)
    have l80:L 8=true->L 0=true:=YM hL (by kernel_rfl) (by omega)
    have l87:L 8=true->L 7=true:=YM hL (by kernel_rfl) (by omega)
    have l73:L 7=true->L 3=true:=YM hL (by kernel_rfl) (by omega)
    have l76:L 7=true->L 6=true:=YM hL (by kernel_rfl) (by omega)
    have l32:L 3=true->L 2=true:=YM hL (by kernel_rfl) (by omega)
    have l65:L 6=true->L 5=true:=YM hL (by kernel_rfl) (by omega)
    have no9:(j=0\/j=2\/j=5)->L 9=false:=by
      intro hh
      cases h9:L 9 with
      | false=>rfl
      | true=>
        have e8:=l98 h9
        have e7:=l87 e8
        rcases hh with rfl | rfl | rfl
        · rw [l80 e8] at hj;cases hj
        · rw [l32 (l73 e7)] at hj;cases hj
        · rw [l65 (l76 e7)] at hj;cases hj
    have hcases:j=0\/j=1\/j=2\/j=3\/j=4\/j=5\/j=6\/j=7\/j=8\/j=9:=by omega
    rcases hcases with rfl | rfl | rfl | rfl | rfl | rfl | rfl | rfl | rfl | rfl
    · obtain ⟨d1,d2,d3⟩:=G3 ACf ho
      refine ⟨d3,h.fin0 (by omega) (by omega) d1 ?_⟩
      unfold execOp
      rw [d2]
      simp [DF,h.tmps,Aw5 (no9 (by omega)),h8,Fv]
    · obtain ⟨d1,d2,d3⟩:=G3 ACh ho
      refine ⟨d3,h.fin0 (by omega) (by omega) d1 ?_⟩
      unfold execOp
      rw [d2]
      simp [DF,h.tmps,AAi,h7,Fv]
    · obtain ⟨d1,d2,d3⟩:=G3 AB2 ho
      refine ⟨d3,h.fin0 (by omega) (by omega) d1 ?_⟩
      unfold execOp
      rw [d2]
      simp [DF,h.tmps,Aw5 (no9 (by omega)),h8,Fv]
    · obtain ⟨d1,d2,d3⟩:=G3 AB0 ho
      refine ⟨d3,h.fin0 (by omega) (by omega) d1 ?_⟩
      have r1:L 1=true:=rdy (by kernel_rfl) ho hr
      have r2:L 2=true:=rdy (by kernel_rfl) ho hr
      have e1:=V5 (a0:=a0) (F:=Fv g n m c) (show 1<=8 by omega) r1
      have e2:=V5 (a0:=a0) (F:=Fv g n m c) (show 2<=8 by omega) r2
      unfold execOp
      rw [d2]
      simp [DF,h.tmps,e1,e2,Fv,Aoy w1 hmn]
    · obtain ⟨d1,d2,d3⟩:=G3 AB6 ho
      refine ⟨d3,h.fin0 (by omega) (by omega) d1 ?_⟩
      unfold execOp
      rw [d2]
      simp [DF,h.tmps,AAi,h7,Fv]
    · obtain ⟨d1,d2,d3⟩:=G3 ACi ho
      refine ⟨d3,h.fin0 (by omega) (by omega) d1 ?_⟩
      unfold execOp
      rw [d2]
      simp [DF,h.tmps,Aw5 (no9 (by omega)),h8,Fv]
    · obtain ⟨d1,d2,d3⟩:=G3 ACe ho
      refine ⟨d3,h.fin0 (by omega) (by omega) d1 ?_⟩
      have r1:L 4=true:=rdy (by kernel_rfl) ho hr
      have r2:L 5=true:=rdy (by kernel_rfl) ho hr
      have e1:=V5 (a0:=a0) (F:=Fv g n m c) (show 4<=8 by omega) r1
      have e2:=V5 (a0:=a0) (F:=Fv g n m c) (show 5<=8 by omega) r2
      unfold execOp
      rw [d2]
      simp [DF,h.tmps,e1,e2,Fv,Ap7 w1 hmn]
    · obtain ⟨d1,d2,d3⟩:=G3 AB5 ho
      refine ⟨d3,?_⟩
      have r1:L 3=true:=rdy (by kernel_rfl) ho hr
      have r2:L 6=true:=rdy (by kernel_rfl) ho hr
      have e1:=V5 (a0:=a0) (F:=Fv g n m c) (show 3<=8 by omega) r1
      have e2:=V5 (a0:=a0) (F:=Fv g n m c) (show 6<=8 by omega) r2
      have hrw:=h.row
      rw [hj] at hrw
      simp only [ACn,if_false] at hrw
      have hlen:(Lz n m (.int .i64 xi) (.int .i64 zi)).length=n:=by unfold Lz;simp;omega
      have hrun:=run_copy_row (P:=Tryz.prog) w1 45 45 o.type 3 g m (n-m) (n-m) ⟨g,0,none⟩ m n (Lz n m (.int .i64 xi) (.int .i64 zi)).toArray T (List.replicate c (.int .i64 xi)) Tryz.underlying45 sz3 hrw (by simp only [List.length_replicate];exact hc) (fun j v hv=>by
        refine Atz hrw j v ?_
        have hjc:j<c:=by
          rcases Nat.lt_or_ge j c with h' | h'
          · exact h'
          · rw [List.getElem?_eq_none (by simpa using h')] at hv;cases hv
        unfold Lz
        rw [List.getElem?_append_left (by simp;omega)]
        rw [List.getElem?_replicate] at hv |-
        rw [if_pos hjc] at hv
        rw [if_pos (by omega)]
        exact hv) (by simp [hlen];omega) (by intro v hv;rw [List.eq_of_mem_replicate hv];rfl)
      simp only [List.length_replicate,WW (show m+c<=n by omega)] at hrun
      refine h.fin (by omega) d1 (w':=w1.setRow g (Lz n (m+c) (.int .i64 xi) (.int .i64 zi)).toArray) ?_ ?_ (below_setRow h.below hBg _)
      · unfold execOp
        rw [d2]
        simp only [resolve,invoke,builtin,Sem.run_bind,Sem.run_pure,Result.andThen_ok,List.map_toArray,List.map_cons,List.map_nil,DF,h.tmps,e1,e2]
        show (Result.andThen (Sem.run Tryz.prog (Builtin.copy_ #[45,45] o.type #[.slice (some ⟨g,m,none⟩) (n-m) (n-m),.slice (some ⟨g,0,none⟩) m n]) w1) _)=_
        rw [hrun]
        rfl
      · simp only [decide_true,Bool.or_true,if_true]
        exact setRow_heap w1 g _ _ T _ hrw
    · obtain ⟨d1,d2,d3⟩:=G3 ACj ho
      refine ⟨d3,h.fin0 (by omega) (by omega) d1 ?_⟩
      have r1:L 0=true:=rdy (by kernel_rfl) ho hr
      have r2:L 7=true:=rdy (by kernel_rfl) ho hr
      have e1:=V5 (a0:=a0) (F:=Fv g n m c) (show 0<=8 by omega) r1
      have e2:=V5 (a0:=a0) (F:=Fv g n m c) (show 7<=8 by omega) r2
      unfold execOp
      rw [d2]
      have hw:IntKind.wrap .i64 ((m:Int)+(c:Int))=((m+c:Nat):Int):=by
        rw [Go.IntWalk.i64_in _ (by omega)]
        omega
      have hw':IntKind.wrap .i64 ((m:Int)+(c:Int))=(m:Int)+(c:Int):=by
        rw [hw]
        omega
      simp [DF,h.tmps,e1,e2,Fv,binOp,Op.intArith,A5,hw']
    · obtain ⟨d1,d2,d3⟩:=G3 AB9 ho
      refine ⟨d3,h.fin0 (by omega) (by omega) d1 ?_⟩
      have r1:L 8=true:=rdy (by kernel_rfl) ho hr
      have e1:=V5 (a0:=a0) (F:=Fv g n m c) (show 8<=8 by omega) r1
      unfold execOp
      rw [d2]
      simp [DF,h.tmps,e1,Fv]
theorem ABi {A:Array Value} (h:A.size=48) {f:Nat->Value} (hf:∀t,A.getD t undef=f t):A = #[f 0,f 1,f 2,f 3,f 4,f 5,f 6,f 7,f 8,f 9,f 10,f 11,f 12,f 13,f 14,f 15,f 16,f 17,f 18,f 19,f 20,f 21,f 22,f 23,f 24,f 25,f 26,f 27,f 28,f 29,f 30,f 31,f 32,f 33,f 34,f 35,f 36,f 37,f 38,f 39,f 40,f 41,f 42,f 43,f 44,f 45,f 46,f 47]:=by
  apply Array.ext
  · simp [h]
  · intro i h1 h2
    have e:=hf i
    rw [Array.getD_eq_getD_getElem?,Array.getElem?_eq_getElem h1] at e
    simp only [Option.getD_some] at e
    rw [e]
    simp only [List.size_toArray,List.length_cons,List.length_nil] at h2
    match i,h2 with
    | 0,_=>rfl
    | 1,_=>rfl
    | 2,_=>rfl
    | 3,_=>rfl
    | 4,_=>rfl
    | 5,_=>rfl
    | 6,_=>rfl
    | 7,_=>rfl
    | 8,_=>rfl
    | 9,_=>rfl
    | 10,_=>rfl
    | 11,_=>rfl
    | 12,_=>rfl
    | 13,_=>rfl
    | 14,_=>rfl
    | 15,_=>rfl
    | 16,_=>rfl
    | 17,_=>rfl
    | 18,_=>rfl
    | 19,_=>rfl
    | 20,_=>rfl
    | 21,_=>rfl
    | 22,_=>rfl
    | 23,_=>rfl
    | 24,_=>rfl
    | 25,_=>rfl
    | 26,_=>rfl
    | 27,_=>rfl
    | 28,_=>rfl
    | 29,_=>rfl
    | 30,_=>rfl
    | 31,_=>rfl
    | 32,_=>rfl
    | 33,_=>rfl
    | 34,_=>rfl
    | 35,_=>rfl
    | 36,_=>rfl
    | 37,_=>rfl
    | 38,_=>rfl
    | 39,_=>rfl
    | 40,_=>rfl
    | 41,_=>rfl
    | 42,_=>rfl
    | 43,_=>rfl
    | 44,_=>rfl
    | 45,_=>rfl
    | 46,_=>rfl
    | 47,_=>rfl
    | k+48,h2=>exact absurd h2 (by simp)
theorem Fa {Q:Exit->Act->World->Prop} {rid:Nat} {ops:Array Oper} (hops:ops=Lp) {A:Array Value} {df:List Deferred} {w w0:World} {g n m c B:Nat} {xi zi:Int} {T:TypeId} {L L':List Value} (a0:Nat->Value) (hsz:A.size=48) (ha0:∀t,A.getD t undef=a0 t) (h7:a0 7=.slice (some ⟨g,0,none⟩) n n) (h8:a0 8=.int .i64 (m:Int))
    (hm:1<=m) (hmn:m<n) (hn:n<=8) (hc:c=min m (n-m)) (hL:L=Lz n m (.int .i64 xi) (.int .i64 zi)) (hL':L'=Lz n (m+c) (.int .i64 xi) (.int .i64 zi)) (hg:w.heap[g]? = some (.cells L.toArray T (0,0))) (hB:Below B w0 w) (hBg:B<=g) {A':Array Value} (hA':A' = #[val a0 (Fv g n m c) (fun _=>true) 0,val a0 (Fv g n m c) (fun _=>true) 1,val a0 (Fv g n m c) (fun _=>true) 2,val a0 (Fv g n m c) (fun _=>true) 3,val a0 (Fv g n m c) (fun _=>true) 4,val a0 (Fv g n m c) (fun _=>true) 5,val a0 (Fv g n m c) (fun _=>true) 6,val a0 (Fv g n m c) (fun _=>true) 7,val a0 (Fv g n m c) (fun _=>true) 8,val a0 (Fv g n m c) (fun _=>true) 9,val a0 (Fv g n m c) (fun _=>true) 10,val a0 (Fv g n m c) (fun _=>true) 11,val a0 (Fv g n m c) (fun _=>true) 12,val a0 (Fv g n m c) (fun _=>true) 13,val a0 (Fv g n m c) (fun _=>true) 14,val a0 (Fv g n m c) (fun _=>true) 15,val a0 (Fv g n m c) (fun _=>true) 16,val a0 (Fv g n m c) (fun _=>true) 17,val a0 (Fv g n m c) (fun _=>true) 18,val a0 (Fv g n m c) (fun _=>true) 19,val a0 (Fv g n m c) (fun _=>true) 20,val a0 (Fv g n m c) (fun _=>true) 21,val a0 (Fv g n m c) (fun _=>true) 22,val a0 (Fv g n m c) (fun _=>true) 23,val a0 (Fv g n m c) (fun _=>true) 24,val a0 (Fv g n m c) (fun _=>true) 25,val a0 (Fv g n m c) (fun _=>true) 26,val a0 (Fv g n m c) (fun _=>true) 27,val a0 (Fv g n m c) (fun _=>true) 28,val a0 (Fv g n m c) (fun _=>true) 29,val a0 (Fv g n m c) (fun _=>true) 30,val a0 (Fv g n m c) (fun _=>true) 31,val a0 (Fv g n m c) (fun _=>true) 32,val a0 (Fv g n m c) (fun _=>true) 33,val a0 (Fv g n m c) (fun _=>true) 34,val a0 (Fv g n m c) (fun _=>true) 35,val a0 (Fv g n m c) (fun _=>true) 36,val a0 (Fv g n m c) (fun _=>true) 37,val a0 (Fv g n m c) (fun _=>true) 38,val a0 (Fv g n m c) (fun _=>true) 39,val a0 (Fv g n m c) (fun _=>true) 40,val a0 (Fv g n m c) (fun _=>true) 41,val a0 (Fv g n m c) (fun _=>true) 42,val a0 (Fv g n m c) (fun _=>true) 43,val a0 (Fv g n m c) (fun _=>true) 44,val a0 (Fv g n m c) (fun _=>true) 45,val a0 (Fv g n m c) (fun _=>true) 46,val a0 (Fv g n m c) (fun _=>true) 47])
    (hQ:∀w',Hid (w'.heap[g]? = some (.cells L'.toArray T (0,0)))->Below B w0 w'->Q .normal ⟨A',df⟩ w'):(Code.region rid ops true).wp Tryz.prog Q ⟨A,df⟩ w:=by
  subst hops hL hL' hA'
  refine ACc (a:=⟨A,df⟩) hsz ha0 h7 h8 hm hmn hn hc hg hB hBg fun a' w' h => ?_
  have e:=ABi h.size h.tmps
  have e2:a'=⟨a'.tmps,a'.defers⟩:=rfl
  rw [e2,e,h.defers]
  refine hQ w' ?_ h.below
  have:=h.row
  exact this
end Go.V.W
namespace Go.V.W
open Go.Proofs Go.RowKit
set_option maxRecDepth 1000000 in
theorem ABu (n:Nat) (hn:n<=8) (w:World):Calls Tryz.prog 186 #[.int .u64 1,.int .u64 n] w fun e w'=>e=.returned (.tuple #[.int .u64 0,.int .u64 n])/\w'=w:=by
  have:n=0\/n=1\/n=2\/n=3\/n=4\/n=5\/n=6\/n=7\/n=8:=by omega
  rcases this with rfl | rfl | rfl | rfl | rfl | rfl | rfl | rfl | rfl <;>
  (go_enter Tryz.func186,Tryz.ntmps186
   go_wp2
   go_ret2
   exact ⟨rfl,rfl⟩)
set_option maxRecDepth 1000000 in
theorem Jx (n:Nat) (hn:n<=8) (w:World):Calls Tryz.prog 162 #[.int .u64 1,.int .u64 n] w fun e w'=>e=.returned (.tuple #[.int .u64 0,.int .u64 n])/\w'=w:=by
  have hm:=ABu n hn w
  go_enter Tryz.func162,Tryz.ntmps162
  go_wp2_with (go_at_call 186;go_fit hm;rintro e w' ⟨rfl,hw⟩;rw [hw])
  go_ret2
  exact ⟨rfl,rfl⟩
theorem AAv (z:Value) (n:Nat):madeCells #[z] n=(List.replicate n z).toArray:=by
  apply Array.ext
  · simp [madeCells]
  · intro i h1 h2
    simp [madeCells,Nat.mod_one]
theorem AAo:(Tryz.prog.info? 3).map (fun i=>(i.zero,i.size,i.bytes))=some (some (.int .i64 0),1,8):=by kernel_rfl
theorem mk3 (n:Nat) (hn:n<=8) (w:World):(Instr.makeSlice 45 (.int .i64 (n:Int)) (.int .i64 (n:Int))).run Tryz.prog w=.ok (.slice (some ⟨w.heap.size,0,none⟩) n n) (w.alloc (.cells (List.replicate n (.int .i64 0)).toArray 3)):=by
  rw [<- AAv]
  exact run_make_row' 45 3 (.int .i64 0) 8 Tryz.underlying45 AAo rfl .i64 .i64 n (by omega) (by omega) w
theorem XB {w:World} {a:Addr} {v:Value} (h:w.cell? a=some v):∀j u,[v][j]? = some u->w.cell? (a.add j)=some u:=by
  intro j u hj
  match j with
  | 0=>
    simp only [List.length_cons,List.length_nil,Nat.zero_add,Nat.lt_add_one,ACz,List.getElem_cons_zero,ACp] at hj
    subst hj
    exact h
  | j+1=>simp at hj
theorem Dr {w:World} {a:Addr} {v:Value} (h:w.cell? a=some v) (o:Obj):(w.alloc o).cell? a=some v:=by
  have hlt:a.block<w.heap.size:=by
    unfold World.cell? at h
    cases hb:w.heap[a.block]? with
    | none=>rw [hb] at h;cases h
    | some x=>exact (Array.getElem?_eq_some_iff.1 hb).1
  unfold World.cell? at h |-
  rw [Below.heap_alloc w o a.block hlt]
  exact h
set_option maxRecDepth 1000000 in
set_option maxHeartbeats 4000000 in
theorem AB4 (x:Int) (w:World) (b off cap:Nat) (hx:w.cell? ⟨b,off,none⟩=some (.int .i64 x)):Calls Tryz.prog 124 #[.slice (some ⟨b,off,none⟩) 1 cap,.int .i64 1] w fun e w' => ∃g T,e=.returned (.slice (some ⟨g,0,none⟩) 1 1)/\w.heap.size<=g/\w'.heap[g]? = some (.cells (List.replicate 1 (.int .i64 x)).toArray T (0,0))/\Below w.heap.size w w':=by
  have hm:=Jx 1 (by omega) w
  obtain ⟨W1,hW1⟩:∃W1,W1=w.alloc (.cells (List.replicate 1 (.int .i64 0)).toArray 3):=⟨_,rfl⟩
  have hk:(Instr.makeSlice 45 (.int .i64 1) (.int .i64 1)).run Tryz.prog w=.ok (.slice (some ⟨w.heap.size,0,none⟩) 1 1) W1:=by
    rw [hW1]
    exact mk3 1 (by omega) w
  have hB0:Hid (Below w.heap.size w W1):=hW1▸(Below.refl _ w).alloc (ACr _) _
  have hG0:Hid (W1.heap[w.heap.size]? = some (.cells ([.int .i64 0]:List Value).toArray 3 (0,0))):=by
    subst hW1
    show _=_
    exact heap_alloc_new w _
  have hs0:Hid (∀j v,[Value.int .i64 x][j]? = some v->W1.cell? ((⟨b,off,none⟩:Addr).add j)=some v):=XB (hW1▸Dr hx _)
  clear hW1
  go_enter Tryz.func124,Tryz.ntmps124
  go_wp2_with (first
    | (go_at_call 162;go_fit hm;rintro e w' ⟨rfl,hw⟩;rw [hw])
    | (refine wpList_copy_splice (o:=⟨some 33,_,_,_,_,_⟩) rfl (.tmp 31) (.tmp 32) 45 45 rfl 3 Tryz.underlying45 sz3 (some ⟨w.heap.size,0,none⟩) (some ⟨b,off,none⟩) 1 1 1 cap rfl rfl w.heap.size 0 [.int .i64 0] 3 hG0.out [.int .i64 x] rfl (fun _=>⟨rfl,_,rfl,hs0.out⟩) (by simp) (by simp [Value.oneCell']) w.heap.size w hB0.out (ACr _) ?_;intro w2 HG2 hB2))
  have hG:Hid (w2.heap[w.heap.size]? = some (.cells ([.int .i64 x]:List Value).toArray 3 (0,0))):=HG2.out
  clear HG2 hk hs0 hG0 hB0 hm
  refine wp_loop_rounds 1 ?_
  rw [rounds_succ]
  go_wp2_with (fail)
  go_ret
  first
    | exact ⟨_,_,rfl,ACr _,hG.out,hB2⟩
    | exact ⟨_,rfl,ACr _,⟨_,hG.out⟩,hB2⟩
set_option maxRecDepth 1000000 in
set_option maxHeartbeats 4000000 in
theorem ACm (x:Int) (w:World) (b off cap:Nat) (hx:w.cell? ⟨b,off,none⟩=some (.int .i64 x)):Calls Tryz.prog 124 #[.slice (some ⟨b,off,none⟩) 1 cap,.int .i64 2] w fun e w' => ∃g T,e=.returned (.slice (some ⟨g,0,none⟩) 2 2)/\w.heap.size<=g/\w'.heap[g]? = some (.cells (List.replicate 2 (.int .i64 x)).toArray T (0,0))/\Below w.heap.size w w':=by
  have hm:=Jx 2 (by omega) w
  obtain ⟨W1,hW1⟩:∃W1,W1=w.alloc (.cells (List.replicate 2 (.int .i64 0)).toArray 3):=⟨_,rfl⟩
  have hk:(Instr.makeSlice 45 (.int .i64 2) (.int .i64 2)).run Tryz.prog w=.ok (.slice (some ⟨w.heap.size,0,none⟩) 2 2) W1:=by
    rw [hW1]
    exact mk3 2 (by omega) w
  have hB0:Hid (Below w.heap.size w W1):=hW1▸(Below.refl _ w).alloc (ACr _) _
  have hG0:Hid (W1.heap[w.heap.size]? = some (.cells ([.int .i64 0,.int .i64 0]:List Value).toArray 3 (0,0))):=by
    subst hW1
    show _=_
    exact heap_alloc_new w _
  have hs0:Hid (∀j v,[Value.int .i64 x][j]? = some v->W1.cell? ((⟨b,off,none⟩:Addr).add j)=some v):=XB (hW1▸Dr hx _)
  clear hW1
  go_enter Tryz.func124,Tryz.ntmps124
  go_wp2_with (first
    | (go_at_call 162;go_fit hm;rintro e w' ⟨rfl,hw⟩;rw [hw])
    | (refine wpList_copy_splice (o:=⟨some 33,_,_,_,_,_⟩) rfl (.tmp 31) (.tmp 32) 45 45 rfl 3 Tryz.underlying45 sz3 (some ⟨w.heap.size,0,none⟩) (some ⟨b,off,none⟩) 2 2 1 cap rfl rfl w.heap.size 0 [.int .i64 0,.int .i64 0] 3 hG0.out [.int .i64 x] rfl (fun _=>⟨rfl,_,rfl,hs0.out⟩) (by simp) (by simp [Value.oneCell']) w.heap.size w hB0.out (ACr _) ?_;intro w2 HG2 hB2))
  have hG:Hid (w2.heap[w.heap.size]? = some (.cells ([.int .i64 x,.int .i64 0]:List Value).toArray 3 (0,0))):=HG2.out
  clear HG2 hk hs0 hG0 hB0 hm
  refine wp_loop_rounds 2 ?_
  rw [rounds_succ]
  go_wp2_with (fail)
  refine Fa (by kernel_rfl) (g:=w.heap.size) (n:=2) (m:=1) (c:=1) (xi:=x) (zi:=0) (T:=3) (L:=[.int .i64 x,.int .i64 0]) (L':=[.int .i64 x,.int .i64 x]) _ rfl (fun _=>rfl) rfl rfl (by omega) (by omega) (by omega) rfl rfl rfl hG.out hB2 (ACr _) rfl ?_
  intro w3 hG3 hB3
  clear hG hB2
  have hG:=hG3
  have hB2:=hB3
  clear hG3 hB3
  simp only [Exit.inBlock,Exit.then,rounds_succ,val,Fv]
  go_wp2_with (fail)
  go_ret
  first
    | exact ⟨_,_,rfl,ACr _,hG.out,hB2⟩
    | exact ⟨_,rfl,ACr _,⟨_,hG.out⟩,hB2⟩
set_option maxRecDepth 1000000 in
set_option maxHeartbeats 4000000 in
theorem ACk (x:Int) (w:World) (b off cap:Nat) (hx:w.cell? ⟨b,off,none⟩=some (.int .i64 x)):Calls Tryz.prog 124 #[.slice (some ⟨b,off,none⟩) 1 cap,.int .i64 3] w fun e w' => ∃g T,e=.returned (.slice (some ⟨g,0,none⟩) 3 3)/\w.heap.size<=g/\w'.heap[g]? = some (.cells (List.replicate 3 (.int .i64 x)).toArray T (0,0))/\Below w.heap.size w w':=by
  have hm:=Jx 3 (by omega) w
  obtain ⟨W1,hW1⟩:∃W1,W1=w.alloc (.cells (List.replicate 3 (.int .i64 0)).toArray 3):=⟨_,rfl⟩
  have hk:(Instr.makeSlice 45 (.int .i64 3) (.int .i64 3)).run Tryz.prog w=.ok (.slice (some ⟨w.heap.size,0,none⟩) 3 3) W1:=by
    rw [hW1]
    exact mk3 3 (by omega) w
  have hB0:Hid (Below w.heap.size w W1):=hW1▸(Below.refl _ w).alloc (ACr _) _
  have hG0:Hid (W1.heap[w.heap.size]? = some (.cells ([.int .i64 0,.int .i64 0,.int .i64 0]:List Value).toArray 3 (0,0))):=by
    subst hW1
    show _=_
    exact heap_alloc_new w _
  have hs0:Hid (∀j v,[Value.int .i64 x][j]? = some v->W1.cell? ((⟨b,off,none⟩:Addr).add j)=some v):=XB (hW1▸Dr hx _)
  clear hW1
  go_enter Tryz.func124,Tryz.ntmps124
  go_wp2_with (first
    | (go_at_call 162;go_fit hm;rintro e w' ⟨rfl,hw⟩;rw [hw])
    | (refine wpList_copy_splice (o:=⟨some 33,_,_,_,_,_⟩) rfl (.tmp 31) (.tmp 32) 45 45 rfl 3 Tryz.underlying45 sz3 (some ⟨w.heap.size,0,none⟩) (some ⟨b,off,none⟩) 3 3 1 cap rfl rfl w.heap.size 0 [.int .i64 0,.int .i64 0,.int .i64 0] 3 hG0.out [.int .i64 x] rfl (fun _=>⟨rfl,_,rfl,hs0.out⟩) (by simp) (by simp [Value.oneCell']) w.heap.size w hB0.out (ACr _) ?_;intro w2 HG2 hB2))
  have hG:Hid (w2.heap[w.heap.size]? = some (.cells ([.int .i64 x,.int .i64 0,.int .i64 0]:List Value).toArray 3 (0,0))):=HG2.out
  clear HG2 hk hs0 hG0 hB0 hm
  refine wp_loop_rounds 3 ?_
  rw [rounds_succ]
  go_wp2_with (fail)
  refine Fa (by kernel_rfl) (g:=w.heap.size) (n:=3) (m:=1) (c:=1) (xi:=x) (zi:=0) (T:=3) (L:=[.int .i64 x,.int .i64 0,.int .i64 0]) (L':=[.int .i64 x,.int .i64 x,.int .i64 0]) _ rfl (fun _=>rfl) rfl rfl (by omega) (by omega) (by omega) rfl rfl rfl hG.out hB2 (ACr _) rfl ?_
  intro w3 hG3 hB3
  clear hG hB2
  have hG:=hG3
  have hB2:=hB3
  clear hG3 hB3
  simp only [Exit.inBlock,Exit.then,rounds_succ,val,Fv]
  go_wp2_with (fail)
  refine Fa (by kernel_rfl) (g:=w.heap.size) (n:=3) (m:=2) (c:=1) (xi:=x) (zi:=0) (T:=3) (L:=[.int .i64 x,.int .i64 x,.int .i64 0]) (L':=[.int .i64 x,.int .i64 x,.int .i64 x]) _ rfl (fun _=>rfl) rfl rfl (by omega) (by omega) (by omega) rfl rfl rfl hG.out hB2 (ACr _) rfl ?_
  intro w3 hG3 hB3
  clear hG hB2
  have hG:=hG3
  have hB2:=hB3
  clear hG3 hB3
  simp only [Exit.inBlock,Exit.then,rounds_succ,val,Fv]
  go_wp2_with (fail)
  go_ret
  first
    | exact ⟨_,_,rfl,ACr _,hG.out,hB2⟩
    | exact ⟨_,rfl,ACr _,⟨_,hG.out⟩,hB2⟩
set_option maxRecDepth 1000000 in
set_option maxHeartbeats 4000000 in
theorem AB1 (x:Int) (w:World) (b off cap:Nat) (hx:w.cell? ⟨b,off,none⟩=some (.int .i64 x)):Calls Tryz.prog 124 #[.slice (some ⟨b,off,none⟩) 1 cap,.int .i64 4] w fun e w' => ∃g T,e=.returned (.slice (some ⟨g,0,none⟩) 4 4)/\w.heap.size<=g/\w'.heap[g]? = some (.cells (List.replicate 4 (.int .i64 x)).toArray T (0,0))/\Below w.heap.size w w':=by
  have hm:=Jx 4 (by omega) w
  obtain ⟨W1,hW1⟩:∃W1,W1=w.alloc (.cells (List.replicate 4 (.int .i64 0)).toArray 3):=⟨_,rfl⟩
  have hk:(Instr.makeSlice 45 (.int .i64 4) (.int .i64 4)).run Tryz.prog w=.ok (.slice (some ⟨w.heap.size,0,none⟩) 4 4) W1:=by
    rw [hW1]
    exact mk3 4 (by omega) w
  have hB0:Hid (Below w.heap.size w W1):=hW1▸(Below.refl _ w).alloc (ACr _) _
  have hG0:Hid (W1.heap[w.heap.size]? = some (.cells ([.int .i64 0,.int .i64 0,.int .i64 0,.int .i64 0]:List Value).toArray 3 (0,0))):=by
    subst hW1
    show _=_
    exact heap_alloc_new w _
  have hs0:Hid (∀j v,[Value.int .i64 x][j]? = some v->W1.cell? ((⟨b,off,none⟩:Addr).add j)=some v):=XB (hW1▸Dr hx _)
  clear hW1
  go_enter Tryz.func124,Tryz.ntmps124
  go_wp2_with (first
    | (go_at_call 162;go_fit hm;rintro e w' ⟨rfl,hw⟩;rw [hw])
    | (refine wpList_copy_splice (o:=⟨some 33,_,_,_,_,_⟩) rfl (.tmp 31) (.tmp 32) 45 45 rfl 3 Tryz.underlying45 sz3 (some ⟨w.heap.size,0,none⟩) (some ⟨b,off,none⟩) 4 4 1 cap rfl rfl w.heap.size 0 [.int .i64 0,.int .i64 0,.int .i64 0,.int .i64 0] 3 hG0.out [.int .i64 x] rfl (fun _=>⟨rfl,_,rfl,hs0.out⟩) (by simp) (by simp [Value.oneCell']) w.heap.size w hB0.out (ACr _) ?_;intro w2 HG2 hB2))
  have hG:Hid (w2.heap[w.heap.size]? = some (.cells ([.int .i64 x,.int .i64 0,.int .i64 0,.int .i64 0]:List Value).toArray 3 (0,0))):=HG2.out
  clear HG2 hk hs0 hG0 hB0 hm
  refine wp_loop_rounds 3 ?_
  rw [rounds_succ]
  go_wp2_with (fail)
  refine Fa (by kernel_rfl) (g:=w.heap.size) (n:=4) (m:=1) (c:=1) (xi:=x) (zi:=0) (T:=3) (L:=[.int .i64 x,.int .i64 0,.int .i64 0,.int .i64 0]) (L':=[.int .i64 x,.int .i64 x,.int .i64 0,.int .i64 0]) _ rfl (fun _=>rfl) rfl rfl (by omega) (by omega) (by omega) rfl rfl rfl hG.out hB2 (ACr _) rfl ?_
  intro w3 hG3 hB3
  clear hG hB2
  have hG:=hG3
  have hB2:=hB3
  clear hG3 hB3
  simp only [Exit.inBlock,Exit.then,rounds_succ,val,Fv]
  go_wp2_with (fail)
  refine Fa (by kernel_rfl) (g:=w.heap.size) (n:=4) (m:=2) (c:=2) (xi:=x) (zi:=0) (T:=3) (L:=[.int .i64 x,.int .i64 x,.int .i64 0,.int .i64 0]) (L':=[.int .i64 x,.int .i64 x,.int .i64 x,.int .i64 x]) _ rfl (fun _=>rfl) rfl rfl (by omega) (by omega) (by omega) rfl rfl rfl hG.out hB2 (ACr _) rfl ?_
  intro w3 hG3 hB3
  clear hG hB2
  have hG:=hG3
  have hB2:=hB3
  clear hG3 hB3
  simp only [Exit.inBlock,Exit.then,rounds_succ,val,Fv]
  go_wp2_with (fail)
  go_ret
  first
    | exact ⟨_,_,rfl,ACr _,hG.out,hB2⟩
    | exact ⟨_,rfl,ACr _,⟨_,hG.out⟩,hB2⟩
set_option maxRecDepth 1000000 in
set_option maxHeartbeats 4000000 in
theorem ACg (x:Int) (w:World) (b off cap:Nat) (hx:w.cell? ⟨b,off,none⟩=some (.int .i64 x)):Calls Tryz.prog 124 #[.slice (some ⟨b,off,none⟩) 1 cap,.int .i64 5] w fun e w' => ∃g T,e=.returned (.slice (some ⟨g,0,none⟩) 5 5)/\w.heap.size<=g/\w'.heap[g]? = some (.cells (List.replicate 5 (.int .i64 x)).toArray T (0,0))/\Below w.heap.size w w':=by
  have hm:=Jx 5 (by omega) w
  obtain ⟨W1,hW1⟩:∃W1,W1=w.alloc (.cells (List.replicate 5 (.int .i64 0)).toArray 3):=⟨_,rfl⟩
  have hk:(Instr.makeSlice 45 (.int .i64 5) (.int .i64 5)).run Tryz.prog w=.ok (.slice (some ⟨w.heap.size,0,none⟩) 5 5) W1:=by
    rw [hW1]
    exact mk3 5 (by omega) w
  have hB0:Hid (Below w.heap.size w W1):=hW1▸(Below.refl _ w).alloc (ACr _) _
  have hG0:Hid (W1.heap[w.heap.size]? = some (.cells ([.int .i64 0,.int .i64 0,.int .i64 0,.int .i64 0,.int .i64 0]:List Value).toArray 3 (0,0))):=by
    subst hW1
    show _=_
    exact heap_alloc_new w _
  have hs0:Hid (∀j v,[Value.int .i64 x][j]? = some v->W1.cell? ((⟨b,off,none⟩:Addr).add j)=some v):=XB (hW1▸Dr hx _)
  clear hW1
  go_enter Tryz.func124,Tryz.ntmps124
  go_wp2_with (first
    | (go_at_call 162;go_fit hm;rintro e w' ⟨rfl,hw⟩;rw [hw])
    | (refine wpList_copy_splice (o:=⟨some 33,_,_,_,_,_⟩) rfl (.tmp 31) (.tmp 32) 45 45 rfl 3 Tryz.underlying45 sz3 (some ⟨w.heap.size,0,none⟩) (some ⟨b,off,none⟩) 5 5 1 cap rfl rfl w.heap.size 0 [.int .i64 0,.int .i64 0,.int .i64 0,.int .i64 0,.int .i64 0] 3 hG0.out [.int .i64 x] rfl (fun _=>⟨rfl,_,rfl,hs0.out⟩) (by simp) (by simp [Value.oneCell']) w.heap.size w hB0.out (ACr _) ?_;intro w2 HG2 hB2))
  have hG:Hid (w2.heap[w.heap.size]? = some (.cells ([.int .i64 x,.int .i64 0,.int .i64 0,.int .i64 0,.int .i64 0]:List Value).toArray 3 (0,0))):=HG2.out
  clear HG2 hk hs0 hG0 hB0 hm
  refine wp_loop_rounds 4 ?_
  rw [rounds_succ]
  go_wp2_with (fail)
  refine Fa (by kernel_rfl) (g:=w.heap.size) (n:=5) (m:=1) (c:=1) (xi:=x) (zi:=0) (T:=3) (L:=[.int .i64 x,.int .i64 0,.int .i64 0,.int .i64 0,.int .i64 0]) (L':=[.int .i64 x,.int .i64 x,.int .i64 0,.int .i64 0,.int .i64 0]) _ rfl (fun _=>rfl) rfl rfl (by omega) (by omega) (by omega) rfl rfl rfl hG.out hB2 (ACr _) rfl ?_
  intro w3 hG3 hB3
  clear hG hB2
  have hG:=hG3
  have hB2:=hB3
  clear hG3 hB3
  simp only [Exit.inBlock,Exit.then,rounds_succ,val,Fv]
  go_wp2_with (fail)
  refine Fa (by kernel_rfl) (g:=w.heap.size) (n:=5) (m:=2) (c:=2) (xi:=x) (zi:=0) (T:=3) (L:=[.int .i64 x,.int .i64 x,.int .i64 0,.int .i64 0,.int .i64 0]) (L':=[.int .i64 x,.int .i64 x,.int .i64 x,.int .i64 x,.int .i64 0]) _ rfl (fun _=>rfl) rfl rfl (by omega) (by omega) (by omega) rfl rfl rfl hG.out hB2 (ACr _) rfl ?_
  intro w3 hG3 hB3
  clear hG hB2
  have hG:=hG3
  have hB2:=hB3
  clear hG3 hB3
  simp only [Exit.inBlock,Exit.then,rounds_succ,val,Fv]
  go_wp2_with (fail)
  refine Fa (by kernel_rfl) (g:=w.heap.size) (n:=5) (m:=4) (c:=1) (xi:=x) (zi:=0) (T:=3) (L:=[.int .i64 x,.int .i64 x,.int .i64 x,.int .i64 x,.int .i64 0]) (L':=[.int .i64 x,.int .i64 x,.int .i64 x,.int .i64 x,.int .i64 x]) _ rfl (fun _=>rfl) rfl rfl (by omega) (by omega) (by omega) rfl rfl rfl hG.out hB2 (ACr _) rfl ?_
  intro w3 hG3 hB3
  clear hG hB2
  have hG:=hG3
  have hB2:=hB3
  clear hG3 hB3
  simp only [Exit.inBlock,Exit.then,rounds_succ,val,Fv]
  go_wp2_with (fail)
  go_ret
  first
    | exact ⟨_,_,rfl,ACr _,hG.out,hB2⟩
    | exact ⟨_,rfl,ACr _,⟨_,hG.out⟩,hB2⟩
set_option maxRecDepth 1000000 in
set_option maxHeartbeats 4000000 in
theorem ACd (x:Int) (w:World) (b off cap:Nat) (hx:w.cell? ⟨b,off,none⟩=some (.int .i64 x)):Calls Tryz.prog 124 #[.slice (some ⟨b,off,none⟩) 1 cap,.int .i64 6] w fun e w' => ∃g T,e=.returned (.slice (some ⟨g,0,none⟩) 6 6)/\w.heap.size<=g/\w'.heap[g]? = some (.cells (List.replicate 6 (.int .i64 x)).toArray T (0,0))/\Below w.heap.size w w':=by
  have hm:=Jx 6 (by omega) w
  obtain ⟨W1,hW1⟩:∃W1,W1=w.alloc (.cells (List.replicate 6 (.int .i64 0)).toArray 3):=⟨_,rfl⟩
  have hk:(Instr.makeSlice 45 (.int .i64 6) (.int .i64 6)).run Tryz.prog w=.ok (.slice (some ⟨w.heap.size,0,none⟩) 6 6) W1:=by
    rw [hW1]
    exact mk3 6 (by omega) w
  have hB0:Hid (Below w.heap.size w W1):=hW1▸(Below.refl _ w).alloc (ACr _) _
  have hG0:Hid (W1.heap[w.heap.size]? = some (.cells ([.int .i64 0,.int .i64 0,.int .i64 0,.int .i64 0,.int .i64 0,.int .i64 0]:List Value).toArray 3 (0,0))):=by
    subst hW1
    show _=_
    exact heap_alloc_new w _
  have hs0:Hid (∀j v,[Value.int .i64 x][j]? = some v->W1.cell? ((⟨b,off,none⟩:Addr).add j)=some v):=XB (hW1▸Dr hx _)
  clear hW1
  go_enter Tryz.func124,Tryz.ntmps124
  go_wp2_with (first
    | (go_at_call 162;go_fit hm;rintro e w' ⟨rfl,hw⟩;rw [hw])
    | (refine wpList_copy_splice (o:=⟨some 33,_,_,_,_,_⟩) rfl (.tmp 31) (.tmp 32) 45 45 rfl 3 Tryz.underlying45 sz3 (some ⟨w.heap.size,0,none⟩) (some ⟨b,off,none⟩) 6 6 1 cap rfl rfl w.heap.size 0 [.int .i64 0,.int .i64 0,.int .i64 0,.int .i64 0,.int .i64 0,.int .i64 0] 3 hG0.out [.int .i64 x] rfl (fun _=>⟨rfl,_,rfl,hs0.out⟩) (by simp) (by simp [Value.oneCell']) w.heap.size w hB0.out (ACr _) ?_;intro w2 HG2 hB2))
  have hG:Hid (w2.heap[w.heap.size]? = some (.cells ([.int .i64 x,.int .i64 0,.int .i64 0,.int .i64 0,.int .i64 0,.int .i64 0]:List Value).toArray 3 (0,0))):=HG2.out
  clear HG2 hk hs0 hG0 hB0 hm
  refine wp_loop_rounds 4 ?_
  rw [rounds_succ]
  go_wp2_with (fail)
  refine Fa (by kernel_rfl) (g:=w.heap.size) (n:=6) (m:=1) (c:=1) (xi:=x) (zi:=0) (T:=3) (L:=[.int .i64 x,.int .i64 0,.int .i64 0,.int .i64 0,.int .i64 0,.int .i64 0]) (L':=[.int .i64 x,.int .i64 x,.int .i64 0,.int .i64 0,.int .i64 0,.int .i64 0]) _ rfl (fun _=>rfl) rfl rfl (by omega) (by omega) (by omega) rfl rfl rfl hG.out hB2 (ACr _) rfl ?_
  intro w3 hG3 hB3
  clear hG hB2
  have hG:=hG3
  have hB2:=hB3
  clear hG3 hB3
  simp only [Exit.inBlock,Exit.then,rounds_succ,val,Fv]
  go_wp2_with (fail)
  refine Fa (by kernel_rfl) (g:=w.heap.size) (n:=6) (m:=2) (c:=2) (xi:=x) (zi:=0) (T:=3) (L:=[.int .i64 x,.int .i64 x,.int .i64 0,.int .i64 0,.int .i64 0,.int .i64 0]) (L':=[.int .i64 x,.int .i64 x,.int .i64 x,.int .i64 x,.int .i64 0,.int .i64 0]) _ rfl (fun _=>rfl) rfl rfl (by omega) (by omega) (by omega) rfl rfl rfl hG.out hB2 (ACr _) rfl ?_
  intro w3 hG3 hB3
  clear hG hB2
  have hG:=hG3
  have hB2:=hB3
  clear hG3 hB3
  simp only [Exit.inBlock,Exit.then,rounds_succ,val,Fv]
  go_wp2_with (fail)
  refine Fa (by kernel_rfl) (g:=w.heap.size) (n:=6) (m:=4) (c:=2) (xi:=x) (zi:=0) (T:=3) (L:=[.int .i64 x,.int .i64 x,.int .i64 x,.int .i64 x,.int .i64 0,.int .i64 0]) (L':=[.int .i64 x,.int .i64 x,.int .i64 x,.int .i64 x,.int .i64 x,.int .i64 x]) _ rfl (fun _=>rfl) rfl rfl (by omega) (by omega) (by omega) rfl rfl rfl hG.out hB2 (ACr _) rfl ?_
  intro w3 hG3 hB3
  clear hG hB2
  have hG:=hG3
  have hB2:=hB3
  clear hG3 hB3
  simp only [Exit.inBlock,Exit.then,rounds_succ,val,Fv]
  go_wp2_with (fail)
  go_ret
  first
    | exact ⟨_,_,rfl,ACr _,hG.out,hB2⟩
    | exact ⟨_,rfl,ACr _,⟨_,hG.out⟩,hB2⟩
set_option maxRecDepth 1000000 in
set_option maxHeartbeats 4000000 in
theorem AB7 (x:Int) (w:World) (b off cap:Nat) (hx:w.cell? ⟨b,off,none⟩=some (.int .i64 x)):Calls Tryz.prog 124 #[.slice (some ⟨b,off,none⟩) 1 cap,.int .i64 7] w fun e w' => ∃g T,e=.returned (.slice (some ⟨g,0,none⟩) 7 7)/\w.heap.size<=g/\w'.heap[g]? = some (.cells (List.replicate 7 (.int .i64 x)).toArray T (0,0))/\Below w.heap.size w w':=by
  have hm:=Jx 7 (by omega) w
  obtain ⟨W1,hW1⟩:∃W1,W1=w.alloc (.cells (List.replicate 7 (.int .i64 0)).toArray 3):=⟨_,rfl⟩
  have hk:(Instr.makeSlice 45 (.int .i64 7) (.int .i64 7)).run Tryz.prog w=.ok (.slice (some ⟨w.heap.size,0,none⟩) 7 7) W1:=by
    rw [hW1]
    exact mk3 7 (by omega) w
  have hB0:Hid (Below w.heap.size w W1):=hW1▸(Below.refl _ w).alloc (ACr _) _
  have hG0:Hid (W1.heap[w.heap.size]? = some (.cells ([.int .i64 0,.int .i64 0,.int .i64 0,.int .i64 0,.int .i64 0,.int .i64 0,.int .i64 0]:List Value).toArray 3 (0,0))):=by
    subst hW1
    show _=_
    exact heap_alloc_new w _
  have hs0:Hid (∀j v,[Value.int .i64 x][j]? = some v->W1.cell? ((⟨b,off,none⟩:Addr).add j)=some v):=XB (hW1▸Dr hx _)
  clear hW1
  go_enter Tryz.func124,Tryz.ntmps124
  go_wp2_with (first
    | (go_at_call 162;go_fit hm;rintro e w' ⟨rfl,hw⟩;rw [hw])
    | (refine wpList_copy_splice (o:=⟨some 33,_,_,_,_,_⟩) rfl (.tmp 31) (.tmp 32) 45 45 rfl 3 Tryz.underlying45 sz3 (some ⟨w.heap.size,0,none⟩) (some ⟨b,off,none⟩) 7 7 1 cap rfl rfl w.heap.size 0 [.int .i64 0,.int .i64 0,.int .i64 0,.int .i64 0,.int .i64 0,.int .i64 0,.int .i64 0] 3 hG0.out [.int .i64 x] rfl (fun _=>⟨rfl,_,rfl,hs0.out⟩) (by simp) (by simp [Value.oneCell']) w.heap.size w hB0.out (ACr _) ?_;intro w2 HG2 hB2))
  have hG:Hid (w2.heap[w.heap.size]? = some (.cells ([.int .i64 x,.int .i64 0,.int .i64 0,.int .i64 0,.int .i64 0,.int .i64 0,.int .i64 0]:List Value).toArray 3 (0,0))):=HG2.out
  clear HG2 hk hs0 hG0 hB0 hm
  refine wp_loop_rounds 4 ?_
  rw [rounds_succ]
  go_wp2_with (fail)
  refine Fa (by kernel_rfl) (g:=w.heap.size) (n:=7) (m:=1) (c:=1) (xi:=x) (zi:=0) (T:=3) (L:=[.int .i64 x,.int .i64 0,.int .i64 0,.int .i64 0,.int .i64 0,.int .i64 0,.int .i64 0]) (L':=[.int .i64 x,.int .i64 x,.int .i64 0,.int .i64 0,.int .i64 0,.int .i64 0,.int .i64 0]) _ rfl (fun _=>rfl) rfl rfl (by omega) (by omega) (by omega) rfl rfl rfl hG.out hB2 (ACr _) rfl ?_
  intro w3 hG3 hB3
  clear hG hB2
  have hG:=hG3
  have hB2:=hB3
  clear hG3 hB3
  simp only [Exit.inBlock,Exit.then,rounds_succ,val,Fv]
  go_wp2_with (fail)
  refine Fa (by kernel_rfl) (g:=w.heap.size) (n:=7) (m:=2) (c:=2) (xi:=x) (zi:=0) (T:=3) (L:=[.int .i64 x,.int .i64 x,.int .i64 0,.int .i64 0,.int .i64 0,.int .i64 0,.int .i64 0]) (L':=[.int .i64 x,.int .i64 x,.int .i64 x,.int .i64 x,.int .i64 0,.int .i64 0,.int .i64 0]) _ rfl (fun _=>rfl) rfl rfl (by omega) (by omega) (by omega) rfl rfl rfl hG.out hB2 (ACr _) rfl ?_
  intro w3 hG3 hB3
  clear hG hB2
  have hG:=hG3
  have hB2:=hB3
  clear hG3 hB3
  simp only [Exit.inBlock,Exit.then,rounds_succ,val,Fv]
  go_wp2_with (fail)
  refine Fa (by kernel_rfl) (g:=w.heap.size) (n:=7) (m:=4) (c:=3) (xi:=x) (zi:=0) (T:=3) (L:=[.int .i64 x,.int .i64 x,.int .i64 x,.int .i64 x,.int .i64 0,.int .i64 0,.int .i64 0]) (L':=[.int .i64 x,.int .i64 x,.int .i64 x,.int .i64 x,.int .i64 x,.int .i64 x,.int .i64 x]) _ rfl (fun _=>rfl) rfl rfl (by omega) (by omega) (by omega) rfl rfl rfl hG.out hB2 (ACr _) rfl ?_
  intro w3 hG3 hB3
  clear hG hB2
  have hG:=hG3
  have hB2:=hB3
  clear hG3 hB3
  simp only [Exit.inBlock,Exit.then,rounds_succ,val,Fv]
  go_wp2_with (fail)
  go_ret
  first
    | exact ⟨_,_,rfl,ACr _,hG.out,hB2⟩
    | exact ⟨_,rfl,ACr _,⟨_,hG.out⟩,hB2⟩
set_option maxRecDepth 1000000 in
set_option maxHeartbeats 4000000 in
theorem ACa (x:Int) (w:World) (b off cap:Nat) (hx:w.cell? ⟨b,off,none⟩=some (.int .i64 x)):Calls Tryz.prog 124 #[.slice (some ⟨b,off,none⟩) 1 cap,.int .i64 8] w fun e w' => ∃g T,e=.returned (.slice (some ⟨g,0,none⟩) 8 8)/\w.heap.size<=g/\w'.heap[g]? = some (.cells (List.replicate 8 (.int .i64 x)).toArray T (0,0))/\Below w.heap.size w w':=by
  have hm:=Jx 8 (by omega) w
  obtain ⟨W1,hW1⟩:∃W1,W1=w.alloc (.cells (List.replicate 8 (.int .i64 0)).toArray 3):=⟨_,rfl⟩
  have hk:(Instr.makeSlice 45 (.int .i64 8) (.int .i64 8)).run Tryz.prog w=.ok (.slice (some ⟨w.heap.size,0,none⟩) 8 8) W1:=by
    rw [hW1]
    exact mk3 8 (by omega) w
  have hB0:Hid (Below w.heap.size w W1):=hW1▸(Below.refl _ w).alloc (ACr _) _
  have hG0:Hid (W1.heap[w.heap.size]? = some (.cells ([.int .i64 0,.int .i64 0,.int .i64 0,.int .i64 0,.int .i64 0,.int .i64 0,.int .i64 0,.int .i64 0]:List Value).toArray 3 (0,0))):=by
    subst hW1
    show _=_
    exact heap_alloc_new w _
  have hs0:Hid (∀j v,[Value.int .i64 x][j]? = some v->W1.cell? ((⟨b,off,none⟩:Addr).add j)=some v):=XB (hW1▸Dr hx _)
  clear hW1
  go_enter Tryz.func124,Tryz.ntmps124
  go_wp2_with (first
    | (go_at_call 162;go_fit hm;rintro e w' ⟨rfl,hw⟩;rw [hw])
    | (refine wpList_copy_splice (o:=⟨some 33,_,_,_,_,_⟩) rfl (.tmp 31) (.tmp 32) 45 45 rfl 3 Tryz.underlying45 sz3 (some ⟨w.heap.size,0,none⟩) (some ⟨b,off,none⟩) 8 8 1 cap rfl rfl w.heap.size 0 [.int .i64 0,.int .i64 0,.int .i64 0,.int .i64 0,.int .i64 0,.int .i64 0,.int .i64 0,.int .i64 0] 3 hG0.out [.int .i64 x] rfl (fun _=>⟨rfl,_,rfl,hs0.out⟩) (by simp) (by simp [Value.oneCell']) w.heap.size w hB0.out (ACr _) ?_;intro w2 HG2 hB2))
  have hG:Hid (w2.heap[w.heap.size]? = some (.cells ([.int .i64 x,.int .i64 0,.int .i64 0,.int .i64 0,.int .i64 0,.int .i64 0,.int .i64 0,.int .i64 0]:List Value).toArray 3 (0,0))):=HG2.out
  clear HG2 hk hs0 hG0 hB0 hm
  refine wp_loop_rounds 4 ?_
  rw [rounds_succ]
  go_wp2_with (fail)
  refine Fa (by kernel_rfl) (g:=w.heap.size) (n:=8) (m:=1) (c:=1) (xi:=x) (zi:=0) (T:=3) (L:=[.int .i64 x,.int .i64 0,.int .i64 0,.int .i64 0,.int .i64 0,.int .i64 0,.int .i64 0,.int .i64 0]) (L':=[.int .i64 x,.int .i64 x,.int .i64 0,.int .i64 0,.int .i64 0,.int .i64 0,.int .i64 0,.int .i64 0]) _ rfl (fun _=>rfl) rfl rfl (by omega) (by omega) (by omega) rfl rfl rfl hG.out hB2 (ACr _) rfl ?_
  intro w3 hG3 hB3
  clear hG hB2
  have hG:=hG3
  have hB2:=hB3
  clear hG3 hB3
  simp only [Exit.inBlock,Exit.then,rounds_succ,val,Fv]
  go_wp2_with (fail)
  refine Fa (by kernel_rfl) (g:=w.heap.size) (n:=8) (m:=2) (c:=2) (xi:=x) (zi:=0) (T:=3) (L:=[.int .i64 x,.int .i64 x,.int .i64 0,.int .i64 0,.int .i64 0,.int .i64 0,.int .i64 0,.int .i64 0]) (L':=[.int .i64 x,.int .i64 x,.int .i64 x,.int .i64 x,.int .i64 0,.int .i64 0,.int .i64 0,.int .i64 0]) _ rfl (fun _=>rfl) rfl rfl (by omega) (by omega) (by omega) rfl rfl rfl hG.out hB2 (ACr _) rfl ?_
  intro w3 hG3 hB3
  clear hG hB2
  have hG:=hG3
  have hB2:=hB3
  clear hG3 hB3
  simp only [Exit.inBlock,Exit.then,rounds_succ,val,Fv]
  go_wp2_with (fail)
  refine Fa (by kernel_rfl) (g:=w.heap.size) (n:=8) (m:=4) (c:=4) (xi:=x) (zi:=0) (T:=3) (L:=[.int .i64 x,.int .i64 x,.int .i64 x,.int .i64 x,.int .i64 0,.int .i64 0,.int .i64 0,.int .i64 0]) (L':=[.int .i64 x,.int .i64 x,.int .i64 x,.int .i64 x,.int .i64 x,.int .i64 x,.int .i64 x,.int .i64 x]) _ rfl (fun _=>rfl) rfl rfl (by omega) (by omega) (by omega) rfl rfl rfl hG.out hB2 (ACr _) rfl ?_
  intro w3 hG3 hB3
  clear hG hB2
  have hG:=hG3
  have hB2:=hB3
  clear hG3 hB3
  simp only [Exit.inBlock,Exit.then,rounds_succ,val,Fv]
  go_wp2_with (fail)
  go_ret
  first
    | exact ⟨_,_,rfl,ACr _,hG.out,hB2⟩
    | exact ⟨_,rfl,ACr _,⟨_,hG.out⟩,hB2⟩
end Go.V.W
namespace Go.V.W
open Go.Proofs Go.RowKit Go.Shelf
theorem Ajf (x:Int) (n:Nat) (h1:1<=n) (h8:n<=8) (w:World) (b off cap:Nat) (hx:w.cell? ⟨b,off,none⟩=some (.int .i64 x)):Calls Tryz.prog 124 #[.slice (some ⟨b,off,none⟩) 1 cap,.int .i64 (n:Int)] w fun e w' => ∃g T,e=.returned (.slice (some ⟨g,0,none⟩) n n)/\w.heap.size<=g/\w'.heap[g]? = some (.cells (List.replicate n (.int .i64 x)).toArray T (0,0))/\Below w.heap.size w w':=by
  have:n=1\/n=2\/n=3\/n=4\/n=5\/n=6\/n=7\/n=8:=by omega
  rcases this with rfl | rfl | rfl | rfl | rfl | rfl | rfl | rfl
  · exact AB4 x w b off cap hx
  · exact ACm x w b off cap hx
  · exact ACk x w b off cap hx
  · exact AB1 x w b off cap hx
  · exact ACg x w b off cap hx
  · exact ACd x w b off cap hx
  · exact AB7 x w b off cap hx
  · exact ACa x w b off cap hx
theorem Acy {P:Program} {f:FuncId} (he:∀(args:Array Value) (w:World),(callFunc f args).run P w=.ok (.enter f args) w)
    (h:∀(x:Int) (n:Nat),1<=n->n<=8 -> ∀(w:World) (b off cap:Nat),w.cell? ⟨b,off,none⟩=some (.int .i64 x)->Calls P f #[.slice (some ⟨b,off,none⟩) 1 cap,.int .i64 (n:Int)] w fun e w' => ∃g T,e=.returned (.slice (some ⟨g,0,none⟩) n n)/\w.heap.size<=g/\w'.heap[g]? = some (.cells (List.replicate n (.int .i64 x)).toArray T (0,0))/\Below w.heap.size w w') :
    Aa P f ⟨[(.slice (.int .i64),false),(.int .i64,false)],[.slice (.int .i64)],true,Dq⟩:=by
  intro w ψ U vs d out hargs hU hψ hgl ho
  obtain ⟨l,n,u⟩:=d
  have ho:Dq (l,n,u)=some out:=ho
  unfold Dq at ho
  split at ho
  · rename_i hc
    simp only [ACo,decide_eq_true_eq] at hc
    obtain ⟨⟨hl,h1⟩,h8⟩:=hc
    have h1:1<=n:=h1
    have h8:n<=8:=h8
    have ho:=ACs ho
    subst ho
    obtain ⟨c1,r1,rfl,k2,c2,r2,rfl,k4,k5⟩:=hargs
    have k5:r2=[]:=k5
    subst k5
    have k4:c2=[.int .i64 n]:=k4
    subst k4
    obtain ⟨x,rfl⟩:∃x:Int,l=[x]:=by
      match l,hl with
      | [x],_=>exact ⟨x,rfl⟩
    simp only [Rep] at k2
    rcases k2 with ⟨_,k2⟩ | ⟨b,off,cap,rfl,kc,kS,kb,ke⟩
    · cases k2
    · have kx:=ke 0 (by simp)
      simp only [Rep,Nat.zero_mul,Nat.add_zero,List.get_eq_getElem,List.getElem_cons_zero,Kd.size] at kx
      have hcell:w.cell? ⟨b,off,none⟩=some (.int .i64 x):=by
        unfold Ai at kx
        split at kx
        · rename_i cs T fr hb
          simp only [World.cell?,hb]
          have h0:((cs.toList.drop off).take 1)[0]? = some (.int .i64 x):=by rw [kx];rfl
          rw [List.getElem?_take,List.getElem?_drop] at h0
          simpa using h0
        · cases kx
      have hn : @Eq Int n ((Int.toNat n:Nat):Int):=by omega
      have hcalls:=h x n.toNat (by omega) (by omega) w b off cap hcell
      rw [<- hn] at hcalls
      unfold BJ
      show match (callFunc f #[.slice (some ⟨b,off,none⟩) 1 cap,.int .i64 n]).run P w with
        | .ok (.value v) w'=>_
        | .ok (.enter f args) w'=>_
        | .ok (.row row args) w'=>_
        | _=>False
      rw [he]
      refine Calls.mono hcalls fun e w' hh => ?_
      obtain ⟨g,T,rfl,hg,hrow,bel⟩:=hh
      refine ⟨fun b=>if b=g then some (.res [.l]) else none,⟨bel.os,bel.tape,bel.output,bel.size,fun b hb _=>bel.block b hb,fun b z h => ?_,⟨[.slice (some ⟨g,0,none⟩) n.toNat n.toNat],rfl,?_⟩,trivial⟩⟩
      · split at h
        · rename_i e
          subst e
          exact ⟨.inl hg,C6.of hrow⟩
        · cases h
      · refine ⟨?_,rfl⟩
        have hlen:(List.replicate n.toNat x).length=n.toNat:=by simp
        refine .inr ⟨g,0,n.toNat,?_,?_,?_,⟨_,_,_,hrow,?_⟩,fun i hi => ?_⟩
        · show [Value.slice (some ⟨g,0,none⟩) n.toNat n.toNat]=[Value.slice (some ⟨g,0,none⟩) (List.replicate n.toNat x).length n.toNat]
          rw [hlen]
        · show (List.replicate n.toNat x).length<=n.toNat
          rw [hlen]
          exact ACr _
        · show (if g=g then some (Lab.res [.l]) else none)=some (.res ([]++[.l]))
          simp
        · simp [Kd.size]
        · have hi:i<(List.replicate n.toNat x).length:=hi
          show Ai w' g (0+i*1) 1=[.int .i64 ((List.replicate n.toNat x).get ⟨i,hi⟩)]
          rw [hlen] at hi
          unfold Ai
          rw [hrow]
          simp only [List.get_eq_getElem,List.getElem_replicate,List.drop_replicate,List.take_replicate]
          rw [show min 1 (n.toNat-(0+i*1))=1 by omega]
          rfl
  · cases ho
theorem An0:Aa Tryz.prog 124 ⟨[(.slice (.int .i64),false),(.int .i64,false)],[.slice (.int .i64)],true,Dq⟩:=
  Acy (enters_of Tryz.func124 (by kernel_rfl) rfl) Ajf
end Go.V.W
namespace Go.V.W
open Go.Proofs
theorem Aqe:Aa Tryz.prog 124 ZX:=An0
open Go.Proofs
theorem I1 (c:List UInt8):∀l:List UInt8,Lib.containsAny l c=l.any fun b=>c.contains b:=by
 intro l
 induction l with
 | nil=>simp [Lib.containsAny,Lib.indexAny]
 | cons b l ih=>
  unfold Lib.containsAny at ih |-
  unfold Lib.indexAny
  rw [List.any_cons,<- ih]
  by_cases hb:c.contains b=true
  ·have hb':b∈c:=by simpa using hb
   simp [hb']
  ·simp only [Bool.not_eq_true] at hb
   rw [hb]
   simp only [ACn,if_false,Bool.false_or]
   have:=Lib.indexAny_ge c l
   by_cases he:Lib.indexAny l c = -1
   ·simp [he]
   ·have e1:(Lib.indexAny l c == -1)=false:=by simpa using he
    rw [e1]
    simp only [ACn,if_false]
    have e2:(0<=Lib.indexAny l c):=by omega
    have e3:(0<=Lib.indexAny l c+1):=by omega
    simp [e2,e3]
open Go.Proofs
def Aws (a b:ByteArray):Bool := !Xr a (⟨#[]⟩:ByteArray)&&((a.data.toList.all (fun b=>JC b && !(b.toNat==35))&&decide ((a.size:Int)<=160))&&(!(a.data.toList.any (fun b=>((b.toNat:Int)==64)))&&(b.data.toList.all (fun b=>JC b && !(b.toNat==35))&&decide ((b.size:Int)<=200))))
def Awe (a b:ByteArray):Bool:=((decide ((a.size:Int)>=1)&&decide ((a.size:Int)<=160))&&(Rl a && !Lib.containsAny a.data.toList [35,64]))&&(decide ((b.size:Int)<=200)&&(Rl b && !Lib.containsAny b.data.toList [35]))
theorem Ae5 (l:List UInt8) (p q:UInt8->Bool):l.all (fun b=>p b && !q b)=(l.all p && !l.any q):=by
 induction l with
 | nil=>rfl
 | cons b l ih=>
  simp only [List.all_cons,List.any_cons,ih]
  cases p b<;>cases q b<;>cases l.all p<;>cases l.any q<;>rfl
theorem Axq (l:List UInt8) (p q:UInt8->Bool):l.any (fun b=>p b||q b)=(l.any p||l.any q):=by
 induction l with
 | nil=>rfl
 | cons b l ih=>
  simp only [List.any_cons,ih]
  cases p b<;>cases q b<;>cases l.any p<;>cases l.any q<;>rfl
theorem AAp (l:List UInt8):Lib.containsAny l [35]=l.any (fun b=>b.toNat==35):=by
 rw [I1]
 congr 1
 funext b
 simp only [List.contains_cons,List.contains_nil,Bool.or_false]
 rw [Bool.eq_iff_iff]
 simp only [beq_iff_eq]
 exact ⟨fun h=>by rw [h];rfl,fun h=>UInt8.toNat_inj.1 h⟩
theorem At5 (l:List UInt8):Lib.containsAny l [35,64]=(l.any (fun b=>b.toNat==35)||l.any (fun b=>((b.toNat:Int)==64))):=by
 rw [I1,<- Axq]
 congr 1
 funext b
 simp only [List.contains_cons,List.contains_nil,Bool.or_false]
 rw [Bool.eq_iff_iff]
 simp only [Bool.or_eq_true,beq_iff_eq]
 constructor
 ·rintro (h | h)
  ·left;rw [h];rfl
  ·right;rw [h];rfl
 ·rintro (h | h)
  ·left;exact UInt8.toNat_inj.1 h
  ·right
   have h64:b.toNat=64:=by omega
   exact UInt8.toNat_inj.1 (by rw [h64];rfl)
theorem Ade (a:ByteArray):Xr a (⟨#[]⟩:ByteArray) = !decide ((a.size:Int)>=1):=by
 unfold Xr
 have h1:a.toList=a.data.toList:=Lib.toList_data a
 have h2:(⟨#[]⟩:ByteArray).toList=[]:=Lib.toList_data _
 have h3:a.data.toList.length=a.size:=by simp
 rw [h1,h2]
 cases hl:a.data.toList with
 | nil=>
  rw [hl] at h3
  simp only [List.length_nil] at h3
  simp [<- h3]
 | cons x l=>
  rw [hl] at h3
  simp only [List.length_cons] at h3
  have:decide ((a.size:Int)>=1)=true:=by simp;omega
  rw [this]
  rfl
theorem same (a b:ByteArray):Aws a b=Awe a b:=by
 unfold Aws Awe
 rw [Ade,Ae5,Ae5,AAp,At5]
 unfold Rl
 cases decide ((a.size:Int)>=1)<;>cases a.data.toList.all JC<;>cases a.data.toList.any (fun b=>b.toNat==35)<;>cases a.data.toList.any (fun b=>((b.toNat:Int)==64))<;>cases decide ((a.size:Int)<=160)<;>cases decide ((b.size:Int)<=200)<;>cases b.data.toList.all JC<;>cases b.data.toList.any (fun b=>b.toNat==35)<;>rfl
open Go.Proofs
theorem Dj {n:Nat} (h:n<=lim):n<=maxLen:=by unfold lim at h;unfold maxLen;omega
open Go.Proofs
def UF (p:Nat->Bool):Nat->Nat->Bool
 | 0,_=>true
 | m+1,i=>p i&&UF p m (i+1)
theorem LU {p:Nat->Bool}:∀{m i:Nat},UF p m i=true ↔ ∀j,i<=j->j<i+m->p j=true:=by
 intro m
 induction m with
 | zero=>intro i;simp only [UF,true_iff];intro j h1 h2;omega
 | succ m ih=>
  intro i
  simp only [UF,ACo,ih]
  constructor
  ·rintro ⟨h1,h2⟩ j h3 h4
   by_cases e:j=i
   ·subst e;exact h1
   ·exact h2 j (by omega) (by omega)
  ·intro h
   exact ⟨h i (ACr _) (by omega),fun j h1 h2=>h j (by omega) (by omega)⟩
theorem LW {H O:Type} {L:Nat->H->Option O} {r:(H->Option O)->H->Option O} (hL:∀k d,L (k+1) d=r (L k) d) {n:Nat} {mk:Nat->H} {p:Nat->Bool} {o f:O}
  (hr:∀back i,i<n->r back (mk i)=if p i=true then back (mk (i+1)) else some o) (hf:∀back,r back (mk n)=some f) :
  ∀k i,i<=n->n<=i+k->L (k+1) (mk i)=some (if UF p (n-i) i=true then f else o):=by
 intro k
 induction k with
 | zero=>
  intro i h1 h2
  have e:i=n:=by omega
  subst e
  rw [hL,hf,Nat.sub_self]
  rfl
 | succ k ih=>
  intro i h1 h2
  by_cases h:i<n
  ·rw [hL,hr _ i h,show n-i=(n-(i+1))+1 by omega]
   simp only [UF]
   by_cases hp:p i=true
   ·simp only [hp,if_true,Bool.true_and]
    exact ih (i+1) (by omega) (by omega)
   ·simp only [Bool.not_eq_true] at hp
    simp only [hp,ACn,if_false,Bool.false_and]
  ·have e:i=n:=by omega
   subst e
   rw [hL,hf,Nat.sub_self]
   rfl
theorem Kk {i:Nat} (h:0<i) (hn:i<=maxLen):IntKind.wrap .i64 ((i:Int)-1)=((i-1:Nat):Int):=by
 unfold maxLen at hn
 rw [Go.IntWalk.i64_in _ (by omega)]
 omega
theorem AD {i n:Nat} (h:i<n):decide ((i:Int)<(n:Int))=true:=by simp;omega
theorem A4 (n:Nat):decide ((n:Int)<(n:Int))=false:=by simp
theorem Ado {i:Nat}:decide ((i:Int)>(0:Int))=decide (0<i):=by simp
theorem DY {a b:Bool} (h:a=true↔b=true):a=b:=by cases a<;>cases b<;>simp_all
theorem Aql {e:Kd} (l:List e.den) (q:e.den->Bool):UF (fun i=>q (at_ e l i)) l.length 0=l.all q:=by
 apply DY
 rw [LU,List.all_eq_true]
 constructor
 ·intro h x hx
  obtain ⟨i,hi,rfl⟩:=List.getElem_of_mem hx
  have:=h i (by omega) (by omega)
  rw [Aw hi] at this
  exact this
 ·intro h j _ hj
  have hj:j<l.length:=by omega
  rw [Aw hj]
  exact h _ (ACw hj)
theorem X4:∀l:List Int,E4 l=true ↔ ∀j,0<j->j<l.length->at_ I l (j-1)<at_ I l j:=by
 intro l
 induction l with
 | nil=>simp only [E4,true_iff];intro j _ h;exact absurd h (by simp)
 | cons a l ih=>
  cases l with
  | nil=>simp only [E4,true_iff];intro j h1 h2;simp only [List.length_cons,List.length_nil] at h2;omega
  | cons b l=>
   simp only [E4,ACo,ih,decide_eq_true_eq]
   constructor
   ·rintro ⟨h1,h2⟩ j h3 h4
    by_cases e:j=1
    ·subst e;exact h1
    ·have:=h2 (j-1) (by omega) (by simp only [List.length_cons] at h4 |-;omega)
     obtain ⟨k,rfl⟩:∃k,j=k+2:=⟨j-2,by omega⟩
     exact this
   ·intro h
    refine ⟨h 1 (by omega) (by simp),fun j h1 h2 => ?_⟩
    have:=h (j+1) (by omega) (by simp only [List.length_cons] at h2 |-;omega)
    obtain ⟨k,rfl⟩:∃k,j=k+1:=⟨j-1,by omega⟩
    exact this
theorem X8:∀l:List E,Ek l=true ↔ ∀j,0<j->j<l.length->Ep (at_ Aj l (j-1)) (at_ Aj l j)=true:=by
 intro l
 induction l with
 | nil=>simp only [Ek,true_iff];intro j _ h;exact absurd h (by simp)
 | cons a l ih=>
  cases l with
  | nil=>simp only [Ek,true_iff];intro j h1 h2;simp only [List.length_cons,List.length_nil] at h2;omega
  | cons b l=>
   simp only [Ek,ACo,ih]
   constructor
   ·rintro ⟨h1,h2⟩ j h3 h4
    by_cases e:j=1
    ·subst e;exact h1
    ·have:=h2 (j-1) (by omega) (by simp only [List.length_cons] at h4 |-;omega)
     obtain ⟨k,rfl⟩:∃k,j=k+2:=⟨j-2,by omega⟩
     exact this
   ·intro h
    refine ⟨h 1 (by omega) (by simp),fun j h1 h2 => ?_⟩
    have:=h (j+1) (by omega) (by simp only [List.length_cons] at h2 |-;omega)
    obtain ⟨k,rfl⟩:∃k,j=k+1:=⟨j-1,by omega⟩
    exact this
theorem UX (x lo hi:Int) (u:Unit):CN (x,lo,hi,u)=(inB lo hi x,()):=by
 unfold CN inB
 by_cases h:lo<=x<;>simp [h]
theorem OX (x lo hi:Int) (u:Unit):Ju (x,lo,hi,u)=(inB lo hi x,()):=by
 unfold Ju inB
 by_cases h:lo<=x<;>simp [h]
theorem XZ (a b:E) (u:Unit):IF (a,b,u)=(Ep a b,()):=by
 obtain ⟨a1,a2,_⟩:=a
 obtain ⟨b1,b2,_⟩:=b
 unfold IF Ep
 by_cases h:a1<b1
 ·simp [h]
 ·by_cases h2:a1=b1<;>simp [h,h2]
theorem Auu (a b:Int) (u:Unit):OY (a,b,u)=(if a<b then -1 else if b<a then 1 else 0,()):=by
 unfold OY JN
 by_cases h:a<b
 ·simp [h]
 ·by_cases h2:b<a<;>simp [h,h2]
theorem Rq (d) (r) (h:Ef d=some r):∃N,Vz N d=some r:=by
 obtain ⟨l,_⟩:=d
 unfold Ef at h
 split at h
 ·rename_i hl
  have hl:l.length<=lim:=of_decide_eq_true hl
  have hmx:=Dj hl
  have h:=ACs h
  subst h
  refine ⟨l.length+1,?_⟩
  unfold Vz
  by_cases hz:l.length=0
  ·have:l=[]:=List.length_eq_zero_iff.1 hz
   subst this
   rfl
  ·have:=LW (L:=fun k d=>Qw (l.length+1) k d) (r:=JZ (l.length+1)) (fun _ _=>rfl) (n:=l.length-1) (mk:=fun i=>(l,((i+1:Nat):Int),())) (p:=fun i=>decide (at_ I l i<at_ I l (i+1))) (o:=.inl (false,())) (f:=.inr (.inl ()))
    (by
     intro back i hi
     have h1:i+1<l.length:=by omega
     have h2:i<l.length:=by omega
     unfold JZ
     simp only [AD h1,if_true,Kk (show 0<i+1 by omega) (show i+1<=maxLen by omega),Ag h1,BK h1 hmx,Nat.add_sub_cancel,Ag h2,Int.toNat_natCast]
     by_cases hc:at_ I l i<at_ I l (i+1)
     ·have hc':¬(at_ I l i>=at_ I l (i+1)):=Int.not_le.2 hc
      simp only [hc,hc',decide_true,decide_false,if_true,ACn,if_false]
     ·have hc':(at_ I l i>=at_ I l (i+1)):=Int.not_lt.1 hc
      simp only [hc,hc',decide_true,decide_false,if_true,ACn,if_false])
    (by
     intro back
     unfold JZ
     have e:l.length-1+1=l.length:=by omega
     simp only [e,A4,ACn,if_false]) l.length 0 (by omega) (by omega)
   simp only [Nat.zero_add,Int.natCast_one] at this
   simp only [this,Nat.sub_zero]
   have e:UF (fun i=>decide (at_ I l i<at_ I l (i+1))) (l.length-1) 0=E4 l:=by
    apply DY
    rw [LU,X4]
    simp only [decide_eq_true_eq]
    constructor
    ·intro h j h1 h2
     have:=h (j-1) (by omega) (by omega)
     rwa [Nat.sub_add_cancel h1] at this
    ·intro h j h1 h2
     exact h (j+1) (by omega) (by omega)
   simp only [e]
   cases E4 l<;>rfl
 ·cases h
theorem Tv (d) (r) (h:CQ d=some r):∃N,UI N d=some r:=by
 obtain ⟨l,lo,hi,_⟩:=d
 unfold CQ at h
 split at h
 ·rename_i hl
  have hl:l.length<=lim:=of_decide_eq_true hl
  have hmx:=Dj hl
  have h:=ACs h
  subst h
  refine ⟨l.length+1,?_⟩
  unfold UI
  have:=LW (L:=Qq (l.length+1)) (r:=KB (l.length+1)) (fun _ _=>rfl) (n:=l.length) (mk:=fun i=>(lo,hi,l,(l.length:Int),(i:Int),())) (p:=fun i=>inB lo hi (at_ I l i)) (o:=.inl (false,())) (f:=.inr (.inl ()))
   (by
    intro back i hi'
    unfold KB
    simp only [AD hi',if_true,Ag hi',Int.toNat_natCast,BK hi' hmx,OX]
    cases hb:inB lo hi (at_ I l i)<;>rfl)
   (by intro back;unfold KB;simp only [A4,ACn,if_false]) l.length 0 (by omega) (by omega)
  simp only [Int.natCast_zero] at this
  simp only [this,Nat.sub_zero,Aql (e:=I) l (inB lo hi)]
  cases (l.all (inB lo hi))<;>rfl
 ·cases h
def SV:List Int->List Int->Option Int
 | [],_=>none
 | _::_,[]=>some 1
 | a::l,b::m=>if a<b then some (-1) else if b<a then some 1 else SV l m
theorem Axx:∀l m:List Int,BO l m=match SV l m with
  | some r=>r
  | none=>if l.length<m.length then -1 else 0:=by
 intro l
 induction l with
 | nil=>intro m;cases m<;>simp [BO,SV]
 | cons a l ih=>
  intro m
  cases m with
  | nil=>simp [BO,SV]
  | cons b m=>
   simp only [BO,SV]
   by_cases ha:a<b
   ·simp [ha]
   ·by_cases hb:b<a
    ·simp [ha,hb]
    ·simp only [ha,hb,if_false,ih m,List.length_cons,Nat.add_lt_add_iff_right]
theorem ZB (N:Nat) (l m:List Int) (hl:l.length<=lim) (hm:m.length<=lim):∀n i,l.length<=i+n->i<=l.length->i<=m.length->It N (n+1) (l,m,l,(l.length:Int),(i:Int),()) = 
  match SV (l.drop i) (m.drop i) with
  | some r=>some (.inl (r,()))
  | none=>some (.inr (.inl (l,m,()))):=by
 have hmx:=Dj hl
 intro n
 induction n with
 | zero=>
  intro i h1 h2 h3
  have e:i=l.length:=by omega
  subst e
  rw [ACu (ACr l.length)]
  simp [It,H8,SV]
 | succ n ih=>
  intro i h1 h2 h3
  by_cases hi:i<l.length
  ·show H8 N (It N (n+1)) (l,m,l,(l.length:Int),(i:Int),())=_
   unfold H8
   simp only [AD hi,if_true,Ag hi,Int.toNat_natCast,BK hi hmx]
   rw [ACv hi]
   by_cases hi':i<m.length
   ·have hge:decide ((i:Int)>=(m.length:Int))=false:=by simp;omega
    rw [ACv hi']
    simp only [hge,ACn,if_false,Ag hi',if_true,Auu,Aw (e:=I) hi,Aw (e:=I) (l:=m) hi',List.get_eq_getElem,SV]
    by_cases ha:l[i]<m[i]
    ·simp [ha]
    ·by_cases hb:m[i]<l[i]
     ·simp [ha,hb]
     ·simp only [ha,hb,if_false,bne_self_eq_false,ACn]
      exact ih (i+1) (by omega) (by omega) (by omega)
   ·have hge:decide ((i:Int)>=(m.length:Int))=true:=by simp;omega
    rw [ACu (Nat.le_of_not_lt hi')]
    simp only [hge,if_true,SV]
  ·have e:i=l.length:=by omega
   subst e
   rw [ACu (ACr l.length)]
   simp [It,H8,SV]
theorem Xi (d) (r) (h:D9 d=some r):∃N,WB N d=some r:=by
 obtain ⟨l,m,_⟩:=d
 unfold D9 at h
 split at h
 ·rename_i hl
  simp only [ACo] at hl
  have hm:m.length<=lim:=of_decide_eq_true hl.2
  have hl:l.length<=lim:=of_decide_eq_true hl.1
  have h:=ACs h
  subst h
  refine ⟨l.length+1,?_⟩
  unfold WB
  have:=ZB (l.length+1) l m hl hm l.length 0 (by omega) (by omega) (by omega)
  simp only [Int.natCast_zero,List.drop_zero] at this
  simp only [this,Axx]
  cases SV l m with
  | some r=>rfl
  | none=>
   by_cases hlt:l.length<m.length
   ·have:decide ((l.length:Int)<(m.length:Int))=true:=by simp;omega
    simp only [Option.bind_some,this,if_true,hlt]
   ·have:decide ((l.length:Int)<(m.length:Int))=false:=by simp;omega
    simp only [Option.bind_some,this,ACn,if_false,hlt]
 ·cases h
theorem RY (n:Int) (l:List E):UF (fun i=>BI n (at_ Aj l i)&&(!decide (0<i)||Ep (at_ Aj l (i-1)) (at_ Aj l i))) l.length 0=(l.all (BI n)&&Ek l):=by
 rw [<- Aql (e:=Aj) l (BI n)]
 apply DY
 rw [ACo,LU,LU,X8]
 simp only [ACo,Bool.or_eq_true,Bool.not_eq_true',decide_eq_false_iff_not]
 constructor
 ·intro h
  exact ⟨fun j h1 h2=>(h j h1 h2).1,fun j h1 h2=>((h j (by omega) (by omega)).2).resolve_left (by omega)⟩
 ·rintro ⟨h1,h2⟩ j h3 h4
  refine ⟨h1 j h3 h4,?_⟩
  by_cases h0:0<j
  ·exact .inr (h2 j h0 (by omega))
  ·exact .inl h0
theorem AB3 (a b:E):decide (BO [a.1,a.2.1] [b.1,b.2.1]>=0) = !Ep a b:=by
 obtain ⟨a1,a2,_⟩:=a
 obtain ⟨b1,b2,_⟩:=b
 simp only [BO,Ep]
 by_cases h1:a1<b1
 ·simp [h1]
 ·by_cases h2:b1<a1
  ·have:¬a1=b1:=by omega
   simp [h1,h2,this]
  ·have e:a1=b1:=by omega
   subst e
   by_cases h3:a2<b2
   ·simp [h3]
   ·by_cases h4:b2<a2<;>simp [h3,h4]
theorem Asj (n a b:Int):(inB 0 (n-1) a&&inB 0 (n-1) b&&decide (a<b))=(decide (0<=a)&&decide (a<b)&&decide (b<n)):=by
 apply DY
 simp only [inB,ACo,decide_eq_true_eq]
 omega
theorem ABy (a b:Int):okL [a,b]=true:=decide_eq_true (show 2<=lim by unfold lim;omega)
theorem WZ (d) (r) (h:Bt d=some r):∃N,Vx N d=some r:=by
 obtain ⟨⟨n,l,u⟩,_⟩:=d
 unfold Bt at h
 split at h
 ·rename_i hl
  have hl:l.length<=lim:=of_decide_eq_true hl
  have hmx:=Dj hl
  have h:=ACs h
  subst h
  refine ⟨l.length+1,?_⟩
  unfold Vx
  simp only [OX,A9]
  cases hn:inB 0 8 n with
  | false=>
   simp only [inB] at hn
   simp only [Bool.not_false,if_true,hn,Bool.false_and]
  | true=>
   have hn':=hn
   simp only [inB] at hn'
   simp only [Bool.not_true,ACn,if_false,hn',Bool.true_and]
   have:=LW (L:=QM (l.length+1)) (r:=KK (l.length+1)) (fun _ _=>rfl) (n:=l.length) (mk:=fun i=>((n,l,u),l,(l.length:Int),(i:Int),())) (p:=fun i=>BI n (at_ Aj l i)&&(!decide (0<i)||Ep (at_ Aj l (i-1)) (at_ Aj l i))) (o:=.inl (false,())) (f:=.inr (.inl ()))
    (by
     intro back i hi
     unfold KK
     simp only [AD hi,if_true,Ag hi,Int.toNat_natCast,BK hi hmx,Ado]
     by_cases c1:(at_ Aj l i).1<0
     ·have c1':¬(0<=(at_ Aj l i).1):=Int.not_le.2 c1
      simp only [c1,decide_true,if_true,BI,c1',decide_false,Bool.false_and,ACn,if_false]
     ·have c1':(0<=(at_ Aj l i).1):=Int.not_lt.1 c1
      by_cases c2:(at_ Aj l i).1<(at_ Aj l i).2.1
      ·have c2':¬((at_ Aj l i).1>=(at_ Aj l i).2.1):=Int.not_le.2 c2
       by_cases c3:(at_ Aj l i).2.1<n
       ·have c3':¬((at_ Aj l i).2.1>=n):=Int.not_le.2 c3
        by_cases h0:0<i
        ·have h1:i-1<l.length:=by omega
         simp only [c1,c1',c2,c2',c3,c3',BI,decide_true,decide_false,if_true,if_false,ACn,Bool.true_and,h0,Kk h0 (show i<=maxLen by omega),Ag h1,Int.toNat_natCast,Bool.not_true,Bool.false_or,D9,ABy,Option.bind_some,AB3]
         cases Ep (at_ Aj l (i-1)) (at_ Aj l i)<;>rfl
        ·simp only [c1,c1',c2,c2',c3,c3',BI,decide_true,decide_false,if_true,if_false,ACn,Bool.true_and,h0,Bool.not_false,Bool.true_or]
       ·have c3':((at_ Aj l i).2.1>=n):=Int.not_lt.1 c3
        simp only [c1,c1',c2,c2',c3,c3',BI,decide_true,decide_false,if_true,if_false,ACn,Bool.and_false,Bool.false_and]
      ·have c2':((at_ Aj l i).1>=(at_ Aj l i).2.1):=Int.not_lt.1 c2
       simp only [c1,c1',c2,c2',BI,decide_true,decide_false,if_true,if_false,ACn,Bool.and_false,Bool.false_and])
    (by intro back;unfold KK;simp only [A4,ACn,if_false]) l.length 0 (by omega) (by omega)
   simp only [Int.natCast_zero] at this
   simp only [this,Nat.sub_zero,RY]
   cases (l.all (BI n)&&Ek l)<;>rfl
 ·cases h
theorem Aaw (d) (r) (h:Bt d=some r):∃N,WA N d=some r:=by
 obtain ⟨⟨n,l,u⟩,_⟩:=d
 unfold Bt at h
 split at h
 ·rename_i hl
  have hl:l.length<=lim:=of_decide_eq_true hl
  have hmx:=Dj hl
  have h:=ACs h
  subst h
  refine ⟨l.length+1,?_⟩
  unfold WA
  have:=LW (L:=QS (l.length+1)) (r:=KF (l.length+1)) (fun _ _=>rfl) (n:=l.length) (mk:=fun i=>((n,l,u),(i:Int),())) (p:=fun i=>(inB 0 (IntKind.wrap .i64 (n-1)) (at_ Aj l i).1&&inB 0 (IntKind.wrap .i64 (n-1)) (at_ Aj l i).2.1&&decide ((at_ Aj l i).1<(at_ Aj l i).2.1))&&(!decide (0<i)||Ep (at_ Aj l (i-1)) (at_ Aj l i))) (o:=.inl (false,())) (f:=.inr (.inl ((n,l,u),())))
    (by
     intro back i hi
     unfold KF
     simp only [AD hi,if_true,Ag hi,Int.toNat_natCast,BK hi hmx,Ado,UX,XZ]
     cases c1:inB 0 (IntKind.wrap .i64 (n-1)) (at_ Aj l i).1 with
     | false=>rfl
     | true=>
      cases c2:inB 0 (IntKind.wrap .i64 (n-1)) (at_ Aj l i).2.1 with
      | false=>rfl
      | true=>
       by_cases c3:(at_ Aj l i).1<(at_ Aj l i).2.1
       ·have c3':¬((at_ Aj l i).1>=(at_ Aj l i).2.1):=Int.not_le.2 c3
        by_cases h0:0<i
        ·have h1:i-1<l.length:=by omega
         simp only [c3,c3',decide_true,decide_false,if_true,if_false,ACn,Bool.true_and,h0,Kk h0 (show i<=maxLen by omega),Ag h1,Int.toNat_natCast,Bool.not_true,Bool.false_or]
         cases Ep (at_ Aj l (i-1)) (at_ Aj l i)<;>rfl
        ·simp only [c3,c3',decide_true,decide_false,if_true,if_false,ACn,Bool.true_and,h0,Bool.not_false,Bool.true_or,Bool.not_true]
       ·have c3':((at_ Aj l i).1>=(at_ Aj l i).2.1):=Int.not_lt.1 c3
        simp only [c3,c3',decide_true,decide_false,if_true,if_false,ACn,Bool.true_and,Bool.false_and,Bool.not_true])
    (by intro back;unfold KF;simp only [A4,ACn,if_false]) l.length 0 (by omega) (by omega)
  simp only [Int.natCast_zero] at this
  simp only [this,Nat.sub_zero,A9]
  cases hn:inB 0 8 n with
  | false=>
   have hn':=hn
   simp only [inB] at hn'
   simp only [hn',Bool.false_and]
   split<;>simp [UX,hn]
  | true=>
   have hn':=hn
   simp only [inB] at hn'
   simp only [hn',Bool.true_and]
   simp only [ACo,decide_eq_true_eq] at hn'
   have hw:IntKind.wrap .i64 (n-1)=n-1:=BY _ (by omega) (by omega)
   have hp:(fun i=>(inB 0 (IntKind.wrap .i64 (n-1)) (at_ Aj l i).1&&inB 0 (IntKind.wrap .i64 (n-1)) (at_ Aj l i).2.1&&decide ((at_ Aj l i).1<(at_ Aj l i).2.1))&&(!decide (0<i)||Ep (at_ Aj l (i-1)) (at_ Aj l i)))=(fun i=>BI n (at_ Aj l i)&&(!decide (0<i)||Ep (at_ Aj l (i-1)) (at_ Aj l i))):=by
    funext i
    congr 1
    rw [hw]
    exact Asj n _ _
   simp only [hp,RY]
   cases (l.all (BI n)&&Ek l)<;>simp [UX,hn]
 ·cases h
open Go.Proofs
theorem Et {α:Type} {l:List α} (h:l.length<=1048576):okL l=true:=decide_eq_true (by unfold lim;omega)
theorem DG {n:Int} {l:List E} {u:Unit} (h:A9 (n,l,u)=true):0<=n/\n<=8:=by
 unfold A9 at h
 simp only [ACo,decide_eq_true_eq] at h
 exact ⟨h.1.1.1,h.1.1.2⟩
open Go.Proofs
theorem GT {α:Type} {l:List α} (h:okL l=true):l.length<=lim:=of_decide_eq_true h
open Go.Proofs
theorem Ahn {e:Kd} {l:List e.den} {q:e.den->Bool} (h:l.all q=true) {i:Nat} (hi:i<l.length):q (at_ e l i)=true:=by
 rw [Aw hi]
 exact List.all_eq_true.1 h _ (List.get_mem l ⟨i,hi⟩)
theorem Gs {H O:Type} {L:Nat->H->Option O} {r:(H->Option O)->H->Option O} (hL:∀k d,L (k+1) d=r (L k) d) {e:Kd} (l:List e.den) {mk:Nat->H} {q:e.den->Bool} {o:Nat->O} {f:O}
  (hr:∀back i,i<l.length->r back (mk i)=if q (at_ e l i)=true then some (o i) else back (mk (i+1))) (hf:∀back,r back (mk l.length)=some f) :
  ∀k i,i<=l.length->l.length<=i+k->L (k+1) (mk i)=some (match ER q (l.drop i) i with | some j=>o j | none=>f):=by
 intro k
 induction k with
 | zero=>
  intro i h1 h2
  have e:i=l.length:=by omega
  subst e
  rw [hL,hf,ACu (ACr _)]
  rfl
 | succ k ih=>
  intro i h1 h2
  by_cases h:i<l.length
  ·rw [hL,hr _ i h,ACv h]
   simp only [ER]
   have e:at_ e l i=l[i]:=Aw h
   rw [e]
   by_cases hq:q l[i]=true
   ·simp only [hq,if_true]
   ·simp only [hq,if_false]
    exact ih (i+1) (by omega) (by omega)
  ·have e:i=l.length:=by omega
   subst e
   rw [hL,hf,ACu (ACr _)]
   rfl
theorem JY {α:Type} (q:α->Bool):∀(l:List α) (i:Nat),decide (P4 (ER q l i)>=0)=l.any q:=by
 intro l
 induction l with
 | nil=>intro i;rfl
 | cons x l ih=>
  intro i
  simp only [ER,List.any_cons]
  by_cases h:q x=true
  ·simp [h,P4]
  ·have h':q x=false:=by simpa using h
   simp only [h,if_false,h',Bool.false_or,ih]
   exact ih (i+1)
theorem Aub {l:List (List Int)} (h:I6 l=true):okL l=true/\l.all okL=true:=by
 unfold I6 at h
 simpa only [ACo] using h
theorem Abp {l:List (List Int)} (h1:l.length<=1048576) (h2:l.all (fun x=>decide (x.length<=1048576))=true):I6 l=true:=by
 unfold I6
 rw [ACo]
 exact ⟨Et h1,List.all_eq_true.2 fun x hx=>Et (of_decide_eq_true (List.all_eq_true.1 h2 x hx))⟩
open Go.Proofs
theorem Am4 {n:Nat} {e:E} (h:BI (n:Int) e=true):∃a b:Nat,a<b/\b<n/\e=((a:Int),(b:Int),()):=by
 obtain ⟨h1,h2,h3,h4⟩:=F7 h
 exact ⟨_,_,h1,h2,by rw [<- h3,<- h4]⟩
theorem Aq8 (n:Nat):List.replicate n (0:Int)=toI (List.replicate n 0):=by simp [toI]
theorem AN (y:Nat):decide (0<=(y:Int))=true:=by simp
theorem Am7 (N:Nat) (n:Nat) (hn:n<=8) (z:Nt) (u:Unit) (es:List E) (hl:es.length<=lim) (he:es.all (BI (n:Int))=true):∀k j (ms:List Nat),okN n ms->es.length<=j+k->j<=es.length ->
  CC N (k+1) (z,(toI ms,u),es,(es.length:Int),(j:Int),())=some (.inl (z,(toI ((es.drop j).foldl WR ms),u),())):=by
 intro k
 induction k with
 | zero=>
  intro j ms hm h1 h2
  have e:j=es.length:=by omega
  subst e
  rw [ACu (ACr _)]
  simp [CC,C4]
 | succ k ih=>
  intro j ms hm h1 h2
  by_cases hj:j<es.length
  ·have hee:BI (n:Int) (at_ Aj es j)=true:=Ahn (e:=Aj) he hj
   have hat:at_ Aj es j=es[j]:=Aw (e:=Aj) hj
   obtain ⟨a,b,hab,hb,hx⟩:=Am4 hee
   have k1:=Aeo hn hm hee
   have ha8:a<8:=by omega
   have hb8:b<8:=by omega
   have o1:=WQ hm (show a<n by omega) hb8
   show C4 N (CC N (k+1)) (z,(toI ms,u),es,(es.length:Int),(j:Int),())=_
   unfold C4
   have i1:Ak (a:Int) ms.length=true:=Ag (by rw [hm.1];omega)
   have i2:Ak (b:Int) ms.length=true:=Ag (by rw [hm.1];omega)
   have p1:=CL hb8
   have p2:=CL ha8
   simp only [AD hj,if_true,Ag hj,Int.toNat_natCast,BK hj (Dj hl),hx,Vm,i1,i2,AN,GO hb8,GO ha8,Arz,QL (hm.2 a) p1,Adt,List.length_set]
   have hb2:(ms.set a (ms.getD a 0|||2 ^ b)).getD b 0<256:=o1.2 b
   simp only [QL hb2 p2,Adt]
   rw [ACv hj,List.foldl_cons,<- hat,hx]
   have hadd:WR ms ((a:Int),(b:Int),())=(ms.set a (ms.getD a 0|||2 ^ b)).set b ((ms.set a (ms.getD a 0|||2 ^ b)).getD b 0|||2 ^ a):=by
    simp only [WR,orN,Int.toNat_natCast]
   rw [hx] at k1
   rw [hadd] at k1 |-
   exact ih (j+1) _ k1 (by omega) (by omega)
  ·have e:j=es.length:=by omega
   subst e
   rw [ACu (ACr _)]
   simp [CC,C4]
theorem Af8 (d) (r) (h:DP d=some r):∃N,F3 N d=some r:=by
 obtain ⟨⟨n,es,u⟩,w⟩:=d
 unfold DP at h
 split at h
 ·rename_i hc
  simp only [ACo,decide_eq_true_eq] at hc
  obtain ⟨⟨⟨h0,h8⟩,hl⟩,he⟩:=hc
  have h:=ACs h
  subst h
  obtain ⟨m,rfl⟩:∃m:Nat,n=(m:Int):=⟨n.toNat,by omega⟩
  have hm8:m<=8:=by omega
  refine ⟨es.length+1,?_⟩
  unfold F3
  have hc:(decide (0<=(m:Int))&&decide ((m:Int)<=(m:Int))&&decide ((m:Int)<=(lim:Int)))=true:=by
   have a1:(m:Int)<=(lim:Int):=by unfold lim;omega
   simp only [a1,AN,decide_true,Bool.and_self,Int.le_refl]
  have:=Am7 (es.length+1) m hm8 (([]:List Int),()) () es (GT hl) he es.length 0 _ (Rz m) (by omega) (by omega)
  simp only [Int.natCast_zero,List.drop_zero] at this
  simp only [hc,if_true,Int.toNat_natCast,Aq8,this,Option.bind_some]
  rfl
 ·cases h
theorem Ail (d) (r) (h:E7 d=some r):∃N,FX N d=some r:=by
 obtain ⟨l,x,_⟩:=d
 unfold E7 at h
 split at h
 ·rename_i hl
  have hl:l.length<=lim:=GT hl
  have h:=ACs h
  subst h
  refine ⟨l.length+1,?_⟩
  unfold FX
  have:=Gs (L:=EZ (l.length+1)) (r:=DN (l.length+1)) (fun _ _=>rfl) (e:=I) l (mk:=fun i=>(l,x,(i:Int),())) (q:=fun y=>y==x) (o:=fun _=>.inl (true,())) (f:=.inr (.inl ()))
   (by
    intro back i hi
    unfold DN
    simp only [AD hi,if_true,Ag hi,Int.toNat_natCast,BK hi (Dj hl)])
   (by intro back;unfold DN;simp only [A4,ACn,if_false]) l.length 0 (by omega) (by omega)
  simp only [Int.natCast_zero,List.drop_zero] at this
  have hge:=JY (fun y=>y==x) l 0
  simp only [this,Option.bind_some,<- hge]
  cases ER (fun y=>y==x) l 0 with
  | none=>rfl
  | some j=>simp [P4]
 ·cases h
theorem Agl (d) (r) (h:KM d=some r):∃N,UL N d=some r:=by
 obtain ⟨l,x,_⟩:=d
 unfold KM at h
 split at h
 ·rename_i hl
  have hl:l.length<=lim:=GT hl
  have h:=ACs h
  subst h
  refine ⟨l.length+1,?_⟩
  unfold UL
  have:=Gs (L:=Q8 (l.length+1)) (r:=Kg (l.length+1)) (fun _ _=>rfl) (e:=I) l (mk:=fun i=>(l,x,(l.length:Int),(i:Int),())) (q:=fun y=>x==y) (o:=fun i=>.inl ((i:Int),())) (f:=.inr (.inl ()))
   (by
    intro back i hi
    unfold Kg
    simp only [AD hi,if_true,Ag hi,Int.toNat_natCast,BK hi (Dj hl)])
   (by intro back;unfold Kg;simp only [A4,ACn,if_false]) l.length 0 (by omega) (by omega)
  simp only [Int.natCast_zero,List.drop_zero] at this
  simp only [this,Option.bind_some]
  cases ER (fun y=>x==y) l 0<;>rfl
 ·cases h
theorem Xv (l:List Int) (x:Int) (u:Unit) (h:okL l=true):Jg 0 (l,x,u)=some (l.any (fun y=>y==x),()):=by
 unfold Jg KM
 simp only [h,if_true,Option.bind_some,JY]
 congr 3
 funext y
 exact DY (by rw [beq_iff_eq,beq_iff_eq];exact eq_comm)
theorem AI {lo hi x:Int}:inB lo hi x=true↔lo<=x/\x<=hi:=by simp [inB]
theorem FY {n:Int} {l:List E} {u:Unit} (h:A9 (n,l,u)=true):l.all (BI n)=true/\Ek l=true:=by
 unfold A9 at h
 simp only [ACo] at h
 exact ⟨h.1.2,h.2⟩
open Go.Proofs
theorem YV {l:List Int} (h:S6 l=true):l=toI (Ca l)/\okN l.length (Ca l)/\l.length<=8:=by
 unfold S6 at h
 simp only [ACo,decide_eq_true_eq,List.all_eq_true] at h
 refine ⟨?_,⟨by simp [Ca],fun x => ?_⟩,h.1⟩
 ·unfold toI Ca
  rw [List.map_map]
  have:∀m∈l,((fun m:Nat=>(m:Int))∘Int.toNat) m=m:=fun m hm=>by
   have:=h.2 m hm
   simp only [Function.comp]
   omega
  exact (List.map_congr_left this).trans (List.map_id' l) |>.symm
 ·unfold Ca
  simp only [ACy,List.getElem?_map]
  cases hx:l[x]? with
  | none=>simp
  | some m=>
   have:=h.2 m (List.mem_of_getElem? hx)
   simp only [Option.map_some,Option.getD_some]
   omega
theorem Sh {p:Nat->Nat->Bool} {x:Nat}:∀{m y:Nat},(Lh p x m y).length<=m:=by
 intro m
 induction m with
 | zero=>intro y;simp [Lh]
 | succ m ih=>
  intro y
  unfold Lh
  split
  ·have:=ih (y:=y+1);simp;omega
  ·have:=ih (y:=y+1);omega
theorem Bm {p q:Nat->Bool}:∀{k x:Nat},(∀y,x<=y->y<x+k->p y=q y)->Ap p k x=Ap q k x:=by
 intro k
 induction k with
 | zero=>intro x _;rfl
 | succ k ih=>
  intro x h
  simp only [Ap,h x (ACr _) (by omega),ih (x:=x+1) fun y h1 h2=>h y (by omega) (by omega)]
theorem Cs {p:Nat->Bool}:∀{k x:Nat} {z:Int},z∈Ap p k x ↔ ∃y:Nat,x<=y/\y<x+k/\p y=true/\z=(y:Int):=by
 intro k
 induction k with
 | zero=>intro x z;simp only [Ap,List.not_mem_nil,false_iff];rintro ⟨y,h1,h2,_⟩;omega
 | succ k ih=>
  intro x z
  unfold Ap
  by_cases h:p x=true
  ·rw [if_pos h,List.mem_cons,ih]
   constructor
   ·rintro (rfl | ⟨y,h1,h2,h3,h4⟩)
    ·exact ⟨x,ACr _,by omega,h,rfl⟩
    ·exact ⟨y,by omega,by omega,h3,h4⟩
   ·rintro ⟨y,h1,h2,h3,h4⟩
    by_cases e:y=x
    ·subst e;exact .inl h4
    ·exact .inr ⟨y,by omega,by omega,h3,h4⟩
  ·rw [if_neg h,ih]
   constructor
   ·rintro ⟨y,h1,h2,h3,h4⟩
    exact ⟨y,by omega,by omega,h3,h4⟩
   ·rintro ⟨y,h1,h2,h3,h4⟩
    by_cases e:y=x
    ·subst e;exact absurd h3 h
    ·exact ⟨y,by omega,by omega,h3,h4⟩
theorem C3 {p:Nat->Bool}:∀{k x:Nat},(Ap p k x).length<=k:=by
 intro k
 induction k with
 | zero=>intro x;simp [Ap]
 | succ k ih=>
  intro x
  unfold Ap
  split
  ·have:=ih (x:=x+1);simp;omega
  ·have:=ih (x:=x+1);omega
theorem An3 {p:Nat->Bool} {z:Nat}:∀{k y:Nat},z<y->LY (z:Int) (Ap p k y)=(z:Int)::Ap p k y:=by
 intro k
 induction k with
 | zero=>intro y _;rfl
 | succ k ih=>
  intro y h
  unfold Ap
  split
  ·have h1:¬(y:Int)<(z:Int):=by omega
   have h2:¬(y:Int)=(z:Int):=by omega
   simp only [LY,h1,h2,if_false]
  ·exact ih (by omega)
theorem Ao9 {p:Nat->Bool} {z:Nat}:∀{k x:Nat},x<=z->z<x+k->LY (z:Int) (Ap p k x)=Ap (fun y=>p y||decide (y=z)) k x:=by
 intro k
 induction k with
 | zero=>intro x h1 h2;omega
 | succ k ih=>
  intro x h1 h2
  by_cases e:x=z
  ·subst e
   have hc:Ap (fun y=>p y||decide (y=x)) k (x+1)=Ap p k (x+1):=Bm fun y h1 h2=>by
    have:¬y=x:=by omega
    simp [this]
   by_cases hp:p x=true
   ·simp only [Ap,hp,if_true,decide_true,Bool.or_self,hc,LY]
    have:¬(x:Int)<(x:Int):=by omega
    simp only [this,if_false,if_true]
   ·have hp':p x=false:=by simpa using hp
    simp only [Ap,hp',ACn,if_false,decide_true,Bool.or_true,if_true,hc]
    exact An3 (by omega)
  ·have hd:decide (x=z)=false:=by simp [e]
   have hlt:(x:Int)<(z:Int):=by omega
   by_cases hp:p x=true
   ·simp only [Ap,hp,if_true,hd,Bool.or_false,LY,hlt,ih (x:=x+1) (by omega) (by omega)]
   ·have hp':p x=false:=by simpa using hp
    simp only [Ap,hp',hd,Bool.or_false,ACn,if_false,ih (x:=x+1) (by omega) (by omega)]
theorem Lv {p:Nat->Bool} {n y:Nat} (hy:y<n):(Ap p n 0).any (fun z=>z==(y:Int))=p y:=by
 apply Bool.eq_iff_iff.2
 rw [List.any_eq_true]
 constructor
 ·rintro ⟨z,hz,h⟩
  obtain ⟨u,_,h2,h3,rfl⟩:=Cs.1 hz
  have:(u:Int)=(y:Int):=by simpa using h
  have:u=y:=by omega
  subst this
  exact h3
 ·intro h
  exact ⟨(y:Int),Cs.2 ⟨y,Nat.zero_le _,by omega,h,rfl⟩,by simp⟩
theorem Af2 {n:Nat} {es:List E} {x:Nat} (hx:x<n):PQ n es (x:Int)=Ap (fun y=>BH es (x:Int) (y:Int)||decide (y=x)) n 0:=by
 unfold PQ
 exact Ao9 (Nat.zero_le _) (by omega)
theorem X9 {p:Nat->Bool} {n:Nat}:∀z∈Ap p n 0,∃y:Nat,y<n/\z=(y:Int):=by
 intro z hz
 obtain ⟨y,_,h2,_,h4⟩:=Cs.1 hz
 exact ⟨y,by omega,h4⟩
theorem Sw {n x:Nat}:Ap (fun _=>false) n x=[]:=by
 induction n generalizing x with
 | zero=>rfl
 | succ n ih=>simp [Ap,ih]
def isM (n:Nat) (m:Nat) (p:Nat->Bool):Prop:=m<256 /\ ∀y,m.testBit y=(decide (y<n)&&p y)
theorem RJ (es:List E) {n:Nat} (h:es.all (BI (n:Int))=true) (x y:Nat):es.any (fun e=>isE e x y)=BH es (x:Int) (y:Int):=by
 unfold BH
 apply Bool.eq_iff_iff.2
 simp only [List.any_eq_true,isE,Bool.or_eq_true,ACo,decide_eq_true_eq,beq_iff_eq]
 constructor
 ·rintro ⟨e,he,h1⟩
  obtain ⟨k1,k2,k3,k4⟩:=F7 (List.all_eq_true.1 h e he)
  exact ⟨e,he,by omega⟩
 ·rintro ⟨e,he,h1⟩
  obtain ⟨k1,k2,k3,k4⟩:=F7 (List.all_eq_true.1 h e he)
  exact ⟨e,he,by omega⟩
theorem Adk {es:List E} {n:Nat} (h:es.all (BI (n:Int))=true) {x y:Nat} (hn:BH es (x:Int) (y:Int)=true):y<n:=by
 unfold BH at hn
 simp only [List.any_eq_true,Bool.or_eq_true,ACo,beq_iff_eq] at hn
 obtain ⟨e,he,h1⟩:=hn
 obtain ⟨k1,k2,k3,k4⟩:=F7 (List.all_eq_true.1 h e he)
 omega
theorem Y3 {p:Nat->Bool}:∀(a b x:Nat),Ap p (a+b) x=Ap p a x++Ap p b (x+a):=by
 intro a
 induction a with
 | zero=>intro b x;simp [Ap]
 | succ a ih=>
  intro b x
  rw [show a+1+b=(a+b)+1 by omega]
  simp only [Ap,ih,show x+1+a=x+(a+1) by omega]
  split<;>simp
theorem Alf {n m:Nat} {p:Nat->Bool} (hn:n<=8) (hm:isM n m p):Ap (fun y=>m.testBit y) 8 0=Ap p n 0:=by
 rw [show 8=n+(8-n) by omega,Y3]
 have h1:Ap (fun y=>m.testBit y) n 0=Ap p n 0:=Bm fun y _ h=>by
  rw [hm.2 y]
  have:y<n:=by omega
  simp [this]
 have h2:Ap (fun y=>m.testBit y) (8-n) (0+n)=[]:=by
  rw [<- Sw (n:=8-n) (x:=0+n)]
  exact Bm fun y h _=>by
   rw [hm.2 y]
   have:¬y<n:=by omega
   simp [this]
 rw [h1,h2,List.append_nil]
open Go.Proofs
theorem Acm (d) (r) (h:Dm d=some r):∃N,UG N d=some r:=by
 obtain ⟨g,a,b,_⟩:=d
 unfold Dm at h
 split at h
 ·rename_i hl
  have hl:g.2.1.length<=lim:=GT hl
  have h:=ACs h
  subst h
  refine ⟨g.2.1.length+1,?_⟩
  unfold UG
  have:=Gs (L:=Qz (g.2.1.length+1)) (r:=KA (g.2.1.length+1)) (fun _ _=>rfl) (e:=Aj) g.2.1 (mk:=fun i=>(a,b,g,(i:Int),())) (q:=fun e=>(e.1==a&&e.2.1==b)||(e.1==b&&e.2.1==a)) (o:=fun _=>.inl (true,())) (f:=.inr (.inl ()))
   (by
    intro back i hi
    unfold KA
    simp only [AD hi,if_true,Ag hi,Int.toNat_natCast,BK hi (Dj hl)]
    rcases Bool.eq_false_or_eq_true ((at_ Aj g.2.1 i).1==a) with c1 | c1<;>rcases Bool.eq_false_or_eq_true ((at_ Aj g.2.1 i).2.1==b) with c2 | c2<;>rcases Bool.eq_false_or_eq_true ((at_ Aj g.2.1 i).1==b) with c3 | c3<;>rcases Bool.eq_false_or_eq_true ((at_ Aj g.2.1 i).2.1==a) with c4 | c4 <;>
     simp only [c1,c2,c3,c4,if_true,if_false,ACn,Bool.and_true,Bool.and_false,Bool.or_true,Bool.or_false,Bool.true_or,Bool.or_self,Bool.and_self])
   (by intro back;unfold KA;simp only [A4,ACn,if_false]) g.2.1.length 0 (by omega) (by omega)
  simp only [Int.natCast_zero,List.drop_zero] at this
  have hge:=JY (fun e:E=>(e.1==a&&e.2.1==b)||(e.1==b&&e.2.1==a)) g.2.1 0
  simp only [this,Option.bind_some,BH,<- hge]
  cases ER (fun e:E=>(e.1==a&&e.2.1==b)||(e.1==b&&e.2.1==a)) g.2.1 0 with
  | none=>rfl
  | some j=>simp [P4]
 ·cases h
theorem RL (N:Nat) (g:Gr) (x:Int) (n:Nat) (hN:g.1=(n:Int)) (hn:n<=8) (ho:okL g.2.1=true):∀(k y f:Nat) (A:List Int),y+k=n->k<f->A.length+k<=1000 ->
  J8 N f (x,g,A,(y:Int),())=some (.inl (A++Ap (fun y=>BH g.2.1 x (y:Int)) k y,())):=by
 intro k
 induction k with
 | zero=>
  intro y f A h1 h2 h3
  obtain ⟨f,rfl⟩:∃m,f=m+1:=⟨f-1,by omega⟩
  have e:y=n:=by omega
  subst e
  simp [J8,Kh,Ap,hN]
 | succ k ih=>
  intro y f A h1 h2 h3
  obtain ⟨f,rfl⟩:∃m,f=m+1:=⟨f-1,by omega⟩
  have hy:y<n:=by omega
  show Kh N (J8 N f) (x,g,A,(y:Int),())=_
  unfold Kh
  have hw:IntKind.wrap .i64 ((y:Int)+1)=((y+1:Nat):Int):=by
   rw [BY _ (by omega) (by omega)]
   rfl
  have hle:decide (A.length+List.length [(y:Int)]<=lim)=true:=by
   unfold lim
   simp
   omega
  simp only [hN,AD hy,if_true,Dm,ho,Option.bind_some,hle,hw]
  unfold Ap
  by_cases hh:BH g.2.1 x (y:Int)=true
  ·rw [if_pos hh,if_pos hh,ih (y+1) f _ (by omega) (by omega) (by simp;omega)]
   simp
  ·rw [if_neg hh,if_neg hh]
   exact ih (y+1) f A (by omega) (by omega) (by omega)
theorem P5 (d) (r) (h:Dc d=some r):∃N,WG N d=some r:=by
 obtain ⟨g,x,_⟩:=d
 unfold Dc at h
 split at h
 ·rename_i hc
  simp only [ACo,decide_eq_true_eq] at hc
  obtain ⟨⟨h1,h2⟩,h3⟩:=hc
  have h:=ACs h
  subst h
  refine ⟨20,?_⟩
  unfold WG
  have:=RL 20 g x g.1.toNat (by omega) (by omega) h1 g.1.toNat 0 20 [] (by omega) (by omega) (by simp;omega)
  simp only [Int.natCast_zero,List.nil_append] at this
  simp only [this,Option.bind_some]
 ·cases h
def Oh (x:Int):List Int->Nat
 | []=>0
 | a::l=>if a<x then Oh x l+1 else 0
theorem Au3 (x:Int):∀l,Oh x l<=l.length:=by
 intro l
 induction l with
 | nil=>simp [Oh]
 | cons a l ih=>simp only [Oh];split<;>simp;omega
theorem Ags (x:Int):∀l:List Int,LY x l=if h:Oh x l<l.length then (if l[Oh x l]=x then l else l.take (Oh x l)++[x]++l.drop (Oh x l)) else l++[x]:=by
 intro l
 induction l with
 | nil=>rfl
 | cons a l ih=>
  simp only [LY,Oh]
  by_cases c:a<x
  ·simp only [c,if_true,ih,List.length_cons,Nat.add_lt_add_iff_right,List.getElem_cons_succ,List.take_succ_cons,List.drop_succ_cons]
   split
   ·split<;>simp
   ·simp
  ·by_cases c2:a=x
   ·simp [c,c2]
   ·simp [c,c2]
theorem Aic (N:Nat) (l:List Int) (x:Int) (hl:l.length<=1000):∀(k i f:Nat),i+k=l.length->k<f->Ke N f (l,x,(i:Int),())=some (.inl (l,x,((i+Oh x (l.drop i):Nat):Int),())):=by
 have hmx:l.length<=maxLen:=by unfold maxLen;omega
 intro k
 induction k with
 | zero=>
  intro i f h1 h2
  obtain ⟨f,rfl⟩:∃m,f=m+1:=⟨f-1,by omega⟩
  have e:i=l.length:=by omega
  subst e
  rw [ACu (ACr _)]
  simp [Ke,Kz,Oh]
 | succ k ih=>
  intro i f h1 h2
  obtain ⟨f,rfl⟩:∃m,f=m+1:=⟨f-1,by omega⟩
  have hi:i<l.length:=by omega
  show Kz N (Ke N f) (l,x,(i:Int),())=_
  unfold Kz
  have e:at_ I l i=l[i]:=Aw (e:=I) hi
  rw [ACv hi]
  simp only [AD hi,if_true,Ag hi,Int.toNat_natCast,BK hi hmx,e,Oh]
  by_cases c:l[i]<x
  ·simp only [c,decide_true,if_true]
   rw [ih (i+1) f (by omega) (by omega)]
   congr 5
   omega
  ·simp only [c,decide_false,ACn,if_false,Nat.add_zero]
theorem Abc (d) (r) (h:JB d=some r):∃N,VG N d=some r:=by
 obtain ⟨l,x,_⟩:=d
 unfold JB at h
 split at h
 ·rename_i hl
  have hl:l.length<=1000:=of_decide_eq_true hl
  have h:=ACs h
  subst h
  refine ⟨l.length+1,?_⟩
  unfold VG
  have:=Aic (l.length+1) l x hl l.length 0 (l.length+1) (by omega) (by omega)
  simp only [Int.natCast_zero,List.drop_zero,Nat.zero_add] at this
  have hk:=Au3 x l
  generalize hkk:Oh x l=k at this hk
  simp only [this,Option.bind_some,Ags,hkk]
  have hL:(lim:Int)=1099511627776:=rfl
  have c0:(decide (0<=(0:Int))&&decide ((0:Int)<=(k:Int))&&decide ((k:Int)<=(l.length:Int)))=true:=by simp;omega
  have c1:decide (List.length ([]:List Int)+List.length (B1 l (0:Int) (k:Int))<=lim)=true:=by unfold lim B1;simp;omega
  have c2:decide (List.length (([]:List Int)++B1 l (0:Int) (k:Int))+List.length [x]<=lim)=true:=by unfold lim B1;simp;omega
  have c3:(decide (0<=(k:Int))&&decide ((k:Int)<=(l.length:Int))&&decide ((l.length:Int)<=(l.length:Int)))=true:=by simp;omega
  have c4:decide (List.length (([]:List Int)++B1 l (0:Int) (k:Int)++[x])+List.length (B1 l (k:Int) (l.length:Int))<=lim)=true:=by unfold lim B1;simp;omega
  have e1:B1 l (0:Int) (k:Int)=l.take k:=by simp [B1]
  have e2:B1 l (k:Int) (l.length:Int)=l.drop k:=by simp [B1]
  by_cases hlt:k<l.length
  ·have e:at_ I l k=l[k]:=Aw (e:=I) hlt
   simp only [AD hlt,if_true,Ag hlt,Int.toNat_natCast,e,hlt,dite_true,c0,c1,c2,c3,c4]
   by_cases c:l[k]=x
   ·simp [c]
   ·have c':(l[k]==x)=false:=by simpa using c
    simp only [c',c,ACn,if_false,e1,e2,List.nil_append]
  ·have hlt':decide ((k:Int)<(l.length:Int))=false:=by simp;omega
   have ek:k=l.length:=by omega
   simp only [hlt',ACn,if_false,c0,c1,c2,c3,c4,if_true,hlt,dite_false,e1,e2,List.nil_append]
   subst ek
   simp
   unfold lim
   omega
 ·cases h
theorem Ao0 (x:Int):∀l:List Int,(LY x l).length<=l.length+1:=by
 intro l
 induction l with
 | nil=>simp [LY]
 | cons a l ih=>
  simp only [LY]
  split
  ·simp;omega
  ·split<;>simp
theorem Ast {m y:Nat} (hm:m<256) (h:y<8):(bits .and .i64 (shr .i64 (m:Int) (y:Int)) 1==(1:Int))=m.testBit y:=U1 hm h
theorem Aqb (N:Nat) (s:Nat) (hs:s<256):∀(k x f:Nat) (A:List Int),x+k=8->k<f->A.length+k<=100 ->
  Df N f ((s:Int),A,(x:Int),())=some (.inl (A++Ap (fun y=>s.testBit y) k x,())):=by
 intro k
 induction k with
 | zero=>
  intro x f A h1 h2 h3
  obtain ⟨f,rfl⟩:∃m,f=m+1:=⟨f-1,by omega⟩
  have e:x=8:=by omega
  subst e
  have:shr .i64 (s:Int) ((8:Nat):Int)=0:=by
   unfold shr
   have e:min ((8:Nat):Int).toNat IntKind.i64.bits=8:=by decide
   rw [e,Int.fdiv_eq_ediv_of_nonneg _ (by decide)]
   omega
  show C9 N (Df N f) ((s:Int),A,((8:Nat):Int),())=_
  unfold C9
  have h8:decide (0<=((8:Nat):Int))=true:=by decide
  have hz:((0:Int) != 0)=false:=by decide
  simp only [h8,if_true,this,hz,ACn,if_false,Ap,List.append_nil]
 | succ k ih=>
  intro x f A h1 h2 h3
  obtain ⟨f,rfl⟩:∃m,f=m+1:=⟨f-1,by omega⟩
  have hx:x<8:=by omega
  show C9 N (Df N f) ((s:Int),A,(x:Int),())=_
  unfold C9
  have hw:IntKind.wrap .i64 ((x:Int)+1)=((x+1:Nat):Int):=by
   rw [BY _ (by omega) (by omega)]
   rfl
  have hle:decide (A.length+List.length [(x:Int)]<=lim)=true:=by
   unfold lim
   simp
   omega
  simp only [AN,if_true,Ast hs hx,hle,hw]
  by_cases hz:s>>>x=0
  ·have e1:(shr .i64 (s:Int) (x:Int) != (0:Int))=false:=by rw [VC hx,hz];decide
   simp only [e1,ACn,if_false]
   have e2:Ap (fun y=>s.testBit y) (k+1) x=[]:=by
    rw [<- Sw (n:=k+1) (x:=x)]
    refine Bm fun y h _ => ?_
    have:s<2 ^ x:=by
     rw [Nat.shiftRight_eq_div_pow] at hz
     exact (Nat.div_eq_zero_iff_lt (Nat.two_pow_pos x)).1 hz
    exact Nat.testBit_lt_two_pow (Nat.lt_of_lt_of_le this (Nat.pow_le_pow_right (by omega) h))
   rw [e2,List.append_nil]
  ·have e1:(shr .i64 (s:Int) (x:Int) != (0:Int))=true:=by
    rw [VC hx]
    have:((s>>>x:Nat):Int)≠0:=fun e=>hz (by exact_mod_cast e)
    simpa using this
   simp only [e1,if_true]
   unfold Ap
   by_cases hb:s.testBit x=true
   ·rw [if_pos hb,if_pos hb,ih (x+1) f _ (by omega) (by omega) (by simp;omega)]
    simp
   ·rw [if_neg hb,if_neg hb]
    exact ih (x+1) f A (by omega) (by omega) (by omega)
theorem Ahc (d) (r) (h:Di d=some r):∃N,F1 N d=some r:=by
 obtain ⟨s,_⟩:=d
 unfold Di at h
 split at h
 ·rename_i hc
  simp only [ACo,decide_eq_true_eq] at hc
  have h:=ACs h
  subst h
  refine ⟨20,?_⟩
  unfold F1
  have:=Aqb 20 s.toNat (by omega) 8 0 20 [] (by omega) (by omega) (by simp)
  rw [show ((s.toNat:Nat):Int)=s by omega] at this
  simp only [Int.natCast_zero,List.nil_append] at this
  simp only [this,Option.bind_some]
 ·cases h
open Go.Proofs
theorem Alm {n:Nat} {ms:List Nat} (hok:okN n ms) (hn:n<=8):S6 (toI ms)=true:=by
 unfold S6
 simp only [Vm,hok.1,ACo,decide_eq_true_eq,List.all_eq_true]
 refine ⟨hn,fun m hm => ?_⟩
 unfold toI at hm
 obtain ⟨x,hx,rfl⟩:=List.mem_map.1 hm
 obtain ⟨i,hi,rfl⟩:=List.getElem_of_mem hx
 have:=hok.2 i
 simp only [ACy,ACz hi,Option.getD_some] at this
 omega
theorem Afg (es:List E) (a b:Int):BH es a b=BH es b a:=by
 unfold BH
 congr 1
 funext e
 cases (e.1==a&&e.2.1==b)<;>cases (e.1==b&&e.2.1==a)<;>rfl
theorem XF {p:Nat->Bool}:∀{k x:Nat},(∃y,x<=y/\y<x+k/\p y=true)->x<=Bh p k x/\Bh p k x<x+k/\p (Bh p k x)=true:=by
 intro k
 induction k with
 | zero=>rintro x ⟨y,h1,h2,_⟩;omega
 | succ k ih=>
  rintro x ⟨y,h1,h2,h3⟩
  unfold Bh
  by_cases h:p x=true
  ·rw [if_pos h]
   exact ⟨ACr _,by omega,h⟩
  ·rw [if_neg h]
   have:y≠x:=fun e=>h (e▸h3)
   obtain ⟨k1,k2,k3⟩:=ih (x:=x+1) ⟨y,by omega,by omega,h3⟩
   exact ⟨by omega,by omega,k3⟩
theorem Iq {p q:Nat->Bool}:∀{k x:Nat},(∀y,x<=y->y<x+k->p y=q y)->Bh p k x=Bh q k x:=by
 intro k
 induction k with
 | zero=>intro x _;rfl
 | succ k ih=>
  intro x h
  unfold Bh
  rw [h x (ACr _) (by omega),ih (x:=x+1) fun y h1 h2=>h y (by omega) (by omega)]
open Go.Proofs
theorem Asg {l:List Int} {j:Nat} {v:Int} (h:l[j]? = some v):at_ I l j=v/\j<l.length:=by
 have hj:j<l.length:=by
  rcases Nat.lt_or_ge j l.length with h' | h'
  ·exact h'
  ·rw [List.getElem?_eq_none h'] at h
   cases h
 refine ⟨?_,hj⟩
 have e:at_ I l j=l[j]:=Aw (e:=I) hj
 rw [e]
 rw [ACz hj] at h
 exact ACs h
theorem Ae2 (g:Gr) (n:Nat) (hg:g.1=(n:Int)) (hn:n<=8) (ho:okL g.2.1=true) (z:Int):GW 0 (g,z,())=some (PQ n g.2.1 z,()):=by
 first
  | unfold GW Dc JB
  | unfold GW Dc Avq
 have a2:Amt (Ap (fun y=>BH g.2.1 z (y:Int)) n 0)=true:=by
  have:=C3 (p:=fun y=>BH g.2.1 z (y:Int)) (k:=n) (x:=0)
  exact decide_eq_true (by omega)
 have a3:(okL g.2.1&&decide (0<=(n:Int))&&decide ((n:Int)<=8))=true:=by
  rw [ho]
  simp
  omega
 simp only [hg,a3,if_true,Int.toNat_natCast,Option.bind_some,a2,PQ]
theorem RP (n:Nat) (f:Nat->Nat->Int):(AM n f).length=n:=by simp [AM]
theorem SJ {n c:Nat} (f:Nat->Nat->Int) (h:c<n):(AM n f)[c]? = some ((List.range n).map fun r=>f c r):=by
 unfold AM
 rw [List.getElem?_map,List.getElem?_range h]
 rfl
theorem Si {n r:Nat} (g:Nat->Int) (h:r<n):((List.range n).map g)[r]? = some (g r):=by
 rw [List.getElem?_map,List.getElem?_range h]
 rfl
theorem Bj {n c r:Nat} (f:Nat->Nat->Int) (hc:c<n) (hr:r<n):AY (AM n f) (c:Int) (r:Int)=f c r:=by
 unfold AY
 simp only [Int.toNat_natCast,ACy,SJ f hc,Option.getD_some,Si _ hr]
theorem Dv {n:Nat} {f g:Nat->Nat->Int} (h:∀c r,c<n->r<n->f c r=g c r):AM n f=AM n g:=by
 unfold AM
 refine List.map_congr_left fun c hc=>List.map_congr_left fun r hr=>h c r (List.mem_range.1 hc) (List.mem_range.1 hr)
theorem GL {f g:Int->Int}:∀{l:List Int} {m:Int},(∀x∈l,f x=g x)->A6 f l m=A6 g l m:=by
 intro l
 induction l with
 | nil=>intro m _;rfl
 | cons b bs ih=>
  intro m h
  simp only [A6,h b (by simp)]
  rw [ih fun x hx=>h x (by simp [hx])]
theorem B3 (f:Int->Int):∀(l:List Int) (m:Int),(∃x∈l,f x<0)/\A6 f l m = -1\/(∀x∈l,0<=f x/\f x<=A6 f l m)/\m<=A6 f l m/\(A6 f l m=m \/ ∃x∈l,A6 f l m=f x):=by
 intro l
 induction l with
 | nil=>intro m;exact .inr ⟨fun x hx=>by simp at hx,Int.le_refl _,.inl rfl⟩
 | cons b bs ih=>
  intro m
  simp only [A6]
  by_cases hb:f b<0
  ·rw [if_pos hb]
   exact .inl ⟨⟨b,by simp,hb⟩,rfl⟩
  ·rw [if_neg hb]
   rcases ih (if m<f b then f b else m) with ⟨⟨x,hx,h1⟩,h2⟩ | ⟨h1,h2,h3⟩
   ·exact .inl ⟨⟨x,by simp [hx],h1⟩,h2⟩
   ·have hge:m<=(if m<f b then f b else m)/\f b<=(if m<f b then f b else m):=by split<;>omega
    refine .inr ⟨fun x hx => ?_,by omega,?_⟩
    ·rcases List.mem_cons.1 hx with rfl | hx
     ·omega
     ·exact h1 x hx
    ·rcases h3 with h3 | ⟨x,hx,h3⟩
     ·by_cases hm:m<f b
      ·rw [if_pos hm] at h3 |-
       exact .inr ⟨b,by simp,h3⟩
      ·rw [if_neg hm] at h3 |-
       exact .inl h3
     ·exact .inr ⟨x,by simp [hx],h3⟩
theorem Afl (g:Int->Int):∀(l:List Int) (b:Int),(H7 g l b=b \/ ∃x∈l,0<=g x/\H7 g l b=g x)/\((∃x∈l,0<=g x)->0<=H7 g l b):=by
 intro l
 induction l with
 | nil=>intro b;exact ⟨.inl rfl,fun ⟨x,hx,_⟩=>by simp at hx⟩
 | cons x xs ih=>
  intro b
  simp only [H7]
  by_cases h:g x>=0/\(b<0\/g x<b)
  ·rw [if_pos h]
   obtain ⟨h1,h2⟩:=ih (g x)
   refine ⟨?_,fun _ => ?_⟩
   ·rcases h1 with h1 | ⟨y,hy,h3,h4⟩
    ·exact .inr ⟨x,by simp,h.1,h1⟩
    ·exact .inr ⟨y,by simp [hy],h3,h4⟩
   ·rcases h1 with h1 | ⟨y,hy,h3,h4⟩<;>omega
  ·rw [if_neg h]
   obtain ⟨h1,h2⟩:=ih b
   refine ⟨?_,fun ⟨y,hy,h3⟩ => ?_⟩
   ·rcases h1 with h1 | ⟨y,hy,h3,h4⟩
    ·exact .inl h1
    ·exact .inr ⟨y,by simp [hy],h3,h4⟩
   ·rcases List.mem_cons.1 hy with rfl | hy
    ·have:0<=b:=by omega
     rcases h1 with h1 | ⟨z,hz,h4,h5⟩<;>omega
    ·exact h2 ⟨y,hy,h3⟩
def DE (n:Nat) (ball:Int->List Int):Prop := ∀x:Nat,x<n -> ∀z∈ball (x:Int),∃y:Nat,y<n/\z=(y:Int)
structure InvT (n:Nat) (ball:Int->List Int) (t:Nat) (f:Nat->Nat->Int):Prop where
 pos:1<=t
 low:∀c r,c<n->r<n -> -1<=f c r
 high:∀c r,c<n->r<n->f c r<(t:Int)
 none:∀c r,c<n->r<n->f c r<0 -> ∀b∈ball (c:Int),¬(0<=AE ball (AM n f) b (r:Int)/\AE ball (AM n f) b (r:Int)<(t:Int)-1)
theorem R9 {n:Nat} {ball:Int->List Int} (hb:DE n ball) {t:Nat} {f:Nat->Nat->Int} (hI:InvT n ball t f) {c r:Nat} (hc:c<n) (hr:r<n) {b:Int} (hbm:b∈ball (c:Int)):AE ball (AM n f) b (r:Int)<=(t:Int)-1:=by
 have hp:=hI.pos
 unfold AE
 split
 ·omega
 ·obtain ⟨b',hb1,rfl⟩:=hb c hc b hbm
  rcases B3 (AY (AM n f) (b':Int)) (ball (r:Int)) 0 with ⟨_,h⟩ | ⟨_,_,h | ⟨x,hx,h⟩⟩
  ·omega
  ·omega
  ·obtain ⟨y,hy,rfl⟩:=hb r hr x hx
   rw [Bj f hb1 hy] at h
   have:=hI.high b' y hb1 hy
   omega
theorem Aci {n:Nat} {ball:Int->List Int} (hb:DE n ball) {t:Nat} {f:Nat->Nat->Int} (hI:InvT n ball t f) {c r:Nat} (hc:c<n) (hr:r<n) (hf:f c r<0) :
  (BT n ball f c r=true/\H7 (fun b=>AE ball (AM n f) b (r:Int)) (ball (c:Int)) (-1)=(t:Int)-1)\/(BT n ball f c r=false/\H7 (fun b=>AE ball (AM n f) b (r:Int)) (ball (c:Int)) (-1) = -1):=by
 have hp:=hI.pos
 obtain ⟨h1,h2⟩:=Afl (fun b=>AE ball (AM n f) b (r:Int)) (ball (c:Int)) (-1)
 have hcan:BT n ball f c r=(ball (c:Int)).any fun b=>decide (0<=AE ball (AM n f) b (r:Int)):=by
  unfold BT
  simp [hf]
 by_cases h:∃x∈ball (c:Int),0<=AE ball (AM n f) x (r:Int)
 ·refine .inl ⟨?_,?_⟩
  ·rw [hcan,List.any_eq_true]
   obtain ⟨x,hx,h3⟩:=h
   exact ⟨x,hx,decide_eq_true h3⟩
  ·have h3:=h2 h
   rcases h1 with h1 | ⟨x,hx,h4,h5⟩
   ·omega
   ·have h6:=hI.none c r hc hr hf x hx
    have h7:=R9 hb hI hc hr hx
    have h5':H7 (fun b=>AE ball (AM n f) b (r:Int)) (ball (c:Int)) (-1)=AE ball (AM n f) x (r:Int):=h5
    omega
 ·refine .inr ⟨?_,?_⟩
  ·rw [hcan]
   cases ha:(ball (c:Int)).any fun b=>decide (0<=AE ball (AM n f) b (r:Int)) with
   | false=>rfl
   | true=>
    rw [List.any_eq_true] at ha
    obtain ⟨x,hx,h3⟩:=ha
    exact absurd ⟨x,hx,of_decide_eq_true h3⟩ h
  ·rcases h1 with h1 | ⟨x,hx,h4,h5⟩
   ·exact h1
   ·exact absurd ⟨x,hx,h4⟩ h
theorem InvT.next {n:Nat} {ball:Int->List Int} (hb:DE n ball) {t:Nat} {f:Nat->Nat->Int} (hI:InvT n ball t f):InvT n ball (t+1) (B4 n ball (t:Int) f):=by
 have hp:=hI.pos
 refine ⟨by omega,fun c r hc hr => ?_,fun c r hc hr => ?_,fun c r hc hr hf b hbm => ?_⟩
 ·unfold B4
  split
  ·omega
  ·exact hI.low c r hc hr
 ·unfold B4
  split
  ·omega
  ·have:=hI.high c r hc hr;omega
 ·rintro ⟨h1,h2⟩
  have hst:B4 n ball (t:Int) f c r=f c r/\BT n ball f c r=false:=by
   unfold B4 at hf |-
   by_cases hcan:BT n ball f c r=true
   ·rw [if_pos hcan] at hf;omega
   ·rw [if_neg hcan]
    exact ⟨rfl,by simpa using hcan⟩
  rw [hst.1] at hf
  have hno:∀b∈ball (c:Int),¬0<=AE ball (AM n f) b (r:Int):=by
   intro b hbm h
   have:=hst.2
   unfold BT at this
   simp only [hf,decide_true,Bool.true_and] at this
   have ht:((ball (c:Int)).any fun b=>decide (0<=AE ball (AM n f) b (r:Int)))=true:=List.any_eq_true.2 ⟨b,hbm,decide_eq_true h⟩
   rw [ht] at this
   cases this
  refine hno b hbm ?_
  unfold AE at h1 h2 |-
  by_cases hbr:b=(r:Int)
  ·rw [if_pos hbr]
   exact Int.le_refl _
  ·rw [if_neg hbr] at h1 h2 |-
   obtain ⟨b',hb1,rfl⟩:=hb c hc b hbm
   rcases B3 (AY (AM n (B4 n ball (t:Int) f)) (b':Int)) (ball (r:Int)) 0 with ⟨_,h⟩ | ⟨hall,_,_⟩
   ·omega
   ·have e:A6 (AY (AM n f) (b':Int)) (ball (r:Int)) 0=A6 (AY (AM n (B4 n ball (t:Int) f)) (b':Int)) (ball (r:Int)) 0:=by
     refine GL fun x hx => ?_
     obtain ⟨y,hy,rfl⟩:=hb r hr x hx
     have:=hall (y:Int) hx
     rw [Bj _ hb1 hy] at this
     rw [Bj _ hb1 hy,Bj _ hb1 hy]
     by_cases hcan:BT n ball f b' y=true
     ·have e:B4 n ball (t:Int) f b' y=(t:Int):=if_pos hcan
      rw [e] at this
      omega
     ·exact (if_neg hcan).symm
    rw [e]
    exact h1
theorem InvT.start (n:Nat) (ball:Int->List Int):InvT n ball 1 A0:=by
 refine ⟨ACr _,fun c r _ _ => ?_,fun c r _ _ => ?_,fun c r _ _ _ b _ h => ?_⟩
 ·unfold A0;split<;>omega
 ·unfold A0;split<;>omega
 ·omega
def VL (n:Nat) (f:Nat->Nat->Int):Nat:=(List.range (n*n)).countP fun i=>decide (f (i / n) (i % n)<0)
theorem TJ {α:Type} {p q:α->Bool}:∀{l:List α},(∀x∈l,q x=true->p x=true)->l.countP q<=l.countP p/\((∃x∈l,p x=true/\q x=false)->l.countP q<l.countP p):=by
 intro l
 induction l with
 | nil=>intro _;exact ⟨ACr _,fun ⟨x,hx,_⟩=>by simp at hx⟩
 | cons a l ih=>
  intro h
  obtain ⟨h1,h2⟩:=ih fun x hx=>h x (by simp [hx])
  have ha:=h a (by simp)
  simp only [List.countP_cons]
  cases hq:q a with
  | true=>
   rw [ha hq]
   refine ⟨by simp;exact h1,fun ⟨x,hx,h3,h4⟩ => ?_⟩
   rcases List.mem_cons.1 hx with rfl | hx
   ·rw [hq] at h4;cases h4
   ·have:=h2 ⟨x,hx,h3,h4⟩
    simp
    exact this
  | false=>
   cases hp:p a with
   | true=>refine ⟨by simp;omega,fun _=>by simp;omega⟩
   | false=>
    refine ⟨by simpa using h1,fun ⟨x,hx,h3,h4⟩ => ?_⟩
    rcases List.mem_cons.1 hx with rfl | hx
    ·rw [hp] at h3;cases h3
    ·simpa using h2 ⟨x,hx,h3,h4⟩
theorem EB {n:Nat} {p:Nat->Nat->Bool}:KQ n p=true ↔ ∃c r,c<n/\r<n/\p c r=true:=by
 unfold KQ
 simp only [List.any_eq_true,List.mem_range]
 constructor
 ·rintro ⟨c,hc,r,hr,h⟩
  exact ⟨c,r,hc,hr,h⟩
 ·rintro ⟨c,r,hc,hr,h⟩
  exact ⟨c,hc,r,hr,h⟩
theorem JV {n:Nat} {ball:Int->List Int} {t:Int} (ht:0<=t) {f:Nat->Nat->Int} (h:KQ n (BT n ball f)=true):VL n (B4 n ball t f)<VL n f:=by
 obtain ⟨c,r,hc,hr,hcan⟩:=EB.1 h
 have hsub:=TJ (p:=fun i=>decide (f (i / n) (i % n)<0)) (q:=fun i=>decide (B4 n ball t f (i / n) (i % n)<0)) (l:=List.range (n*n)) (fun i _ hi=>by
  have hi:=of_decide_eq_true hi
  unfold B4 at hi
  split at hi
  ·omega
  ·exact decide_eq_true hi)
 refine hsub.2 ⟨c*n+r,?_,?_,?_⟩
 ·rw [List.mem_range]
  have:(c+1)*n<=n*n:=Nat.mul_le_mul_right _ hc
  rw [Nat.succ_mul] at this
  omega
 all_goals
  have e1:(c*n+r) / n=c:=by
   rw [Nat.mul_comm,Nat.mul_add_div (by omega),Nat.div_eq_of_lt hr]
   omega
  have e2:(c*n+r) % n=r:=by
   rw [Nat.mul_comm,Nat.mul_add_mod,Nat.mod_eq_of_lt hr]
  rw [e1,e2]
 ·unfold BT at hcan
  simp only [ACo] at hcan
  exact hcan.1
 ·unfold B4
  rw [if_pos hcan]
  simpa using ht
theorem Q6 (n:Nat) (f:Nat->Nat->Int):VL n f<=n*n:=by
 unfold VL
 have:=List.countP_le_length (p:=fun i=>decide (f (i / n) (i % n)<0)) (l:=List.range (n*n))
 simpa using this
open Go.Proofs
theorem Dw {n:Nat} {T:Tab} (h:sqL n T=true):T.length=n /\ ∀c,c<n->(at_ Af T c).length=n:=by
 unfold sqL at h
 simp only [ACo,decide_eq_true_eq,List.all_eq_true] at h
 refine ⟨h.1,fun c hc => ?_⟩
 have hlt:c<T.length:=by omega
 have e:at_ Af T c=T[c]:=Aw (e:=Af) hlt
 rw [e]
 exact h.2 _ (ACw hlt)
theorem VE {n:Nat} {T:Tab} (h:sqL n T=true) {c r:Nat} (hc:c<n) (hr:r<n):at_ I (at_ Af T c) r=AY T (c:Int) (r:Int):=by
 obtain ⟨h1,h2⟩:=Dw h
 have hlt:c<T.length:=by omega
 have e:at_ Af T c=T[c]:=Aw (e:=Af) hlt
 have h3:=h2 c hc
 rw [e] at h3 |-
 have e2:at_ I T[c] r=T[c][r]:=Aw (e:=I) (by omega)
 rw [e2]
 unfold AY
 simp only [Int.toNat_natCast,ACy,ACz hlt,Option.getD_some]
 rw [ACz (by omega)]
 rfl
theorem Qv (n:Nat) (f:Nat->Nat->Int):sqL n (AM n f)=true:=by
 unfold sqL AM
 simp
theorem YF {n:Nat} {f:Nat->Nat->Int} (h:∀c r,c<n->r<n -> -1<=f c r/\f c r<=1000):sqB n (AM n f)=true:=by
 unfold sqB
 rw [Qv,Bool.true_and]
 unfold AM
 simp only [List.all_map,List.all_eq_true,Function.comp,List.mem_range,ACo,decide_eq_true_eq]
 intro c hc r hr
 exact h c r hc hr
theorem Aed (m v:Int):Ja (m,v,())=((if m<v then v else m),()):=by
 unfold Ja
 by_cases h:m>v
 ·have h2:¬m<v:=by omega
  simp [h,h2]
 ·simp only [h,decide_false,ACn,if_false]
  by_cases h2:m<v
  ·rw [if_pos h2]
  ·have e:m=v:=by omega
   rw [if_neg h2,e]
theorem Arx (N n:Nat) (T:Tab) (hT:sqL n T=true) (c:Nat) (hc:c<n) (ball:List Int) (hb:∀z∈ball,∃y:Nat,y<n/\z=(y:Int)) (hl:ball.length<=1000):∀(k i f:Nat) (m:Int),i+k=ball.length->k<f ->
  F4 N f (T,(c:Int),m,ball,(i:Int),())=some (.inl (A6 (AY T c) (ball.drop i) m,()))\/F4 N f (T,(c:Int),m,ball,(i:Int),())=some (.inr (.inl (A6 (AY T c) (ball.drop i) m,()))):=by
 have hmx:ball.length<=maxLen:=by unfold maxLen;omega
 obtain ⟨t1,t2⟩:=Dw hT
 intro k
 induction k with
 | zero=>
  intro i f m h1 h2
  obtain ⟨f,rfl⟩:∃m,f=m+1:=⟨f-1,by omega⟩
  have e:i=ball.length:=by omega
  subst e
  rw [ACu (ACr _)]
  right
  simp [F4,KE,A6]
 | succ k ih=>
  intro i f m h1 h2
  obtain ⟨f,rfl⟩:∃m,f=m+1:=⟨f-1,by omega⟩
  have hi:i<ball.length:=by omega
  obtain ⟨y,hy,ey⟩:=hb ball[i] (ACw hi)
  have e:at_ I ball i=(y:Int):=(Aw (e:=I) hi).trans ey
  have i1:Ak (c:Int) T.length=true:=Ag (by omega)
  have i2:Ak (y:Int) (at_ Af T c).length=true:=Ag (by rw [t2 c hc];exact hy)
  have hv:=VE hT hc hy
  have hd:ball.drop i=(y:Int)::ball.drop (i+1):=by rw [ACv hi,ey]
  have step:F4 N (f+1) (T,(c:Int),m,ball,(i:Int),())=if AY T c y<0 then some (.inl (-1,())) else F4 N f (T,(c:Int),(if m<AY T c y then AY T c y else m),ball,((i+1:Nat):Int),()):=by
   show KE N (F4 N f) (T,(c:Int),m,ball,(i:Int),())=_
   unfold KE
   simp only [AD hi,if_true,i1,Ag hi,Int.toNat_natCast,e,i2,hv,Aed,BK hi hmx]
   by_cases h:AY T c y<0
   ·simp only [h,decide_true,if_true]
   ·simp only [h,decide_false,ACn,if_false]
  rw [step,hd]
  simp only [A6]
  by_cases h:AY T c y<0
  ·rw [if_pos h,if_pos h]
   exact .inl rfl
  ·rw [if_neg h,if_neg h]
   exact ih (i+1) f _ (by omega) (by omega)
theorem AV {g:Gr} (h:grB g=true):okL g.2.1=true/\g.1=(g.1.toNat:Int)/\g.1.toNat<=8/\g.2.1.all (BI (g.1.toNat:Int))=true:=by
 unfold grB at h
 simp only [ACo,decide_eq_true_eq] at h
 obtain ⟨⟨⟨h1,h2⟩,h3⟩,h4⟩:=h
 have e:g.1=(g.1.toNat:Int):=by omega
 exact ⟨h1,e,by omega,by rw [<- e];exact h4⟩
theorem Fe (n:Nat) (es:List E):DE n (Ax n es):=fun x _ z hz=>X9 z hz
theorem Kn (n:Nat) (es:List E) (x:Int):(Ax n es x).length<=n:=C3
theorem MP {g:Gr} (h:grB g=true) {x:Nat} (hx:x<g.1.toNat):GW 0 (g,(x:Int),())=some (Ax g.1.toNat g.2.1 (x:Int),()):=by
 obtain ⟨h1,h2,h3,h4⟩:=AV h
 rw [Ae2 g g.1.toNat h2 h3 h1,Af2 hx]
 show some (Ap _ _ _,())=some (Ap _ _ _,())
 congr 2
 exact Bm fun y _ _=>by
  congr 1
  exact decide_eq_decide.2 (by omega)
theorem IU {n:Int} {x:Int} (hn:n=(n.toNat:Int)) (h:inB 0 (n-1) x=true):x=(x.toNat:Int)/\x.toNat<n.toNat:=by
 have:=AI.1 h
 omega
theorem XT (d) (r) (h:H9 d=some r):∃N,WH N d=some r:=by
 obtain ⟨g,T,c,q,_⟩:=d
 unfold H9 at h
 split at h
 ·rename_i hc
  simp only [ACo] at hc
  obtain ⟨⟨⟨hg,hT⟩,hc⟩,hq⟩:=hc
  obtain ⟨g1,g2,g3,g4⟩:=AV hg
  obtain ⟨c1,c2⟩:=IU g2 hc
  obtain ⟨q1,q2⟩:=IU g2 hq
  have h:=ACs h
  subst h
  have hT:sqL g.1.toNat T=true:=by
   have hT:sqB g.1.toNat T=true:=hT
   unfold sqB at hT
   simp only [ACo] at hT
   exact hT.1
  refine ⟨20,?_⟩
  unfold WH
  have hbl:=Kn g.1.toNat g.2.1 (q.toNat:Int)
  have:=Arx 20 g.1.toNat T hT c.toNat c2 (Ax g.1.toNat g.2.1 (q.toNat:Int)) (Fe _ _ q.toNat q2) (by omega) (Ax g.1.toNat g.2.1 (q.toNat:Int)).length 0 20 0 (by omega) (by omega)
  simp only [Int.natCast_zero,List.drop_zero] at this
  have hb:=MP hg q2
  rw [<- q1] at hb this
  rw [<- c1] at this
  simp only [hb,Option.bind_some]
  rcases this with h | h
  ·simp only [h,Option.bind_some]
  ·simp only [h,Option.bind_some]
 ·cases h
theorem Ab7 {g:Gr} (h:grB g=true) {T:Tab} (hT:sqB g.1.toNat T=true) {b q:Nat} (hb:b<g.1.toNat) (hq:q<g.1.toNat):Sc 0 (g,T,(b:Int),(q:Int),())=some (AE (Ax g.1.toNat g.2.1) T (b:Int) (q:Int),()):=by
 obtain ⟨g1,g2,g3,g4⟩:=AV h
 unfold Sc AE
 have i1:inB 0 (g.1-1) (b:Int)=true:=AI.2 (by omega)
 have i2:inB 0 (g.1-1) (q:Int)=true:=AI.2 (by omega)
 by_cases e:(b:Int)=(q:Int)
 ·simp only [e,beq_self_eq_true,if_true]
 ·have e':((b:Int)==(q:Int))=false:=by simpa using e
  simp only [e',ACn,if_false,e,H9,h,hT,i1,i2,Bool.and_self,if_true,Option.bind_some]
theorem Avu (N:Nat) (g:Gr) (h:grB g=true) (T:Tab) (hT:sqB g.1.toNat T=true) (q:Nat) (hq:q<g.1.toNat) (ball:List Int) (hb:∀z∈ball,∃y:Nat,y<g.1.toNat/\z=(y:Int)) (hl:ball.length<=1000):∀(k i f:Nat) (m:Int),i+k=ball.length->k<f ->
  JX N f (T,(q:Int),g,m,ball,(i:Int),())=some (.inl (H7 (fun b=>AE (Ax g.1.toNat g.2.1) T b (q:Int)) (ball.drop i) m,())):=by
 have hmx:ball.length<=maxLen:=by unfold maxLen;omega
 intro k
 induction k with
 | zero=>
  intro i f m h1 h2
  obtain ⟨f,rfl⟩:∃m,f=m+1:=⟨f-1,by omega⟩
  have e:i=ball.length:=by omega
  subst e
  rw [ACu (ACr _)]
  simp [JX,Kc,H7]
 | succ k ih=>
  intro i f m h1 h2
  obtain ⟨f,rfl⟩:∃m,f=m+1:=⟨f-1,by omega⟩
  have hi:i<ball.length:=by omega
  obtain ⟨y,hy,ey⟩:=hb ball[i] (ACw hi)
  have e:at_ I ball i=(y:Int):=(Aw (e:=I) hi).trans ey
  have hd:ball.drop i=(y:Int)::ball.drop (i+1):=by rw [ACv hi,ey]
  show Kc N (JX N f) (T,(q:Int),g,m,ball,(i:Int),())=_
  unfold Kc
  rw [hd]
  simp only [AD hi,if_true,Ag hi,Int.toNat_natCast,e,Ab7 h hT hy hq,Option.bind_some,BK hi hmx,H7]
  generalize AE (Ax g.1.toNat g.2.1) T (y:Int) (q:Int)=v
  by_cases h1':v>=0
  ·by_cases h2':m<0
   ·simp only [h1',h2',decide_true,if_true,true_or,and_self]
    exact ih (i+1) f _ (by omega) (by omega)
   ·by_cases h3':v<m
    ·simp only [h1',h2',h3',decide_true,decide_false,ACn,if_true,if_false,or_true,and_self]
     exact ih (i+1) f _ (by omega) (by omega)
    ·simp only [h1',h2',h3',decide_true,decide_false,ACn,if_true,if_false,or_self,and_false]
     exact ih (i+1) f _ (by omega) (by omega)
  ·simp only [h1',decide_false,ACn,if_false,false_and]
   exact ih (i+1) f _ (by omega) (by omega)
theorem Zb (d) (r) (h:Jj d=some r):∃N,Vc N d=some r:=by
 obtain ⟨g,T,c,q,_⟩:=d
 unfold Jj at h
 split at h
 ·rename_i hc
  simp only [ACo] at hc
  obtain ⟨⟨⟨hg,hT⟩,hc⟩,hq⟩:=hc
  obtain ⟨g1,g2,g3,g4⟩:=AV hg
  obtain ⟨c1,c2⟩:=IU g2 hc
  obtain ⟨q1,q2⟩:=IU g2 hq
  have h:=ACs h
  subst h
  refine ⟨20,?_⟩
  unfold Vc
  have hbl:=Kn g.1.toNat g.2.1 (c.toNat:Int)
  have:=Avu 20 g hg T hT q.toNat q2 (Ax g.1.toNat g.2.1 (c.toNat:Int)) (Fe _ _ c.toNat c2) (by omega) (Ax g.1.toNat g.2.1 (c.toNat:Int)).length 0 20 (-1) (by omega) (by omega)
  simp only [Int.natCast_zero,List.drop_zero] at this
  have hb:=MP hg c2
  rw [<- c1] at hb this
  rw [<- q1] at this
  simp only [hb,Option.bind_some,this]
 ·cases h
theorem Atl (c r:Nat):NT ((c:Int)==(r:Int),())=(A0 c r,()):=by
 unfold NT A0
 by_cases h:c=r
 ·subst h;simp
 ·have:¬(c:Int)=(r:Int):=by omega
  have h2:((c:Int)==(r:Int))=false:=by simpa using this
  simp [h,h2]
theorem Aap (n:Nat) (g:Nat->Int):(List.range n).map g++[g n]=(List.range (n+1)).map g:=by simp [List.range_succ]
theorem JO (n:Nat) (g:Nat->List Int):(List.range n).map g++[g n]=(List.range (n+1)).map g:=by simp [List.range_succ]
theorem Jy {i n:Nat} (h:i<n) (hn:n<=8):IntKind.wrap .i64 ((i:Int)+1)=((i+1:Nat):Int):=by
 rw [BY _ (by omega) (by omega)]
 rfl
theorem Are (N:Nat) (g:Gr) (n:Nat) (hg:g.1=(n:Int)) (hn:n<=8) (now:Tab) (c:Nat):∀(k r f:Nat),r+k=n->k<f ->
  KP N f (g,now,(c:Int),(List.range r).map (A0 c),(r:Int),())=some (.inl (g,now,(c:Int),(List.range n).map (A0 c),())):=by
 intro k
 induction k with
 | zero=>
  intro r f h1 h2
  obtain ⟨f,rfl⟩:∃m,f=m+1:=⟨f-1,by omega⟩
  have e:r=n:=by omega
  subst e
  simp [KP,Ky,hg]
 | succ k ih=>
  intro r f h1 h2
  obtain ⟨f,rfl⟩:∃m,f=m+1:=⟨f-1,by omega⟩
  have hr:r<n:=by omega
  show Ky N (KP N f) (g,now,(c:Int),(List.range r).map (A0 c),(r:Int),())=_
  unfold Ky
  have hle:∀v:Int,decide (((List.range r).map (A0 c)).length+List.length [v]<=lim)=true:=fun v=>by
   unfold lim
   simp
   omega
  simp only [hg,AD hr,if_true,Atl,hle,Jy hr hn,Aap]
  exact ih (r+1) f (by omega) (by omega)
theorem Ape (N:Nat) (hN:10<=N) (g:Gr) (n:Nat) (hg:g.1=(n:Int)) (hn:n<=8):∀(k c f:Nat),c+k=n->k<f ->
  J2 N f (g,(List.range c).map (fun c=>(List.range n).map (A0 c)),(c:Int),())=some (.inl (g,AM n A0,())):=by
 intro k
 induction k with
 | zero=>
  intro c f h1 h2
  obtain ⟨f,rfl⟩:∃m,f=m+1:=⟨f-1,by omega⟩
  have e:c=n:=by omega
  subst e
  simp [J2,J9,hg,AM]
 | succ k ih=>
  intro c f h1 h2
  obtain ⟨f,rfl⟩:∃m,f=m+1:=⟨f-1,by omega⟩
  have hc:c<n:=by omega
  show J9 N (J2 N f) (g,(List.range c).map (fun c=>(List.range n).map (A0 c)),(c:Int),())=_
  unfold J9
  have hin:=Are N g n hg hn ((List.range c).map (fun c=>(List.range n).map (A0 c))) c n 0 N (by omega) (by omega)
  simp only [List.range_zero,List.map_nil,Int.natCast_zero] at hin
  have hle:∀v:List Int,decide (((List.range c).map (fun c=>(List.range n).map (A0 c))).length+List.length [v]<=lim)=true:=fun v=>by
   unfold lim
   simp
   omega
  simp only [hg,AD hc,if_true,hin,Option.bind_some,hle,Jy hc hn,JO c (fun c=>(List.range n).map (A0 c))]
  exact ih (c+1) f (by omega) (by omega)
def I9 (n:Nat) (ball:Int->List Int) (t:Int) (f:Nat->Nat->Int) (c r:Nat):List Int:=(List.range n).map fun j=>if j<r then B4 n ball t f c j else f c j
theorem Aqh (n:Nat) (ball:Int->List Int) (t:Int) (f:Nat->Nat->Int) (c r:Nat):(I9 n ball t f c r).length=n:=by simp [I9]
theorem Asc {n:Nat} {ball:Int->List Int} {t:Int} {f:Nat->Nat->Int} {c r:Nat} (hr:r<n):at_ I (I9 n ball t f c r) r=f c r:=by
 have:(I9 n ball t f c r)[r]? = some (f c r):=by
  unfold I9
  rw [Si _ hr,if_neg (by omega)]
 exact (Asg this).1
theorem map_set (n r:Nat) (g:Nat->Int) (v:Int):((List.range n).map g).set r v=(List.range n).map fun j=>if j=r then v else g j:=by
 apply List.ext_getElem
 ·simp
 ·intro i h1 h2
  simp only [List.length_set,List.length_map,List.length_range] at h1
  rw [List.getElem_set]
  by_cases e:r=i
  ·subst e;simp
  ·have e':¬i=r:=fun h=>e h.symm
   simp [e,e']
theorem Agr {n:Nat} {ball:Int->List Int} {t:Int} {f:Nat->Nat->Int} {c r:Nat} (hr:r<n) :
  (BT n ball f c r=true->(I9 n ball t f c r).set r t=I9 n ball t f c (r+1))/\(BT n ball f c r=false->I9 n ball t f c r=I9 n ball t f c (r+1)):=by
 constructor
 ·intro h
  unfold I9
  rw [map_set]
  refine List.map_congr_left fun j _ => ?_
  by_cases e:j=r
  ·subst e
   have:B4 n ball t f c j=t:=if_pos h
   simp [this]
  ·by_cases e2:j<r
   ·have:j<r+1:=by omega
    simp [e,e2,this]
   ·have:¬j<r+1:=by omega
    simp [e,e2,this]
 ·intro h
  unfold I9
  refine List.map_congr_left fun j _ => ?_
  by_cases e:j=r
  ·subst e
   have:B4 n ball t f c j=f c j:=if_neg (by rw [h];simp)
   simp [this]
  ·by_cases e2:j<r
   ·have:j<r+1:=by omega
    simp [e2,this]
   ·have:¬j<r+1:=by omega
    simp [e2,this]
theorem Akk (n:Nat) (ball:Int->List Int) (t:Int) (f:Nat->Nat->Int) (c:Nat):I9 n ball t f c 0=(List.range n).map (f c):=by
 unfold I9
 exact List.map_congr_left fun j _=>if_neg (by omega)
theorem Aix (n:Nat) (ball:Int->List Int) (t:Int) (f:Nat->Nat->Int) (c:Nat):I9 n ball t f c n=(List.range n).map (B4 n ball t f c):=by
 unfold I9
 exact List.map_congr_left fun j hj=>if_pos (List.mem_range.1 hj)
theorem Amu (N:Nat) (g:Gr) (hG:grB g=true) (t:Nat) (ht:t<=900) (f:Nat->Nat->Int) (hI:InvT g.1.toNat (Ax g.1.toNat g.2.1) t f) (next:Tab) (c:Nat) (hc:c<g.1.toNat):∀(k r fu:Nat) (ch:Bool),r+k=g.1.toNat->k<fu ->
  Kv N fu (g,AM g.1.toNat f,ch,next,(c:Int),I9 g.1.toNat (Ax g.1.toNat g.2.1) (t:Int) f c r,(r:Int),()) =
   some (.inl (g,AM g.1.toNat f,ch||(List.range' r k).any (fun j=>BT g.1.toNat (Ax g.1.toNat g.2.1) f c j),next,(c:Int),I9 g.1.toNat (Ax g.1.toNat g.2.1) (t:Int) f c g.1.toNat,())):=by
 obtain ⟨g1,g2,g3,g4⟩:=AV hG
 have hb:=Fe g.1.toNat g.2.1
 have hsq:sqB g.1.toNat (AM g.1.toNat f)=true:=YF fun c r hc hr=>⟨hI.low c r hc hr,by have:=hI.high c r hc hr;omega⟩
 intro k
 induction k with
 | zero=>
  intro r fu ch h1 h2
  obtain ⟨fu,rfl⟩:∃m,fu=m+1:=⟨fu-1,by omega⟩
  have e:r=g.1.toNat:=by omega
  subst e
  show Hm N (Kv N fu) _=_
  unfold Hm
  have:decide (((g.1.toNat:Nat):Int)<g.1)=false:=by simp;omega
  simp only [this,ACn,if_false,List.range'_zero,List.any_nil,Bool.or_false]
 | succ k ih=>
  intro r fu ch h1 h2
  obtain ⟨fu,rfl⟩:∃m,fu=m+1:=⟨fu-1,by omega⟩
  have hr:r<g.1.toNat:=by omega
  have hlt:decide ((r:Int)<g.1)=true:=by simp;omega
  have i1:inB 0 (g.1-1) (c:Int)=true:=AI.2 (by omega)
  have i2:inB 0 (g.1-1) (r:Int)=true:=AI.2 (by omega)
  have hidx:Ak (r:Int) (I9 g.1.toNat (Ax g.1.toNat g.2.1) (t:Int) f c r).length=true:=Ag (by rw [Aqh];exact hr)
  obtain ⟨s1,s2⟩:=Agr (n:=g.1.toNat) (ball:=Ax g.1.toNat g.2.1) (t:=(t:Int)) (f:=f) (c:=c) hr
  show Hm N (Kv N fu) _=_
  unfold Hm
  simp only [hlt,if_true,Jj,hG,hsq,i1,i2,Bool.and_self,Option.bind_some,hidx,Int.toNat_natCast,Asc hr,Jy hr g3]
  rw [List.range'_succ,List.any_cons]
  by_cases hf:f c r<0
  ·rcases Aci hb hI hc hr hf with ⟨b1,b2⟩ | ⟨b1,b2⟩
   ·have hp:=hI.pos
    have h0:decide ((t:Int)-1>=0)=true:=by simp;omega
    have hw:IntKind.wrap .i64 ((t:Int)-1+1)=(t:Int):=by
     rw [BY _ (by omega) (by omega)]
     omega
    simp only [hf,decide_true,if_true,b2,h0,hw,s1 b1,b1,Bool.true_or,Bool.or_true]
    have:=ih (r+1) fu true (by omega) (by omega)
    simpa using this
   ·have h0:decide ((-1:Int)>=0)=false:=by decide
    simp only [hf,decide_true,if_true,b2,h0,ACn,if_false,s2 b1,b1,Bool.false_or]
    exact ih (r+1) fu ch (by omega) (by omega)
  ·have hcan:BT g.1.toNat (Ax g.1.toNat g.2.1) f c r=false:=by
    unfold BT
    simp [hf]
   simp only [hf,decide_false,ACn,if_false,s2 hcan,hcan,Bool.false_or]
   exact ih (r+1) fu ch (by omega) (by omega)
theorem Anx (l:List Int) (h:l.length<=1000):Ed 0 (l,())=some (l,()):=by
 unfold Ed
 have:decide (List.length ([]:List Int)+List.length l<=lim)=true:=by unfold lim;simp;omega
 simp only [this,if_true,List.nil_append]
theorem Apd (N:Nat) (hN:10<=N) (g:Gr) (hG:grB g=true) (t:Nat) (ht:t<=900) (f:Nat->Nat->Int) (hI:InvT g.1.toNat (Ax g.1.toNat g.2.1) t f):∀(k c fu:Nat) (ch:Bool),c+k=g.1.toNat->k<fu ->
  Kw N fu (g,AM g.1.toNat f,ch,(List.range c).map (fun c=>(List.range g.1.toNat).map (B4 g.1.toNat (Ax g.1.toNat g.2.1) (t:Int) f c)),(c:Int),()) =
   some (.inl (g,ch||(List.range' c k).any (fun c=>(List.range g.1.toNat).any fun j=>BT g.1.toNat (Ax g.1.toNat g.2.1) f c j),AM g.1.toNat (B4 g.1.toNat (Ax g.1.toNat g.2.1) (t:Int) f),())):=by
 obtain ⟨g1,g2,g3,g4⟩:=AV hG
 intro k
 induction k with
 | zero=>
  intro c fu ch h1 h2
  obtain ⟨fu,rfl⟩:∃m,fu=m+1:=⟨fu-1,by omega⟩
  have e:c=g.1.toNat:=by omega
  subst e
  show Hx N (Kw N fu) _=_
  unfold Hx
  have:decide (((g.1.toNat:Nat):Int)<g.1)=false:=by simp;omega
  simp only [this,ACn,if_false,List.range'_zero,List.any_nil,Bool.or_false]
  rfl
 | succ k ih=>
  intro c fu ch h1 h2
  obtain ⟨fu,rfl⟩:∃m,fu=m+1:=⟨fu-1,by omega⟩
  have hc:c<g.1.toNat:=by omega
  have hlt:decide ((c:Int)<g.1)=true:=by simp;omega
  have hidx:Ak (c:Int) (AM g.1.toNat f).length=true:=Ag (by rw [RP];exact hc)
  have hat:at_ Af (AM g.1.toNat f) c=(List.range g.1.toNat).map (f c):=by
   have hl:c<(AM g.1.toNat f).length:=by rw [RP];exact hc
   have e:at_ Af (AM g.1.toNat f) c=(AM g.1.toNat f)[c]:=Aw (e:=Af) hl
   rw [e]
   have:=SJ f hc
   rw [ACz hl] at this
   exact ACs this
  have hin:=Amu N g hG t ht f hI ((List.range c).map (fun c=>(List.range g.1.toNat).map (B4 g.1.toNat (Ax g.1.toNat g.2.1) (t:Int) f c))) c hc g.1.toNat 0 N ch (by omega) (by omega)
  rw [Akk,Aix] at hin
  simp only [Int.natCast_zero] at hin
  have hle:∀v:List Int,decide (((List.range c).map (fun c=>(List.range g.1.toNat).map (B4 g.1.toNat (Ax g.1.toNat g.2.1) (t:Int) f c))).length+List.length [v]<=lim)=true:=fun v=>by
   unfold lim
   simp
   omega
  show Hx N (Kw N fu) _=_
  unfold Hx
  simp only [hlt,if_true,hidx,Int.toNat_natCast,hat,Anx ((List.range g.1.toNat).map (f c)) (by simp;omega),Option.bind_some,hin,hle,Jy hc g3,JO c (fun c=>(List.range g.1.toNat).map (B4 g.1.toNat (Ax g.1.toNat g.2.1) (t:Int) f c))]
  rw [ih (c+1) fu _ (by omega) (by omega),List.range'_succ,List.any_cons,Bool.or_assoc,List.range_eq_range']
theorem Aou (N:Nat) (hN:10<=N) (g:Gr) (hG:grB g=true):∀(k t:Nat) (f:Nat->Nat->Int),InvT g.1.toNat (Ax g.1.toNat g.2.1) t f->t+k<=900->VL g.1.toNat f<k -> ∀fu,k+1<=fu ->
  Ly N fu (g,AM g.1.toNat f,true,())=some (.inl (AM g.1.toNat (CT g.1.toNat (Ax g.1.toNat g.2.1) k (t:Int) f),())):=by
 obtain ⟨g1,g2,g3,g4⟩:=AV hG
 have hb:=Fe g.1.toNat g.2.1
 intro k
 induction k with
 | zero=>intro t f _ _ h;omega
 | succ k ih=>
  intro t f hI ht hn fu hfu
  obtain ⟨fu,rfl⟩:∃m,fu=m+1:=⟨fu-1,by omega⟩
  have hin:=Apd N hN g hG t (by omega) f hI g.1.toNat 0 N false (by omega) (by omega)
  simp only [List.range_zero,List.map_nil,Int.natCast_zero,Bool.false_or,<- List.range_eq_range'] at hin
  show M4 N (Ly N fu) _=_
  unfold M4
  simp only [if_true,hin,Option.bind_some,CT]
  by_cases ha:KQ g.1.toNat (BT g.1.toNat (Ax g.1.toNat g.2.1) f)=true
  ·have ha':((List.range g.1.toNat).any fun c=>(List.range g.1.toNat).any fun j=>BT g.1.toNat (Ax g.1.toNat g.2.1) f c j)=true:=ha
   rw [if_pos ha,ha']
   have:=JV (t:=(t:Int)) (by omega) ha
   have:=ih (t+1) _ (hI.next hb) (by omega) (by omega) fu (by omega)
   exact this
  ·have ha':((List.range g.1.toNat).any fun c=>(List.range g.1.toNat).any fun j=>BT g.1.toNat (Ax g.1.toNat g.2.1) f c j)=false:=(Bool.not_eq_true _).mp ha
   rw [if_neg ha,ha']
   obtain ⟨fu,rfl⟩:∃m,fu=m+1:=⟨fu-1,by omega⟩
   have e:AM g.1.toNat (B4 g.1.toNat (Ax g.1.toNat g.2.1) (t:Int) f)=AM g.1.toNat f:=Dv fun c r hc hr=>by
    refine if_neg fun h=>ha ?_
    exact EB.2 ⟨c,r,hc,hr,h⟩
   rw [e]
   rfl
theorem Yl (d) (r) (h:HP d=some r):∃N,UO N d=some r:=by
 obtain ⟨g,_⟩:=d
 unfold HP at h
 split at h
 ·rename_i hG
  have hG:grB g=true:=hG
  obtain ⟨g1,g2,g3,g4⟩:=AV hG
  have h:=ACs h
  subst h
  refine ⟨100,?_⟩
  unfold UO
  have h0:=Ape 100 (by omega) g g.1.toNat g2 g3 g.1.toNat 0 100 (by omega) (by omega)
  simp only [List.range_zero,List.map_nil,Int.natCast_zero] at h0
  have hnn:g.1.toNat*g.1.toNat<=8*8:=Nat.mul_le_mul g3 g3
  have hneg:=Q6 g.1.toNat A0
  have h4:=Aou 100 (by omega) g hG 65 1 A0 (InvT.start _ _) (by omega) (by omega) 100 (by omega)
  simp only [h0,Option.bind_some,h4]
  rfl
 ·cases h
open Go.Proofs
theorem Bl {l:List Int} (h:CA l=true):l=toI (Ca l)/\okN l.length (Ca l)/\l.length<=8 /\ ∀x,x<l.length->(Ca l).getD x 0<2 ^ l.length:=by
 unfold CA at h
 simp only [ACo,List.all_eq_true,decide_eq_true_eq] at h
 obtain ⟨h1,h2⟩:=h
 obtain ⟨e,hm,h8⟩:=YV h1
 refine ⟨e,hm,h8,fun x hx => ?_⟩
 have hx':x<(Ca l).length:=by rw [hm.1];exact hx
 have h3:=h2 l[x] (ACw hx)
 simp only [ACy,ACz hx',Option.getD_some]
 have e2:(Ca l)[x]=l[x].toNat:=by simp [Ca]
 rw [e2]
 have:0<2 ^ l.length:=Nat.two_pow_pos _
 omega
theorem Axr {x n:Nat} (h:x<n):2 ^ x<2 ^ n:=Nat.pow_lt_pow_right (by omega) h
theorem Awc {l:List Int} (h:CA l=true) {x:Nat} (hx:x<l.length):(Ca l).getD x 0|||2 ^ x<256/\(Ca l).getD x 0|||2 ^ x<2 ^ l.length:=by
 obtain ⟨e,hm,h8,hb⟩:=Bl h
 exact ⟨Nat.or_lt_two_pow (n:=8) (hm.2 x) (CL (by omega)),Nat.or_lt_two_pow (hb x hx) (Axr hx)⟩
theorem LG {l:List Int} (h:CA l=true):DE l.length (AF l):=by
 intro x hx z hz
 unfold AF at hz
 obtain ⟨y,_,_,h3,h4⟩:=Cs.1 hz
 refine ⟨y,?_,h4⟩
 rcases Nat.lt_or_ge y l.length with h5 | h5
 ·exact h5
 ·rw [Int.toNat_natCast] at h3
  rw [Nat.testBit_lt_two_pow (Nat.lt_of_lt_of_le (Awc h hx).2 (Nat.pow_le_pow_right (by omega) h5))] at h3
  cases h3
theorem D5 (l:List Int) (x:Int):(AF l x).length<=8:=C3
theorem LR {l:List Int} (h:CA l=true) (u:Unit) {x:Nat} (hx:x<l.length):IE 0 ((l,u),(x:Int),())=some ((((Ca l).getD x 0|||2 ^ x:Nat):Int),()):=by
 obtain ⟨e,hm,h8,hb⟩:=Bl h
 unfold IE
 have i1:Ak (x:Int) l.length=true:=Ag hx
 have e1:at_ I l x=(((Ca l).getD x 0:Nat):Int):=by
  have:=Arz (Ca l) x
  rw [<- e] at this
  exact this
 simp only [i1,if_true,AN,Int.toNat_natCast,e1,GO (show x<8 by omega),QL (hm.2 x) (CL (show x<8 by omega))]
theorem Zg {l:List Int} (h:CA l=true) {x:Nat} (hx:x<l.length):Di ((((Ca l).getD x 0|||2 ^ x:Nat):Int),())=some (AF l (x:Int),()):=by
 have hm:=(Awc h hx).1
 unfold Di
 have b2:decide ((((Ca l).getD x 0|||2 ^ x:Nat):Int)<256)=true:=by
  simp only [decide_eq_true_eq]
  omega
 simp only [AN,b2,Bool.and_self,if_true,Int.toNat_natCast]
 rfl
theorem IJ {n:Nat} {x:Int} (h:inB 0 ((n:Int)-1) x=true):x=(x.toNat:Int)/\x.toNat<n:=by
 have:=AI.1 h
 omega
theorem Ao1 (N n:Nat) (row:List Int) (hrow:row.length=n) (ball:List Int) (hb:∀z∈ball,∃y:Nat,y<n/\z=(y:Int)) (hl:ball.length<=1000):∀(k i f:Nat) (m:Int),i+k=ball.length->k<f ->
  FO N f (row,m,ball,(ball.length:Int),(i:Int),())=some (.inl (A6 (fun z=>row.getD z.toNat 0) (ball.drop i) m,()))\/FO N f (row,m,ball,(ball.length:Int),(i:Int),())=some (.inr (.inl (A6 (fun z=>row.getD z.toNat 0) (ball.drop i) m,()))):=by
 have hmx:ball.length<=maxLen:=by unfold maxLen;omega
 intro k
 induction k with
 | zero=>
  intro i f m h1 h2
  obtain ⟨f,rfl⟩:∃m,f=m+1:=⟨f-1,by omega⟩
  have e:i=ball.length:=by omega
  subst e
  rw [ACu (ACr _)]
  right
  simp [FO,Ko,A6]
 | succ k ih=>
  intro i f m h1 h2
  obtain ⟨f,rfl⟩:∃m,f=m+1:=⟨f-1,by omega⟩
  have hi:i<ball.length:=by omega
  obtain ⟨y,hy,ey⟩:=hb ball[i] (ACw hi)
  have e:at_ I ball i=(y:Int):=(Aw (e:=I) hi).trans ey
  have i2:Ak (y:Int) row.length=true:=Ag (by omega)
  have hy':y<row.length:=by omega
  have hv:at_ I row y=row.getD y 0:=by
   rw [Aw (e:=I) hy']
   simp [ACy,hy']
  have hd:ball.drop i=(y:Int)::ball.drop (i+1):=by rw [ACv hi,ey]
  have step:FO N (f+1) (row,m,ball,(ball.length:Int),(i:Int),())=if row.getD y 0<0 then some (.inl (-1,())) else FO N f (row,(if m<row.getD y 0 then row.getD y 0 else m),ball,(ball.length:Int),((i+1:Nat):Int),()):=by
   show Ko N (FO N f) (row,m,ball,(ball.length:Int),(i:Int),())=_
   unfold Ko
   simp only [AD hi,if_true,Ag hi,Int.toNat_natCast,e,i2,hv,BK hi hmx]
   by_cases h:row.getD y 0<0
   ·simp only [h,decide_true,if_true]
   ·simp only [h,decide_false,ACn,if_false]
  rw [step,hd]
  simp only [A6,Int.toNat_natCast]
  by_cases h:row.getD y 0<0
  ·rw [if_pos h,if_pos h]
   exact .inl rfl
  ·rw [if_neg h,if_neg h]
   exact ih (i+1) f _ (by omega) (by omega)
theorem Tl (d) (r) (h:CP d=some r):∃N,Uw N d=some r:=by
 obtain ⟨⟨l,u⟩,row,q,_⟩:=d
 unfold CP at h
 split at h
 ·rename_i hc
  simp only [ACo,decide_eq_true_eq] at hc
  obtain ⟨⟨hn,hrow⟩,hq⟩:=hc
  obtain ⟨q1,q2⟩:=IJ hq
  have h:=ACs h
  subst h
  refine ⟨20,?_⟩
  unfold Uw
  have hbl:=D5 l (q.toNat:Int)
  have hc:=LR hn u q2
  have hs:=Zg hn q2
  have:=Ao1 20 l.length row hrow (AF l (q.toNat:Int)) (LG hn q.toNat q2) (by omega) (AF l (q.toNat:Int)).length 0 20 0 (by omega) (by omega)
  simp only [Int.natCast_zero,List.drop_zero] at this
  rw [<- q1] at hc hs this
  simp only [hc,Option.bind_some,hs]
  rcases this with h | h
  ·simp only [h,Option.bind_some]
  ·simp only [h,Option.bind_some]
 ·cases h
theorem Ai9 {l:List Int} (hn:CA l=true) (u v w:Unit) {T:Tab} (hT:sqL l.length T=true) {b q:Nat} (hb:b<l.length) (hq:q<l.length):Q5 ((b:Int),(v,(q:Int),(l,u),T,w),())=some (decide (0<=AE (AF l) T (b:Int) (q:Int)),()):=by
 obtain ⟨t1,t2⟩:=Dw hT
 unfold Q5 WI AE
 by_cases e:(b:Int)=(q:Int)
 ·simp [e]
 ·have e':((b:Int)==(q:Int))=false:=by simpa using e
  have i1:Ak (b:Int) T.length=true:=Ag (by omega)
  have i2:inB 0 ((l.length:Int)-1) (q:Int)=true:=AI.2 (by omega)
  have hlen:decide ((at_ Af T b).length=l.length)=true:=decide_eq_true (t2 b hb)
  simp only [e',e,ACn,if_false,i1,if_true,Int.toNat_natCast,CP,hn,hlen,i2,Bool.and_self,Option.bind_some]
  have hw:A6 (fun z=>(at_ Af T b).getD z.toNat 0) (AF l (q:Int)) 0=A6 (AY T (b:Int)) (AF l (q:Int)) 0:=GL fun z hz=>by
   have hlt:b<T.length:=by omega
   have ea:at_ Af T b=T[b]:=Aw (e:=Af) hlt
   unfold AY
   simp only [ea,Int.toNat_natCast,ACy,ACz hlt,Option.getD_some]
  rw [hw]
theorem WM (d) (r) (h:GE d=some r):∃N,Ael N d=some r:=by
 obtain ⟨xs,⟨v,q,⟨l,u⟩,T,w⟩,_⟩:=d
 unfold GE at h
 split at h
 ·rename_i hc
  simp only [ACo] at hc
  obtain ⟨⟨⟨⟨hn,hT⟩,hq⟩,hxs⟩,hlen⟩:=hc
  have hlen:xs.length<=1000:=of_decide_eq_true hlen
  obtain ⟨q1,q2⟩:=IJ hq
  have h:=ACs h
  subst h
  have hmx:xs.length<=maxLen:=by unfold maxLen;omega
  refine ⟨xs.length+1,?_⟩
  unfold Ael
  have:=Gs (L:=VB (xs.length+1)) (r:=LB (xs.length+1)) (fun _ _=>rfl) (e:=I) xs (mk:=fun i=>(xs,(v,q,(l,u),T,w),(xs.length:Int),(i:Int),())) (q:=fun b=>decide (0<=AE (AF l) T b q)) (o:=fun i=>.inl ((i:Int),())) (f:=.inr (.inl ()))
   (by
    intro back i hi
    have hx:at_ I xs i=xs[i]:=Aw (e:=I) hi
    obtain ⟨b1,b2⟩:=IJ (List.all_eq_true.1 hxs xs[i] (ACw hi))
    have hcan:=Ai9 hn u v w hT b2 q2
    rw [<- b1,<- q1] at hcan
    unfold LB
    simp only [AD hi,if_true,Ag hi,Int.toNat_natCast,BK hi hmx,hx,hcan,Option.bind_some])
   (by intro back;unfold LB;simp only [A4,ACn,if_false]) xs.length 0 (by omega) (by omega)
  simp only [Int.natCast_zero,List.drop_zero] at this
  simp only [this,Option.bind_some]
  cases ER (fun b=>decide (0<=AE (AF l) T b q)) xs 0<;>rfl
 ·cases h
theorem X1 {l:List Int} (hn:CA l=true) (u:Unit) {T:Tab} (hT:sqL l.length T=true) {c q:Nat} (hc:c<l.length) (hq:q<l.length):RO 0 ((l,u),T,(c:Int),(q:Int),())=some ((AF l (c:Int)).any (fun b=>decide (0<=AE (AF l) T b (q:Int))),()):=by
 unfold RO Adz
 have i2:inB 0 ((l.length:Int)-1) (q:Int)=true:=AI.2 (by omega)
 have hall:(AF l (c:Int)).all (inB 0 ((l.length:Int)-1))=true:=List.all_eq_true.2 fun z hz=>by
  obtain ⟨y,hy,rfl⟩:=LG hn c hc z hz
  exact AI.2 (by omega)
 have hbl:=D5 l (c:Int)
 have hs1:Amt (AF l (c:Int))=true:=decide_eq_true (by omega)
 simp only [LR hn u hc,Zg hn hc,Option.bind_some,GE,hn,hT,i2,hall,hs1,Bool.and_self,if_true,JY]
theorem Ajv (n c:Nat) (hc:c<n):(List.replicate n (-1:Int)).set c 0=(List.range n).map (A0 c):=by
 apply List.ext_getElem
 ·simp
 ·intro i h1 h2
  rw [List.getElem_set]
  simp only [List.getElem_replicate,List.getElem_map,List.getElem_range,A0]
theorem Aey (pre:Tab) (x:List Int) (post:Tab):at_ Af (pre++x::post) pre.length=x:=by
 rw [Aw (e:=Af) (by simp)]
 simp
theorem Xa (pre:Tab) (x y:List Int) (post:Tab):List.set (pre++x::post) pre.length y=pre++y::post:=by simp
theorem Ayb (N:Nat) (w:Nt) (n:Nat) (hn:n<=8):∀(k:Nat) (pre:Tab) (f:Nat),pre.length+k=n->k<f->pre=(List.range pre.length).map (fun c=>(List.range n).map (A0 c)) ->
  Ku N f (w,(n:Int),pre++List.replicate k [],(n:Int),(pre.length:Int),())=some (.inl (w,(n:Int),AM n A0,())):=by
 intro k
 induction k with
 | zero=>
  intro pre f h1 h2 h3
  obtain ⟨f,rfl⟩:∃m,f=m+1:=⟨f-1,by omega⟩
  have e:n=pre.length:=by omega
  subst e
  show HE N (Ku N f) _=_
  unfold HE
  have:decide ((pre.length:Int)<(pre.length:Int))=false:=by simp
  simp only [this,ACn,if_false,List.replicate_zero,List.append_nil]
  have e:pre=AM pre.length A0:=h3
  rw [<- e]
 | succ k ih=>
  intro pre f h1 h2 h3
  obtain ⟨f,rfl⟩:∃m,f=m+1:=⟨f-1,by omega⟩
  have hc:pre.length<n:=by omega
  show HE N (Ku N f) _=_
  unfold HE
  have hr:Dq ([-1],(n:Int),())=some (List.replicate n (-1),()):=by
   unfold Dq
   have e1:decide (1<=(n:Int))=true:=by simp;omega
   have e2:decide ((n:Int)<=8)=true:=by simp;omega
   simp only [List.length_singleton,decide_true,e1,e2,Bool.and_self,if_true,Int.toNat_natCast,List.headD_cons]
  have i1:Ak (pre.length:Int) (pre++[]::List.replicate k ([]:List Int)).length=true:=Ag (by simp)
  have i2:Ak (pre.length:Int) (pre++List.replicate n (-1)::List.replicate k ([]:List Int)).length=true:=Ag (by simp)
  have i3:Ak (pre.length:Int) (List.replicate n (-1:Int)).length=true:=Ag (by simp;exact hc)
  simp only [List.replicate_succ,AD hc,if_true,hr,Option.bind_some,i1,Int.toNat_natCast,Xa,i2,Aey,i3,Jy hc hn,Ajv n pre.length hc]
  have:=ih (pre++[(List.range n).map (A0 pre.length)]) f (by simp;omega) (by omega) (by
   simp only [List.length_append,List.length_singleton]
   rw [<- JO pre.length (fun c=>(List.range n).map (A0 c)),<- h3])
  simp only [List.length_append,List.length_singleton,List.append_assoc,List.singleton_append] at this
  exact this
theorem Az2 (N:Nat) (l:List Int) (hn:CA l=true) (u:Unit) (f:Nat->Nat->Int) (t:Int) (fd:Bool) (c:Nat) (hc:c<l.length) (s38 s39:Int):∀(k r fu:Nat) (fresh:List E),r+k=l.length->k<fu->fresh.length+k<=1000 ->
  J0 N fu ((l,u),(l.length:Int),AM l.length f,t,fd,fresh,(c:Int),s38,s39,(l.length:Int),(r:Int),()) =
   some (.inl ((l,u),(l.length:Int),AM l.length f,t,fd,fresh++Lh (BT l.length (AF l) f) c k r,s38,s39,())):=by
 obtain ⟨e,hm,h8,hb⟩:=Bl hn
 intro k
 induction k with
 | zero=>
  intro r fu fresh h1 h2 h3
  obtain ⟨fu,rfl⟩:∃m,fu=m+1:=⟨fu-1,by omega⟩
  have e:r=l.length:=by omega
  subst e
  show Hw N (J0 N fu) _=_
  unfold Hw
  have:decide ((l.length:Int)<(l.length:Int))=false:=by simp
  simp only [this,ACn,if_false,Lh,List.append_nil]
 | succ k ih=>
  intro r fu fresh h1 h2 h3
  obtain ⟨fu,rfl⟩:∃m,fu=m+1:=⟨fu-1,by omega⟩
  have hr:r<l.length:=by omega
  have hsq:=Qv l.length f
  obtain ⟨t1,t2⟩:=Dw hsq
  have i1:Ak (c:Int) (AM l.length f).length=true:=Ag (by omega)
  have i2:Ak (r:Int) (at_ Af (AM l.length f) c).length=true:=Ag (by rw [t2 c hc];exact hr)
  have hv:at_ I (at_ Af (AM l.length f) c) r=f c r:=(VE hsq hc hr).trans (Bj f hc hr)
  have hle:decide (fresh.length+List.length [(((c:Int),(r:Int),()):E)]<=lim)=true:=by
   unfold lim
   simp
   omega
  show Hw N (J0 N fu) _=_
  unfold Hw
  simp only [AD hr,if_true,i1,Int.toNat_natCast,i2,hv,Jy hr h8,X1 hn u hsq hc hr,Option.bind_some,hle,Lh]
  by_cases hf:f c r<0
  ·cases hany:(AF l (c:Int)).any (fun b=>decide (0<=AE (AF l) (AM l.length f) b (r:Int))) with
   | true=>
    have hcan:BT l.length (AF l) f c r=true:=by
     unfold BT
     simp only [hf,decide_true,hany,Bool.and_self]
    simp only [hf,decide_true,if_true,hcan]
    rw [ih (r+1) fu _ (by omega) (by omega) (by simp;omega)]
    simp
   | false=>
    have hcan:BT l.length (AF l) f c r=false:=by
     unfold BT
     simp only [hf,decide_true,hany,Bool.and_false]
    simp only [hf,decide_true,if_true,hcan,ACn,if_false]
    exact ih (r+1) fu fresh (by omega) (by omega) (by omega)
  ·have hcan:BT l.length (AF l) f c r=false:=by
    unfold BT
    simp only [hf,decide_false,Bool.false_and]
   simp only [hf,decide_false,ACn,if_false,hcan]
   exact ih (r+1) fu fresh (by omega) (by omega) (by omega)
def GC (p:Nat->Nat->Bool) (n:Nat):Nat->Nat->List E
 | 0,_=>[]
 | k+1,c=>Lh p c n 0++GC p n k (c+1)
theorem Ay4 (N:Nat) (hN:10<=N) (l:List Int) (hn:CA l=true) (u:Unit) (f:Nat->Nat->Int) (t:Int) (fd:Bool):∀(k c fu:Nat) (fresh:List E),c+k=l.length->k<fu->fresh.length+8*k<=900 ->
  Ka N fu ((l,u),(l.length:Int),AM l.length f,t,fd,fresh,(l.length:Int),(c:Int),()) =
   some (.inl ((l,u),(l.length:Int),AM l.length f,t,fd,fresh++GC (BT l.length (AF l) f) l.length k c,())):=by
 obtain ⟨e,hm,h8,hb⟩:=Bl hn
 intro k
 induction k with
 | zero=>
  intro c fu fresh h1 h2 h3
  obtain ⟨fu,rfl⟩:∃m,fu=m+1:=⟨fu-1,by omega⟩
  have e:c=l.length:=by omega
  subst e
  show HM N (Ka N fu) _=_
  unfold HM
  have:decide ((l.length:Int)<(l.length:Int))=false:=by simp
  simp only [this,ACn,if_false,GC,List.append_nil]
 | succ k ih=>
  intro c fu fresh h1 h2 h3
  obtain ⟨fu,rfl⟩:∃m,fu=m+1:=⟨fu-1,by omega⟩
  have hc:c<l.length:=by omega
  have hin:=Az2 N l hn u f t fd c hc (l.length:Int) (c:Int) l.length 0 N fresh (by omega) (by omega) (by omega)
  simp only [Int.natCast_zero] at hin
  have hrl:=Sh (p:=BT l.length (AF l) f) (x:=c) (m:=l.length) (y:=0)
  show HM N (Ka N fu) _=_
  unfold HM
  simp only [AD hc,if_true,hin,Option.bind_some,Jy hc h8,GC]
  rw [ih (c+1) fu _ (by omega) (by omega) (by simp;omega),List.append_assoc]
theorem Af3 {p:Nat->Nat->Bool} {x:Nat}:∀{m y:Nat} {e:E},e∈Lh p x m y ↔ ∃z:Nat,y<=z/\z<y+m/\p x z=true/\e=((x:Int),(z:Int),()):=by
 intro m
 induction m with
 | zero=>intro y e;simp only [Lh,List.not_mem_nil,false_iff];rintro ⟨z,h1,h2,_⟩;omega
 | succ m ih=>
  intro y e
  unfold Lh
  by_cases h:p x y=true
  ·rw [if_pos h,List.mem_cons,ih]
   constructor
   ·rintro (rfl | ⟨z,h1,h2,h3⟩)
    ·exact ⟨y,ACr _,by omega,h,rfl⟩
    ·exact ⟨z,by omega,by omega,h3⟩
   ·rintro ⟨z,h1,h2,h3,h4⟩
    by_cases ez:z=y
    ·subst ez;exact .inl h4
    ·exact .inr ⟨z,by omega,by omega,h3,h4⟩
  ·rw [if_neg h,ih]
   constructor
   ·rintro ⟨z,h1,h2,h3⟩
    exact ⟨z,by omega,by omega,h3⟩
   ·rintro ⟨z,h1,h2,h3,h4⟩
    by_cases ez:z=y
    ·subst ez;exact absurd h3 h
    ·exact ⟨z,by omega,by omega,h3,h4⟩
theorem DM {p:Nat->Nat->Bool} {n:Nat}:∀{k c:Nat} {e:E},e∈GC p n k c ↔ ∃x z:Nat,c<=x/\x<c+k/\z<n/\p x z=true/\e=((x:Int),(z:Int),()):=by
 intro k
 induction k with
 | zero=>intro c e;simp only [GC,List.not_mem_nil,false_iff];rintro ⟨x,z,h1,h2,_⟩;omega
 | succ k ih=>
  intro c e
  simp only [GC,List.mem_append,Af3,ih]
  constructor
  ·rintro (⟨z,h1,h2,h3,h4⟩ | ⟨x,z,h1,h2,h3,h4,h5⟩)
   ·exact ⟨c,z,ACr _,by omega,by omega,h3,h4⟩
   ·exact ⟨x,z,by omega,by omega,h3,h4,h5⟩
  ·rintro ⟨x,z,h1,h2,h3,h4,h5⟩
   by_cases ex:x=c
   ·subst ex;exact .inl ⟨z,by omega,by omega,h4,h5⟩
   ·exact .inr ⟨x,z,by omega,by omega,h3,h4,h5⟩
def isP (c r:Nat) (e:E):Bool:=e.1==(c:Int)&&e.2.1==(r:Int)
theorem Aq6 {n:Nat} {g:Nat->Nat->Int} {x z:Nat} (hx:x<n) (hz:z<n) (t:Int):List.set (AM n g) x (List.set (at_ Af (AM n g) x) z t)=AM n fun c r=>if c=x/\r=z then t else g c r:=by
 have hl:x<(AM n g).length:=by rw [RP];exact hx
 have e:at_ Af (AM n g) x=(AM n g)[x]:=Aw (e:=Af) hl
 have hrow:=SJ g hx
 rw [ACz hl] at hrow
 rw [e,ACs hrow,map_set]
 apply List.ext_getElem
 ·simp [AM]
 ·intro i h1 h2
  rw [List.getElem_set]
  by_cases ei:x=i
  ·subst ei
   simp only [if_true,AM,List.getElem_map,List.getElem_range,true_and]
  ·have ei':¬i=x:=fun h=>ei h.symm
   simp only [ei,if_false,AM,List.getElem_map,List.getElem_range,ei',false_and]
theorem Aw2 (N:Nat) (w:Nt) (n:Nat) (t:Int) (fresh:List E) (hfr:∀e∈fresh,∃x z:Nat,x<n/\z<n/\e=((x:Int),(z:Int),())) (hl:fresh.length<=900):∀(k i fu:Nat) (g:Nat->Nat->Int) (fd:Bool),i+k=fresh.length->k<fu ->
  KO N fu (w,(n:Int),AM n g,t,fd,fresh,(fresh.length:Int),(i:Int),()) =
   some (.inl (w,(n:Int),AM n (fun c r=>if (fresh.drop i).any (isP c r)=true then t else g c r),t,fd||decide (0<k),())):=by
 have hmx:fresh.length<=maxLen:=by unfold maxLen;omega
 intro k
 induction k with
 | zero=>
  intro i fu g fd h1 h2
  obtain ⟨fu,rfl⟩:∃m,fu=m+1:=⟨fu-1,by omega⟩
  have e:i=fresh.length:=by omega
  subst e
  show Ig N (KO N fu) _=_
  unfold Ig
  have:decide ((fresh.length:Int)<(fresh.length:Int))=false:=by simp
  rw [ACu (ACr _)]
  simp only [this,ACn,if_false,List.any_nil,Nat.lt_irrefl,decide_false,Bool.or_false]
 | succ k ih=>
  intro i fu g fd h1 h2
  obtain ⟨fu,rfl⟩:∃m,fu=m+1:=⟨fu-1,by omega⟩
  have hi:i<fresh.length:=by omega
  obtain ⟨x,z,hx,hz,ee⟩:=hfr fresh[i] (ACw hi)
  have e:at_ Aj fresh i=((x:Int),(z:Int),()):=(Aw (e:=Aj) hi).trans ee
  obtain ⟨t1,t2⟩:=Dw (Qv n g)
  have i1:Ak (x:Int) (AM n g).length=true:=Ag (by omega)
  have i2:Ak (z:Int) (at_ Af (AM n g) x).length=true:=Ag (by rw [t2 x hx];exact hz)
  show Ig N (KO N fu) _=_
  unfold Ig
  simp only [AD hi,if_true,Ag hi,Int.toNat_natCast,e,i1,i2,BK hi hmx,Aq6 hx hz]
  rw [ih (i+1) fu _ true (by omega) (by omega),ACv hi,ee]
  have et:AM n (fun c r=>if (fresh.drop (i+1)).any (isP c r)=true then t else if c=x/\r=z then t else g c r)=AM n fun c r=>if (((x:Int),(z:Int),())::fresh.drop (i+1)).any (isP c r)=true then t else g c r:=Dv fun c r _ _=>by
   rw [List.any_cons]
   by_cases h3:(fresh.drop (i+1)).any (isP c r)=true
   ·simp [h3]
   ·have h3':(fresh.drop (i+1)).any (isP c r)=false:=by simpa using h3
    by_cases h4:c=x/\r=z
    ·have:isP c r ((x:Int),(z:Int),())=true:=by
      unfold isP
      simp [h4.1,h4.2]
     rw [if_neg h3,if_pos h4,this,Bool.true_or,if_pos rfl]
    ·have:isP c r ((x:Int),(z:Int),())=false:=by
      unfold isP
      simp only [Bool.and_eq_false_iff,beq_eq_false_iff_ne,ne_eq]
      by_cases h5:c=x
      ·exact .inr fun h=>h4 ⟨h5,by omega⟩
      ·exact .inl fun h=>h5 (by omega)
     simp [h3',h4,this]
  rw [et]
  simp
theorem YB {p:Nat->Nat->Bool} {n:Nat}:∀{k c:Nat},(GC p n k c).length<=n*k:=by
 intro k
 induction k with
 | zero=>intro c;simp [GC]
 | succ k ih=>
  intro c
  have h1:=Sh (p:=p) (x:=c) (m:=n) (y:=0)
  have h2:=ih (c:=c+1)
  simp only [GC,List.length_append,Nat.mul_succ]
  omega
theorem Apx {p:Nat->Nat->Bool} {n c r:Nat} (hc:c<n) (hr:r<n):(GC p n n 0).any (isP c r)=p c r:=by
 apply Bool.eq_iff_iff.2
 rw [List.any_eq_true]
 constructor
 ·rintro ⟨e,he,h⟩
  obtain ⟨x,z,h1,h2,h3,h4,rfl⟩:=DM.1 he
  unfold isP at h
  simp only [ACo,beq_iff_eq] at h
  have e1:x=c:=by omega
  have e2:z=r:=by omega
  subst e1 e2
  exact h4
 ·intro h
  exact ⟨((c:Int),(r:Int),()),DM.2 ⟨c,r,Nat.zero_le _,by omega,hr,h,rfl⟩,by unfold isP;simp⟩
theorem Aon {p:Nat->Nat->Bool} {n:Nat}:decide (0<(GC p n n 0).length)=KQ n p:=by
 apply Bool.eq_iff_iff.2
 rw [decide_eq_true_eq,EB]
 constructor
 ·intro h
  obtain ⟨x,z,h1,h2,h3,h4,_⟩:=DM.1 (ACw h)
  exact ⟨x,z,by omega,h3,h4⟩
 ·rintro ⟨c,r,hc,hr,h⟩
  exact List.length_pos_of_mem (DM.2 ⟨c,r,Nat.zero_le _,by omega,hr,h,rfl⟩)
theorem Axi (N:Nat) (hN:100<=N) (l:List Int) (hn:CA l=true) (u:Unit):∀(k t:Nat) (f:Nat->Nat->Int),t+k<=900->VL l.length f<k -> ∀fu,k+1<=fu ->
  LF N fu ((l,u),(l.length:Int),AM l.length f,(t:Int),true,())=some (.inl (AM l.length (CT l.length (AF l) k (t:Int) f),())):=by
 obtain ⟨e,hm,h8,hb⟩:=Bl hn
 intro k
 induction k with
 | zero=>intro t f _ h;omega
 | succ k ih=>
  intro t f ht hng fu hfu
  obtain ⟨fu,rfl⟩:∃m,fu=m+1:=⟨fu-1,by omega⟩
  have h4:=Ay4 N (by omega) l hn u f (t:Int) false l.length 0 N [] (by omega) (by omega) (by simp;omega)
  simp only [Int.natCast_zero,List.nil_append] at h4
  have hlen:=YB (p:=BT l.length (AF l) f) (n:=l.length) (k:=l.length) (c:=0)
  have hnn:l.length*l.length<=8*8:=Nat.mul_le_mul h8 h8
  have h8':=Aw2 N (l,u) l.length (t:Int) (GC (BT l.length (AF l) f) l.length l.length 0) (fun e he=>by
   obtain ⟨x,z,_,h2,h3,_,h5⟩:=DM.1 he
   exact ⟨x,z,by omega,h3,h5⟩) (by omega) (GC (BT l.length (AF l) f) l.length l.length 0).length 0 N f false (by omega) (by omega)
  simp only [Int.natCast_zero,List.drop_zero,Bool.false_or,Aon] at h8'
  have et:AM l.length (fun c r=>if (GC (BT l.length (AF l) f) l.length l.length 0).any (isP c r)=true then (t:Int) else f c r)=AM l.length (B4 l.length (AF l) (t:Int) f):=Dv fun c r hc hr=>by
   rw [Apx hc hr]
   rfl
  rw [et] at h8'
  have hw:IntKind.wrap .i64 ((t:Int)+1)=((t+1:Nat):Int):=by
   rw [BY _ (by omega) (by omega)]
   rfl
  show Nz N (LF N fu) _=_
  unfold Nz
  simp only [if_true,h4,Option.bind_some,h8',hw,CT]
  by_cases ha:KQ l.length (BT l.length (AF l) f)=true
  ·rw [if_pos ha,ha]
   have:=JV (t:=(t:Int)) (by omega) ha
   exact ih (t+1) _ (by omega) (by omega) fu (by omega)
  ·have ha':KQ l.length (BT l.length (AF l) f)=false:=(Bool.not_eq_true _).mp ha
   rw [if_neg ha,ha']
   obtain ⟨fu,rfl⟩:∃m,fu=m+1:=⟨fu-1,by omega⟩
   have e:AM l.length (B4 l.length (AF l) (t:Int) f)=AM l.length f:=Dv fun c r hc hr=>by
    refine if_neg fun h=>ha ?_
    exact EB.2 ⟨c,r,hc,hr,h⟩
   rw [e]
   rfl
theorem VJ (d) (r) (h:Gf d=some r):∃N,V3 N d=some r:=by
 obtain ⟨⟨l,u⟩,_⟩:=d
 unfold Gf at h
 split at h
 ·rename_i hn
  have hn:CA l=true:=hn
  obtain ⟨e,hm,h8,hb⟩:=Bl hn
  have h:=ACs h
  subst h
  refine ⟨100,?_⟩
  unfold V3 IQ
  have hc:(decide (0<=(l.length:Int))&&decide ((l.length:Int)<=(l.length:Int))&&decide ((l.length:Int)<=(lim:Int)))=true:=by
   have a1:(l.length:Int)<=(lim:Int):=by unfold lim;omega
   simp only [a1,AN,decide_true,Bool.and_self,Int.le_refl]
  have h0:=Ayb 100 (l,u) l.length h8 l.length [] 100 (by simp) (by omega) rfl
  simp only [List.nil_append,List.length_nil,Int.natCast_zero] at h0
  have hnn:l.length*l.length<=8*8:=Nat.mul_le_mul h8 h8
  have hneg:=Q6 l.length A0
  have h2:=Axi 100 (by omega) l hn u 65 1 A0 (by omega) (by omega) 100 (by omega)
  simp only [Int.natCast_one] at h2
  simp only [hc,if_true,Int.toNat_natCast,List.length_replicate,h0,Option.bind_some,h2]
  rfl
 ·cases h
theorem Gz {n:Nat} (hn:n<=8) {es:List E} (h:es.all (BI (n:Int))=true):CA (toI (Dn n es))=true/\(toI (Dn n es)).length=n:=by
 have hok:=Ae7 hn h
 have hl:(toI (Dn n es)).length=n:=by rw [Vm,hok.1]
 refine ⟨?_,hl⟩
 unfold CA
 rw [Alm hok hn,Bool.true_and,List.all_eq_true,hl]
 intro m hm
 unfold toI at hm
 obtain ⟨a,ha,rfl⟩:=List.mem_map.1 hm
 obtain ⟨i,hi,rfl⟩:=List.getElem_of_mem ha
 have hlt:(Dn n es)[i]<2 ^ n:=by
  refine Nat.lt_pow_two_of_testBit _ fun j hj => ?_
  have hb:=R8 hn h i j
  unfold Agd at hb
  simp only [ACy,ACz hi,Option.getD_some] at hb
  rw [hb,RJ es h]
  cases hnr:BH es (i:Int) (j:Int) with
  | false=>rfl
  | true=>have:=Adk h hnr;omega
 simp only [decide_eq_true_eq]
 omega
theorem M9 {n:Nat} (hn:n<=8) {es:List E} (h:es.all (BI (n:Int))=true) {x:Nat} (hx:x<n):AF (toI (Dn n es)) (x:Int)=Ax n es (x:Int):=by
 unfold AF Ax
 have hok:=Ae7 hn h
 have hM:isM n ((Dn n es).getD x 0|||2 ^ x) (fun y=>BH es (x:Int) (y:Int)||decide ((y:Int)=(x:Int))):=by
  refine ⟨Nat.or_lt_two_pow (n:=8) (hok.2 x) (CL (by omega)),fun w => ?_⟩
  rw [Nat.testBit_or,Nat.testBit_two_pow]
  have hb:=R8 hn h x w
  unfold Agd at hb
  rw [hb,RJ es h]
  apply Bool.eq_iff_iff.2
  simp only [Bool.or_eq_true,ACo,decide_eq_true_eq]
  constructor
  ·rintro (h' | h')
   ·exact ⟨Adk h h',.inl h'⟩
   ·subst h'
    exact ⟨hx,.inr rfl⟩
  ·rintro ⟨h1,h2 | h2⟩
   ·exact .inl h2
   ·exact .inr (by omega)
 simp only [Ams,Int.toNat_natCast]
 exact Alf hn hM
theorem K9 {n:Nat} {b1 b2:Int->List Int} (hb:∀x:Nat,x<n->b1 (x:Int)=b2 (x:Int)) {f g:Nat->Nat->Int} (h:∀c r,c<n->r<n->f c r=g c r) {c r:Nat} (hc:c<n) (hr:r<n):BT n b1 f c r=BT n b2 g c r:=by
 unfold BT AE
 rw [h c r hc hr,Dv h,hb c hc,hb r hr]
theorem Vv {n:Nat} {b1 b2:Int->List Int} (hb:∀x:Nat,x<n->b1 (x:Int)=b2 (x:Int)):∀(k:Nat) (t:Int) (f g:Nat->Nat->Int),(∀c r,c<n->r<n->f c r=g c r) -> ∀c r,c<n->r<n->CT n b1 k t f c r=CT n b2 k t g c r:=by
 intro k
 induction k with
 | zero=>intro t f g h c r hc hr;exact h c r hc hr
 | succ k ih=>
  intro t f g h c r hc hr
  have ha:KQ n (BT n b1 f)=KQ n (BT n b2 g):=by
   apply Bool.eq_iff_iff.2
   rw [EB,EB]
   constructor
   ·rintro ⟨c,r,hc,hr,hh⟩
    exact ⟨c,r,hc,hr,by rw [<- K9 hb h hc hr];exact hh⟩
   ·rintro ⟨c,r,hc,hr,hh⟩
    exact ⟨c,r,hc,hr,by rw [K9 hb h hc hr];exact hh⟩
  simp only [CT,ha]
  split
  ·refine ih (t+1) _ _ (fun c r hc hr => ?_) c r hc hr
   unfold B4
   rw [K9 hb h hc hr,h c r hc hr]
  ·exact h c r hc hr
theorem De {n:Int} {l:List E} {v:Unit} (h:A9 (n,l,v)=true) (hl:okL l=true):grB (n,l,v)=true:=by
 have h8:=DG h
 have he:=(FY h).1
 unfold grB
 have e1:decide (0<=n)=true:=by simp;omega
 have e2:decide (n<=8)=true:=by simp;omega
 simp only [hl,e1,e2,he,Bool.and_self]
end Go.V.W
end
