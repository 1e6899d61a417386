/- What the law FnWorkshops leans on, part 5: an interpreter of the model as plain data, its soundness, the functions as it tells them, and their laws. -/
import Derived.Test.YtcajgbmhldgmfaaGreatProg
import Derived.Laws.CopyOwn
import Derived.Deep.OwnRows
import Derived.WalkKit
import Derived.LoopN
import Derived.Deep.DeepFit
import Derived.Shelf.Lays
import Derived.IntWalk
import Derived.Lib.Builder
import Derived.Test.YtcajgbmhldgmfaaGreatVD
set_option linter.unusedVariables false
set_option linter.unusedSimpArgs false
set_option maxRecDepth 100000
namespace Go.V.W
open Go.Proofs
noncomputable def g_q57q (d:((Int×(List (Int×Int×Unit))×Unit)×Int×Int×List Int×Int×Unit)×Unit):Bool×Unit:=
 let a0:=d.1
 if (decide (a0.2.1>=(0:Int)))=true then
  if (decide (a0.2.2.1>=(0:Int)))=true then
   (a0.2.1 != a0.2.2.1,())
  else
   (false,())
 else
  (false,())
theorem F_q57q_tot (N:Nat) (d):F_q57q N d=some (g_q57q d):=by
 unfold F_q57q g_q57q
 first
  | rfl
  | (dsimp only; (repeat' split)<;>rfl)
noncomputable def S_q57q:FSig:=⟨[(K_BPPiSPiiqqiiSiiq,false)],[.bool],true,(fun d=>some (g_q57q d))⟩
noncomputable def Γ_q43q:Ctx:={ tk:=assoc tks,ar:=assoc ars,fs:=assoc [] }
noncomputable def F_q43q (N:Nat) (d:(List Int×Unit)×Int×Unit):Option (Int×Unit):=
 let a0:=d.1
 let a1:=d.2.1
 if (idxIn a1 (List.length a0.1))=true then
 if (decide (0<=a1))=true then
 let x1:=bits .or .i64 (at_ I a0.1 a1.toNat) (shl .i64 (1:Int) a1)
 some (x1,())
 else none
 else none
noncomputable def S_q43q:FSig:=⟨[(K_PSiq,false),(I,false)],[I],true,(F_q43q 0)⟩
noncomputable def Γ_q54q:Ctx:={ tk:=assoc tks,ar:=assoc ars,fs:=assoc [(67,S_impl_netOf),(70,S_q61q),(109,S_q43q),(128,S_q57q)],lent:=fun t=>Nat.beq t 0,cs:=assoc [],gs:=assoc [],eqt:=inL [],md:={ gone:=[],deep:=[0] } }
noncomputable def F_q54q (N:Nat) (d:((Int×(List (Int×Int×Unit))×Unit)×Int×Int×List Int×Int×Unit)×Int×Int×Unit):Option (Bool×((Int×(List (Int×Int×Unit))×Unit)×Int×Int×List Int×Int×Unit)×Unit):=
 let a0:=d.1
 let a1:=d.2.1
 let a2:=d.2.2.1
 let r1:=g_q57q (a0,())
 if (!r1.1)=true then
  some ((false,(a0,())))
 else
  ((F_q61q 0) ((a0.1,([a1,a2],())))).bind fun r2=>
  if (!r2.1)=true then
   some ((false,(a0,())))
  else
   if (a1==a0.2.2.1)=true then
    if (a2 != a1)=true then
     some ((false,(a0,())))
    else
     (G_netOf (a0.1,())).bind fun r3=>
     ((F_q43q 0) ((r3.1,(a0.2.1,())))).bind fun r4=>
     if (decide (0<=a1))=true then
     let x5:=bits .and .i64 (shr .i64 r4.1 a1) (1:Int)
     if (x5==(0:Int))=true then
      some ((false,(a0,())))
     else
      ((F_q43q 0) ((r3.1,(a0.2.2.1,())))).bind fun r6=>
      if (decide (0<=a2))=true then
      let x7:=bits .and .i64 (shr .i64 r6.1 a2) (1:Int)
      if (x7==(0:Int))=true then
       some ((false,(a0,())))
      else
       some ((true,((a0.1,(a1,(a2,a0.2.2.2))),())))
      else none
     else none
   else
    (G_netOf (a0.1,())).bind fun r8=>
    ((F_q43q 0) ((r8.1,(a0.2.1,())))).bind fun r9=>
    if (decide (0<=a1))=true then
    let x10:=bits .and .i64 (shr .i64 r9.1 a1) (1:Int)
    if (x10==(0:Int))=true then
     some ((false,(a0,())))
    else
     ((F_q43q 0) ((r8.1,(a0.2.2.1,())))).bind fun r11=>
     if (decide (0<=a2))=true then
     let x12:=bits .and .i64 (shr .i64 r11.1 a2) (1:Int)
     if (x12==(0:Int))=true then
      some ((false,(a0,())))
     else
      some ((true,((a0.1,(a1,(a2,a0.2.2.2))),())))
     else none
    else none
noncomputable def S_q54q:FSig:=⟨[(K_BPPiSPiiqqiiSiiq,true),(I,false),(I,false)],[.bool],true,(F_q54q 0)⟩
def S_q6q:FSig:=⟨[(K_Si,false),(I,false)],[K_Si],true,G_repeat⟩
noncomputable def Γ_q13q:Ctx:={ tk:=assoc tks,ar:=assoc ars,fs:=assoc [(108,S_impl_setOf),(109,S_q43q)] }
abbrev q13q_l0_H:=List Int×Int×List Int×Int×Int×Unit
abbrev q13q_l0_O:=(Int×Unit)⊕(Int×Unit)⊕Empty
def q13q_l0_h:Form:=[(1,.v K_Si),(7,.v I),(13,.own K_Si 99),(14,.v I),(15,.v I)]
def q13q_l0_o:Outs:=[(.ret,[(6,.v I)]),(.normal,[(7,.v I)])]
noncomputable def q13q_l0_r (N:Nat) (back:q13q_l0_H->Option q13q_l0_O) (d:q13q_l0_H):Option q13q_l0_O:=
 let s1:=d.1
 let s7:=d.2.1
 let s13:=d.2.2.1
 let s14:=d.2.2.2.1
 let s15:=d.2.2.2.2.1
 if (decide (s15<s14))=true then
  if (idxIn s15 (List.length s13))=true then
  if (idxIn (at_ I s13 s15.toNat) (List.length s1))=true then
  if (decide (at_ I s1 (at_ I s13 s15.toNat).toNat<(0:Int)))=true then
   some (.inl ((-1:Int),()))
  else
   if (idxIn (at_ I s13 s15.toNat) (List.length s1))=true then
   let x8:=if s7<at_ I s1 (at_ I s13 s15.toNat).toNat then at_ I s1 (at_ I s13 s15.toNat).toNat else s7
   let x9:=IntKind.wrap .i64 (s15+(1:Int))
   back ((s1,(x8,(s13,(s14,(x9,()))))))
   else none
  else none
  else none
 else
  some (.inr (.inl (s7,())))
noncomputable def q13q_l0 (N:Nat):Nat->q13q_l0_H->Option q13q_l0_O
 | 0,_=>none
 | k+1,d=>q13q_l0_r N (q13q_l0 N k) d
noncomputable def F_q13q (N:Nat) (d:(List Int×Unit)×List Int×Int×Unit):Option (Int×Unit):=
 let a0:=d.1
 let a1:=d.2.1
 let a2:=d.2.2.1
 ((F_q43q 0) ((a0,(a2,())))).bind fun r1=>
 (G_setOf (r1.1,())).bind fun r2=>
 (q13q_l0 N N ((a1,((0:Int),(r2.1,((List.length r2.1:Int),((0:Int),()))))))).bind fun o5=>match o5 with
 | .inl d6=>
  some (d6.1,())
 | .inr (.inl d7)=>
  some (d7.1,())
noncomputable def S_q13q:FSig:=⟨[(K_PSiq,false),(K_Si,false),(I,false)],[I],true,(G_timeAfter)⟩
noncomputable def Γ_q18q:Ctx:={ tk:=assoc tks,ar:=assoc ars,fs:=assoc [(110,S_q13q)] }
noncomputable def F_q18q (N:Nat) (d:Int×Int×(List Int×Unit)×List (List Int)×Unit):Option (Bool×Unit):=
 let a0:=d.1
 let a1:=d.2.1
 let a2:=d.2.2.1
 let a3:=d.2.2.2.1
 if (a0==a1)=true then
  some (true,())
 else
  if (idxIn a0 (List.length a3))=true then
  (G_timeAfter ((a2,(at_ K_Si a3 a0.toNat,(a1,()))))).bind fun r1=>
  some ((decide (r1.1>=(0:Int)),()))
  else none
noncomputable def S_q18q:FSig:=⟨[(I,false),(K_Bi,false),(K_BPSiq,false),(K_BSSi,false)],[.bool],true,(F_q18q 0)⟩
noncomputable def FV_q18q (d:Int×(Unit×Int×(List Int×Unit)×List (List Int)×Unit)×Unit):Option (Bool×Unit):=(F_q18q 0) (d.1,d.2.1.2)
noncomputable def SV_q18q:FSig:=⟨[(I,false),(K_F_q18q_qPBiBPSiqBSSiq,false)],[.bool],true,FV_q18q⟩
noncomputable def Γ_q1q:Ctx:={ tk:=assoc tks,ar:=assoc ars,fs:=assoc [],cs:=assoc [(140,SV_q18q)] }
abbrev q1q_l0_H:=List Int×(Unit×Int×(List Int×Unit)×List (List Int)×Unit)×Int×Int×Unit
abbrev q1q_l0_O:=(Int×Unit)⊕Unit⊕Empty
def q1q_l0_h:Form:=[(0,.v K_Si),(1,.v K_F_q18q_qPBiBPSiqBSSiq),(7,.v I),(8,.v I)]
def q1q_l0_o:Outs:=[(.ret,[(4,.v I)]),(.normal,[])]
noncomputable def q1q_l0_r (N:Nat) (back:q1q_l0_H->Option q1q_l0_O) (d:q1q_l0_H):Option q1q_l0_O:=
 let s0:=d.1
 let s1:=d.2.1
 let s7:=d.2.2.1
 let s8:=d.2.2.2.1
 if (decide (s8<s7))=true then
  if (idxIn s8 (List.length s0))=true then
  (FV_q18q ((at_ I s0 s8.toNat,(s1,())))).bind fun r6=>
  if (r6.1)=true then
   some (.inl (s8,()))
  else
   let x7:=IntKind.wrap .i64 (s8+(1:Int))
   back ((s0,(s1,(s7,(x7,())))))
  else none
 else
  some (.inr (.inl ()))
noncomputable def q1q_l0 (N:Nat):Nat->q1q_l0_H->Option q1q_l0_O
 | 0,_=>none
 | k+1,d=>q1q_l0_r N (q1q_l0 N k) d
noncomputable def F_q1q (N:Nat) (d:List Int×(Unit×Int×(List Int×Unit)×List (List Int)×Unit)×Unit):Option (Int×Unit):=
 let a0:=d.1
 let a1:=d.2.1
 (q1q_l0 N N ((a0,(a1,((List.length a0:Int),((0:Int),())))))).bind fun o3=>match o3 with
 | .inl d4=>
  some (d4.1,())
 | .inr (.inl d5)=>
  some ((-1:Int),())
noncomputable def S_q1q:FSig:=⟨[(K_Si,false),(K_F_q18q_qPBiBPSiqBSSiq,false)],[I],true,(G_index154)⟩
noncomputable def Γ_q0q:Ctx:={ tk:=assoc tks,ar:=assoc ars,fs:=assoc [(160,S_q1q)] }
noncomputable def F_q0q (N:Nat) (d:List Int×(Unit×Int×(List Int×Unit)×List (List Int)×Unit)×Unit):Option (Bool×Unit):=
 let a0:=d.1
 let a1:=d.2.1
 (G_index154 ((a0,(a1,())))).bind fun r1=>
 some ((decide (r1.1>=(0:Int)),()))
noncomputable def S_q0q:FSig:=⟨[(K_Si,false),(K_F_q18q_qPBiBPSiqBSSiq,false)],[.bool],true,(F_q0q 0)⟩
noncomputable def Γ_q29q:Ctx:={ tk:=assoc tks,ar:=assoc ars,fs:=assoc [(108,S_impl_setOf),(109,S_q43q),(139,S_q0q)],cs:=assoc [],fz:=fun t=>Nat.beq t 4||Nat.beq t 5||Nat.beq t 7 }
noncomputable def F_q29q (N:Nat) (d:(List Int×Unit)×List (List Int)×Int×Int×Unit):Option (Bool×Unit):=
 let a0:=d.1
 let a1:=d.2.1
 let a2:=d.2.2.1
 let a3:=d.2.2.2.1
 ((F_q43q 0) ((a0,(a2,())))).bind fun r1=>
 (G_setOf (r1.1,())).bind fun r2=>
 ((F_q0q 0) ((r2.1,(((),(a3,(a0,(a1,())))),())))).bind fun r3=>
 some (r3.1,())
noncomputable def S_q29q:FSig:=⟨[(K_PSiq,false),(K_SSi,false),(I,false),(I,false)],[.bool],true,(F_q29q 0)⟩
noncomputable def Γ_q19q:Ctx:={ tk:=assoc tks,ar:=assoc ars,fs:=assoc [(103,S_q60q),(104,S_q6q),(105,S_q29q)] }
abbrev q19q_l0_H:=(List Int×Unit)×Int×List (List Int)×Int×Int×Unit
abbrev q19q_l0_O:=((List Int×Unit)×Int×List (List Int)×Unit)⊕Empty
def q19q_l0_h:Form:=[(1,.box K_PSiq 0),(3,.v I),(4,.own K_SSi 99),(18,.v I),(19,.v I)]
def q19q_l0_o:Outs:=[(.normal,[(1,.box K_PSiq 0),(3,.v I),(4,.own K_SSi 99)])]
noncomputable def q19q_l0_r (N:Nat) (back:q19q_l0_H->Option q19q_l0_O) (d:q19q_l0_H):Option q19q_l0_O:=
 let s1:=d.1
 let s3:=d.2.1
 let s4:=d.2.2.1
 let s18:=d.2.2.2.1
 let s19:=d.2.2.2.2.1
 if (decide (s19<s18))=true then
  (G_repeat (([(-1:Int)],(s3,())))).bind fun r24=>
  if (idxIn s19 (List.length s4))=true then
  if (idxIn s19 (List.length (List.set s4 s19.toNat r24.1)))=true then
  if (idxIn s19 (List.length (at_ K_Si (List.set s4 s19.toNat r24.1) s19.toNat)))=true then
  let x25:=List.set (List.set s4 s19.toNat r24.1) s19.toNat (List.set (at_ K_Si (List.set s4 s19.toNat r24.1) s19.toNat) s19.toNat (0:Int))
  let x26:=IntKind.wrap .i64 (s19+(1:Int))
  back ((s1,(s3,(x25,(s18,(x26,()))))))
  else none
  else none
  else none
 else
  some (.inl ((s1,(s3,(s4,())))))
noncomputable def q19q_l0 (N:Nat):Nat->q19q_l0_H->Option q19q_l0_O
 | 0,_=>none
 | k+1,d=>q19q_l0_r N (q19q_l0 N k) d
abbrev q19q_l6_H:=(List Int×Unit)×Int×List (List Int)×Int×Bool×(List (Int×Int×Unit))×Int×Int×Int×Int×Int×Unit
abbrev q19q_l6_O:=((List Int×Unit)×Int×List (List Int)×Int×Bool×(List (Int×Int×Unit))×Int×Int×Unit)⊕Empty
def q19q_l6_h:Form:=[(1,.box K_PSiq 0),(3,.v I),(4,.own K_SSi 99),(6,.v I),(7,.v .bool),(8,.own K_SPiiq 99),(9,.v I),(38,.v I),(39,.v I),(42,.v I),(43,.v I)]
def q19q_l6_o:Outs:=[(.normal,[(1,.box K_PSiq 0),(3,.v I),(4,.own K_SSi 99),(6,.v I),(7,.v .bool),(8,.own K_SPiiq 99),(38,.v I),(39,.v I)])]
noncomputable def q19q_l6_r (N:Nat) (back:q19q_l6_H->Option q19q_l6_O) (d:q19q_l6_H):Option q19q_l6_O:=
 let s1:=d.1
 let s3:=d.2.1
 let s4:=d.2.2.1
 let s6:=d.2.2.2.1
 let s7:=d.2.2.2.2.1
 let s8:=d.2.2.2.2.2.1
 let s9:=d.2.2.2.2.2.2.1
 let s38:=d.2.2.2.2.2.2.2.1
 let s39:=d.2.2.2.2.2.2.2.2.1
 let s42:=d.2.2.2.2.2.2.2.2.2.1
 let s43:=d.2.2.2.2.2.2.2.2.2.2.1
 if (decide (s43<s42))=true then
  if (idxIn s9 (List.length s4))=true then
  if (idxIn s43 (List.length (at_ K_Si s4 s9.toNat)))=true then
  if (decide (at_ I (at_ K_Si s4 s9.toNat) s43.toNat<(0:Int)))=true then
   ((F_q29q 0) ((s1,(s4,(s9,(s43,())))))).bind fun r48=>
   if (r48.1)=true then
    if (decide (List.length s8+List.length ([(s9,(s43,()))])<=lim))=true then
    let x49:=IntKind.wrap .i64 (s43+(1:Int))
    back ((s1,(s3,(s4,(s6,(s7,(s8++([(s9,(s43,()))]),(s9,(s38,(s39,(s42,(x49,()))))))))))))
    else none
   else
    let x50:=IntKind.wrap .i64 (s43+(1:Int))
    back ((s1,(s3,(s4,(s6,(s7,(s8,(s9,(s38,(s39,(s42,(x50,()))))))))))))
  else
   let x51:=IntKind.wrap .i64 (s43+(1:Int))
   back ((s1,(s3,(s4,(s6,(s7,(s8,(s9,(s38,(s39,(s42,(x51,()))))))))))))
  else none
  else none
 else
  some (.inl ((s1,(s3,(s4,(s6,(s7,(s8,(s38,(s39,()))))))))))
noncomputable def q19q_l6 (N:Nat):Nat->q19q_l6_H->Option q19q_l6_O
 | 0,_=>none
 | k+1,d=>q19q_l6_r N (q19q_l6 N k) d
abbrev q19q_l4_H:=(List Int×Unit)×Int×List (List Int)×Int×Bool×(List (Int×Int×Unit))×Int×Int×Unit
abbrev q19q_l4_O:=((List Int×Unit)×Int×List (List Int)×Int×Bool×(List (Int×Int×Unit))×Unit)⊕Empty
def q19q_l4_h:Form:=[(1,.box K_PSiq 0),(3,.v I),(4,.own K_SSi 99),(6,.v I),(7,.v .bool),(8,.own K_SPiiq 99),(38,.v I),(39,.v I)]
def q19q_l4_o:Outs:=[(.normal,[(1,.box K_PSiq 0),(3,.v I),(4,.own K_SSi 99),(6,.v I),(7,.v .bool),(8,.own K_SPiiq 99)])]
noncomputable def q19q_l4_r (N:Nat) (back:q19q_l4_H->Option q19q_l4_O) (d:q19q_l4_H):Option q19q_l4_O:=
 let s1:=d.1
 let s3:=d.2.1
 let s4:=d.2.2.1
 let s6:=d.2.2.2.1
 let s7:=d.2.2.2.2.1
 let s8:=d.2.2.2.2.2.1
 let s38:=d.2.2.2.2.2.2.1
 let s39:=d.2.2.2.2.2.2.2.1
 if (decide (s39<s38))=true then
  (q19q_l6 N N ((s1,(s3,(s4,(s6,(s7,(s8,(s39,(s38,(s39,(s3,((0:Int),()))))))))))))).bind fun o45=>match o45 with
  | .inl d46=>
   let x47:=IntKind.wrap .i64 (d46.2.2.2.2.2.2.2.1+(1:Int))
   back ((d46.1,(d46.2.1,(d46.2.2.1,(d46.2.2.2.1,(d46.2.2.2.2.1,(d46.2.2.2.2.2.1,(d46.2.2.2.2.2.2.1,(x47,())))))))))
 else
  some (.inl ((s1,(s3,(s4,(s6,(s7,(s8,()))))))))
noncomputable def q19q_l4 (N:Nat):Nat->q19q_l4_H->Option q19q_l4_O
 | 0,_=>none
 | k+1,d=>q19q_l4_r N (q19q_l4 N k) d
abbrev q19q_l8_H:=(List Int×Unit)×Int×List (List Int)×Int×Bool×(List (Int×Int×Unit))×Int×Int×Unit
abbrev q19q_l8_O:=((List Int×Unit)×Int×List (List Int)×Int×Bool×Unit)⊕Empty
def q19q_l8_h:Form:=[(1,.box K_PSiq 0),(3,.v I),(4,.own K_SSi 99),(6,.v I),(7,.v .bool),(69,.own K_SPiiq 99),(70,.v I),(71,.v I)]
def q19q_l8_o:Outs:=[(.normal,[(1,.box K_PSiq 0),(3,.v I),(4,.own K_SSi 99),(6,.v I),(7,.v .bool)])]
noncomputable def q19q_l8_r (N:Nat) (back:q19q_l8_H->Option q19q_l8_O) (d:q19q_l8_H):Option q19q_l8_O:=
 let s1:=d.1
 let s3:=d.2.1
 let s4:=d.2.2.1
 let s6:=d.2.2.2.1
 let s7:=d.2.2.2.2.1
 let s69:=d.2.2.2.2.2.1
 let s70:=d.2.2.2.2.2.2.1
 let s71:=d.2.2.2.2.2.2.2.1
 if (decide (s71<s70))=true then
  if (idxIn s71 (List.length s69))=true then
  if (idxIn (at_ K_Piiq s69 s71.toNat).1 (List.length s4))=true then
  if (idxIn (at_ K_Piiq s69 s71.toNat).2.1 (List.length (at_ K_Si s4 (at_ K_Piiq s69 s71.toNat).1.toNat)))=true then
  let x52:=List.set s4 (at_ K_Piiq s69 s71.toNat).1.toNat (List.set (at_ K_Si s4 (at_ K_Piiq s69 s71.toNat).1.toNat) (at_ K_Piiq s69 s71.toNat).2.1.toNat s6)
  let x53:=IntKind.wrap .i64 (s71+(1:Int))
  back ((s1,(s3,(x52,(s6,(true,(s69,(s70,(x53,())))))))))
  else none
  else none
  else none
 else
  some (.inl ((s1,(s3,(s4,(s6,(s7,())))))))
noncomputable def q19q_l8 (N:Nat):Nat->q19q_l8_H->Option q19q_l8_O
 | 0,_=>none
 | k+1,d=>q19q_l8_r N (q19q_l8 N k) d
abbrev q19q_l2_H:=(List Int×Unit)×Int×List (List Int)×Int×Bool×Unit
abbrev q19q_l2_O:=(List (List Int)×Unit)⊕Empty
def q19q_l2_h:Form:=[(1,.box K_PSiq 0),(3,.v I),(4,.own K_SSi 99),(6,.v I),(7,.v .bool)]
def q19q_l2_o:Outs:=[(.normal,[(4,.own K_SSi 99)])]
noncomputable def q19q_l2_r (N:Nat) (back:q19q_l2_H->Option q19q_l2_O) (d:q19q_l2_H):Option q19q_l2_O:=
 let s1:=d.1
 let s3:=d.2.1
 let s4:=d.2.2.1
 let s6:=d.2.2.2.1
 let s7:=d.2.2.2.2.1
 if (s7)=true then
  (q19q_l4 N N ((s1,(s3,(s4,(s6,(false,(([]:List (Int×Int×Unit)),(s3,((0:Int),())))))))))).bind fun o34=>match o34 with
  | .inl d35=>
   (q19q_l8 N N ((d35.1,(d35.2.1,(d35.2.2.1,(d35.2.2.2.1,(d35.2.2.2.2.1,(d35.2.2.2.2.2.1,((List.length d35.2.2.2.2.2.1:Int),((0:Int),())))))))))).bind fun o38=>match o38 with
   | .inl d39=>
    let x40:=IntKind.wrap .i64 (d39.2.2.2.1+(1:Int))
    back ((d39.1,(d39.2.1,(d39.2.2.1,(x40,(d39.2.2.2.2.1,()))))))
 else
  some (.inl (s4,()))
noncomputable def q19q_l2 (N:Nat):Nat->q19q_l2_H->Option q19q_l2_O
 | 0,_=>none
 | k+1,d=>q19q_l2_r N (q19q_l2 N k) d
noncomputable def F_q19q (N:Nat) (d:(List Int×Unit)×Unit):Option (List (List Int)×Unit):=
 let a0:=d.1
 let r1:=g_q60q (a0,())
 if ((decide (0<=r1.1)&&decide (r1.1<=r1.1)&&decide (r1.1<=(lim:Int))))=true then
 let x2:=List.replicate r1.1.toNat ([]:List Int)
 (q19q_l0 N N ((a0,(r1.1,(x2,((List.length x2:Int),((0:Int),()))))))).bind fun o6=>match o6 with
 | .inl d7=>
  (q19q_l2 N N ((d7.1,(d7.2.1,(d7.2.2.1,((1:Int),(true,()))))))).bind fun o22=>match o22 with
  | .inl d23=>
   some (d23.1,())
 else none
noncomputable def S_q19q:FSig:=⟨[(K_PSiq,false)],[K_SSi],true,(G_copTimes)⟩
noncomputable def Γ_q25q:Ctx:={ tk:=assoc tks,ar:=assoc ars,fs:=assoc [(108,S_impl_setOf),(109,S_q43q),(110,S_q13q)] }
abbrev q25q_l0_H:=List (List Int)×Int×Int×(List Int×Unit)×List Int×Int×Int×Unit
abbrev q25q_l0_O:=(Int×Unit)⊕(Int×Unit)⊕Empty
def q25q_l0_h:Form:=[(1,.v K_SSi),(2,.v I),(3,.v I),(4,.box K_PSiq 0),(15,.own K_Si 99),(16,.v I),(17,.v I)]
def q25q_l0_o:Outs:=[(.ret,[(8,.v I)]),(.normal,[(2,.v I)])]
noncomputable def q25q_l0_r (N:Nat) (back:q25q_l0_H->Option q25q_l0_O) (d:q25q_l0_H):Option q25q_l0_O:=
 let s1:=d.1
 let s2:=d.2.1
 let s3:=d.2.2.1
 let s4:=d.2.2.2.1
 let s15:=d.2.2.2.2.1
 let s16:=d.2.2.2.2.2.1
 let s17:=d.2.2.2.2.2.2.1
 if (decide (s17<s16))=true then
  if (idxIn s17 (List.length s15))=true then
  if (at_ I s15 s17.toNat != s3)=true then
   if (idxIn (at_ I s15 s17.toNat) (List.length s1))=true then
   (G_timeAfter ((s4,(at_ K_Si s1 (at_ I s15 s17.toNat).toNat,(s3,()))))).bind fun r12=>
   let x13:=IntKind.wrap .i64 (r12.1+(1:Int))
   if (idxIn s2 (List.length s1))=true then
   if (idxIn s3 (List.length (at_ K_Si s1 s2.toNat)))=true then
   if (x13==at_ I (at_ K_Si s1 s2.toNat) s3.toNat)=true then
    if (decide (x13>(0:Int)))=true then
     some (.inl (at_ I s15 s17.toNat,()))
    else
     let x14:=IntKind.wrap .i64 (s17+(1:Int))
     back ((s1,(s2,(s3,(s4,(s15,(s16,(x14,()))))))))
   else
    let x15:=IntKind.wrap .i64 (s17+(1:Int))
    back ((s1,(s2,(s3,(s4,(s15,(s16,(x15,()))))))))
   else none
   else none
   else none
  else
   if (idxIn s2 (List.length s1))=true then
   if (idxIn s3 (List.length (at_ K_Si s1 s2.toNat)))=true then
   if ((1:Int)==at_ I (at_ K_Si s1 s2.toNat) s3.toNat)=true then
    if (decide ((1:Int)>(0:Int)))=true then
     some (.inl (at_ I s15 s17.toNat,()))
    else
     let x16:=IntKind.wrap .i64 (s17+(1:Int))
     back ((s1,(s2,(s3,(s4,(s15,(s16,(x16,()))))))))
   else
    let x17:=IntKind.wrap .i64 (s17+(1:Int))
    back ((s1,(s2,(s3,(s4,(s15,(s16,(x17,()))))))))
   else none
   else none
  else none
 else
  some (.inr (.inl (s2,())))
noncomputable def q25q_l0 (N:Nat):Nat->q25q_l0_H->Option q25q_l0_O
 | 0,_=>none
 | k+1,d=>q25q_l0_r N (q25q_l0 N k) d
noncomputable def F_q25q (N:Nat) (d:(List Int×Unit)×List (List Int)×Int×Int×Unit):Option (Int×Unit):=
 let a0:=d.1
 let a1:=d.2.1
 let a2:=d.2.2.1
 let a3:=d.2.2.2.1
 ((F_q43q 0) ((a0,(a2,())))).bind fun r1=>
 (G_setOf (r1.1,())).bind fun r2=>
 (q25q_l0 N N ((a1,(a2,(a3,(a0,(r2.1,((List.length r2.1:Int),((0:Int),()))))))))).bind fun o9=>match o9 with
 | .inl d10=>
  some (d10.1,())
 | .inr (.inl d11)=>
  some (d11.1,())
noncomputable def S_q25q:FSig:=⟨[(K_PSiq,false),(K_SSi,false),(I,false),(I,false)],[I],true,(G_copMove)⟩
noncomputable def Γ_q10q:Ctx:={ tk:=assoc tks,ar:=assoc ars,fs:=assoc [(108,S_impl_setOf),(109,S_q43q)] }
abbrev q10q_l0_H:=List Int×Int×List Int×Int×Int×Unit
abbrev q10q_l0_O:=(Int×Unit)⊕Empty
def q10q_l0_h:Form:=[(1,.v K_Si),(8,.v I),(19,.v K_Si),(20,.v I),(21,.v I)]
def q10q_l0_o:Outs:=[(.normal,[(8,.v I)])]
noncomputable def q10q_l0_r (N:Nat) (back:q10q_l0_H->Option q10q_l0_O) (d:q10q_l0_H):Option q10q_l0_O:=
 let s1:=d.1
 let s8:=d.2.1
 let s19:=d.2.2.1
 let s20:=d.2.2.2.1
 let s21:=d.2.2.2.2.1
 if (decide (s21<s20))=true then
  if (idxIn s21 (List.length s19))=true then
  if (idxIn s8 (List.length s1))=true then
  if (decide (at_ I s1 s8.toNat>=(0:Int)))=true then
   if (idxIn (at_ I s19 s21.toNat) (List.length s1))=true then
   if (decide (at_ I s1 (at_ I s19 s21.toNat).toNat<(0:Int)))=true then
    let x10:=IntKind.wrap .i64 (s21+(1:Int))
    back ((s1,(at_ I s19 s21.toNat,(s19,(s20,(x10,()))))))
   else
    if (idxIn (at_ I s19 s21.toNat) (List.length s1))=true then
    if (idxIn s8 (List.length s1))=true then
    if (decide (at_ I s1 (at_ I s19 s21.toNat).toNat>at_ I s1 s8.toNat))=true then
     let x11:=IntKind.wrap .i64 (s21+(1:Int))
     back ((s1,(at_ I s19 s21.toNat,(s19,(s20,(x11,()))))))
    else
     let x12:=IntKind.wrap .i64 (s21+(1:Int))
     back ((s1,(s8,(s19,(s20,(x12,()))))))
    else none
    else none
   else none
  else
   let x13:=IntKind.wrap .i64 (s21+(1:Int))
   back ((s1,(s8,(s19,(s20,(x13,()))))))
  else none
  else none
 else
  some (.inl (s8,()))
noncomputable def q10q_l0 (N:Nat):Nat->q10q_l0_H->Option q10q_l0_O
 | 0,_=>none
 | k+1,d=>q10q_l0_r N (q10q_l0 N k) d
noncomputable def F_q10q (N:Nat) (d:(List Int×Unit)×List Int×Int×Unit):Option (Int×Unit):=
 let a0:=d.1
 let a1:=d.2.1
 let a2:=d.2.2.1
 ((F_q43q 0) ((a0,(a2,())))).bind fun r1=>
 (G_setOf (r1.1,())).bind fun r2=>
 if (idxIn (0:Int) (List.length r2.1))=true then
 if ((decide (0<=(1:Int))&&decide ((1:Int)<=(List.length r2.1:Int))&&decide ((List.length r2.1:Int)<=(List.length r2.1:Int))))=true then
 let x3:=sub_ r2.1 (1:Int) (List.length r2.1:Int)
 (q10q_l0 N N ((a1,(at_ I r2.1 (0:Int).toNat,(x3,((List.length x3:Int),((0:Int),()))))))).bind fun o8=>match o8 with
 | .inl d9=>
  some (d9.1,())
 else none
 else none
noncomputable def S_q10q:FSig:=⟨[(K_PSiq,false),(K_Si,false),(I,false)],[I],true,(G_robberMove)⟩
noncomputable def Γ_q52q:Ctx:={ tk:=assoc tks,ar:=assoc ars,fs:=assoc [(67,S_impl_netOf),(68,S_q19q),(71,S_q25q),(72,S_q10q),(128,S_q57q)],lent:=fun t=>Nat.beq t 0,cs:=assoc [],gs:=assoc [],eqt:=inL [],md:={ gone:=[],deep:=[0] } }
noncomputable def F_q52q (N:Nat) (d:((Int×(List (Int×Int×Unit))×Unit)×Int×Int×List Int×Int×Unit)×Unit):Option (Bool×((Int×(List (Int×Int×Unit))×Unit)×Int×Int×List Int×Int×Unit)×Unit):=
 let a0:=d.1
 let r1:=g_q57q (a0,())
 if (!r1.1)=true then
  some ((false,(a0,())))
 else
  (G_netOf (a0.1,())).bind fun r2=>
  (G_copTimes (r2.1,())).bind fun r3=>
  if (idxIn a0.2.1 (List.length r3.1))=true then
  if (idxIn a0.2.2.1 (List.length (at_ K_Si r3.1 a0.2.1.toNat)))=true then
  if (decide (at_ I (at_ K_Si r3.1 a0.2.1.toNat) a0.2.2.1.toNat>(0:Int)))=true then
   (G_copMove ((r2.1,(r3.1,(a0.2.1,(a0.2.2.1,())))))).bind fun r4=>
   if (r4.1 != a0.2.2.1)=true then
    if (idxIn r4.1 (List.length r3.1))=true then
    (G_robberMove ((r2.1,(at_ K_Si r3.1 r4.1.toNat,(a0.2.2.1,()))))).bind fun r5=>
    some ((true,((a0.1,(r4.1,(r5.1,a0.2.2.2))),())))
    else none
   else
    some ((true,((a0.1,(r4.1,a0.2.2)),())))
  else
   if (a0.2.1 != a0.2.2.1)=true then
    if (idxIn a0.2.1 (List.length r3.1))=true then
    (G_robberMove ((r2.1,(at_ K_Si r3.1 a0.2.1.toNat,(a0.2.2.1,()))))).bind fun r6=>
    some ((true,((a0.1,(a0.2.1,(r6.1,a0.2.2.2))),())))
    else none
   else
    some ((true,(a0,())))
  else none
  else none
noncomputable def S_q52q:FSig:=⟨[(K_BPPiSPiiqqiiSiiq,true)],[.bool],true,(F_q52q 0)⟩
noncomputable def Γ_q91q:Ctx:={ tk:=assoc tks,ar:=assoc ars,fs:=assoc [] }
abbrev q91q_l0_H:=Int×List Int×Int×Int×Unit
abbrev q91q_l0_O:=(Int×Unit)⊕Empty
def q91q_l0_h:Form:=[(3,.v I),(6,.v K_Si),(7,.v I),(8,.v I)]
def q91q_l0_o:Outs:=[(.normal,[(3,.v I)])]
noncomputable def q91q_l0_r (N:Nat) (back:q91q_l0_H->Option q91q_l0_O) (d:q91q_l0_H):Option q91q_l0_O:=
 let s3:=d.1
 let s6:=d.2.1
 let s7:=d.2.2.1
 let s8:=d.2.2.2.1
 if (decide (s8<s7))=true then
  if (idxIn s8 (List.length s6))=true then
  if (decide (0<=at_ I s6 s8.toNat))=true then
  let x5:=shl .i64 (1:Int) (at_ I s6 s8.toNat)
  let x6:=IntKind.wrap .i64 (s8+(1:Int))
  back ((bits .or .i64 s3 x5,(s6,(s7,(x6,())))))
  else none
  else none
 else
  some (.inl (s3,()))
noncomputable def q91q_l0 (N:Nat):Nat->q91q_l0_H->Option q91q_l0_O
 | 0,_=>none
 | k+1,d=>q91q_l0_r N (q91q_l0 N k) d
noncomputable def F_q91q (N:Nat) (d:List Int×Unit):Option (Int×Unit):=
 let a0:=d.1
 (q91q_l0 N N (((0:Int),(a0,((List.length a0:Int),((0:Int),())))))).bind fun o3=>match o3 with
 | .inl d4=>
  some (d4.1,())
noncomputable def S_q91q:FSig:=⟨[(K_Si,false)],[I],true,(G_maskOf)⟩
noncomputable def Γ_q30q:Ctx:={ tk:=assoc tks,ar:=assoc ars,fs:=assoc [] }
abbrev q30q_l0_H:=Int×Bool×Int×List Int×Int×Int×Unit
abbrev q30q_l0_O:=(Int×Unit)⊕Empty
def q30q_l0_h:Form:=[(1,.v I),(2,.v .bool),(7,.v I),(13,.v K_Si),(14,.v I),(15,.v I)]
def q30q_l0_o:Outs:=[(.normal,[(7,.v I)])]
noncomputable def q30q_l0_r (N:Nat) (back:q30q_l0_H->Option q30q_l0_O) (d:q30q_l0_H):Option q30q_l0_O:=
 let s1:=d.1
 let s2:=d.2.1
 let s7:=d.2.2.1
 let s13:=d.2.2.2.1
 let s14:=d.2.2.2.2.1
 let s15:=d.2.2.2.2.2.1
 if (decide (s15<s14))=true then
  if (idxIn s15 (List.length s13))=true then
  let x14:=bits .andNot .i64 (at_ I s13 s15.toNat) s1
  if (s2)=true then
   if (x14 != (0:Int))=true then
    let x15:=IntKind.wrap .i64 (x14-(1:Int))
    if (bits .and .i64 x14 x15==(0:Int))=true then
     let x16:=IntKind.wrap .i64 (s15+(1:Int))
     back ((s1,(s2,(bits .or .i64 s7 x14,(s13,(s14,(x16,())))))))
    else
     let x17:=IntKind.wrap .i64 (s15+(1:Int))
     back ((s1,(s2,(s7,(s13,(s14,(x17,())))))))
   else
    let x18:=IntKind.wrap .i64 (s15+(1:Int))
    back ((s1,(s2,(s7,(s13,(s14,(x18,())))))))
  else
   if (decide (0<=s15))=true then
   let x19:=bits .and .i64 (shr .i64 s1 s15) (1:Int)
   if (x19==(1:Int))=true then
    if (x14 != (0:Int))=true then
     let x20:=IntKind.wrap .i64 (x14-(1:Int))
     if (bits .and .i64 x14 x20==(0:Int))=true then
      let x21:=IntKind.wrap .i64 (s15+(1:Int))
      back ((s1,(s2,(bits .or .i64 s7 x14,(s13,(s14,(x21,())))))))
     else
      let x22:=IntKind.wrap .i64 (s15+(1:Int))
      back ((s1,(s2,(s7,(s13,(s14,(x22,())))))))
    else
     let x23:=IntKind.wrap .i64 (s15+(1:Int))
     back ((s1,(s2,(s7,(s13,(s14,(x23,())))))))
   else
    let x24:=IntKind.wrap .i64 (s15+(1:Int))
    back ((s1,(s2,(s7,(s13,(s14,(x24,())))))))
   else none
  else none
 else
  some (.inl (s7,()))
noncomputable def q30q_l0 (N:Nat):Nat->q30q_l0_H->Option q30q_l0_O
 | 0,_=>none
 | k+1,d=>q30q_l0_r N (q30q_l0 N k) d
noncomputable def F_q30q (N:Nat) (d:(List Int×Unit)×Int×Bool×Unit):Option (Int×Unit):=
 let a0:=d.1
 let a1:=d.2.1
 let a2:=d.2.2.1
 (q30q_l0 N N ((a1,(a2,(a1,(a0.1,((List.length a0.1:Int),((0:Int),())))))))).bind fun o12=>match o12 with
 | .inl d13=>
  some (d13.1,())
noncomputable def S_q30q:FSig:=⟨[(K_PSiq,false),(I,false),(.bool,false)],[I],true,(G_forced)⟩
noncomputable def Γ_q44q:Ctx:={ tk:=assoc tks,ar:=assoc ars,fs:=assoc [(64,S_q92q),(67,S_impl_netOf),(108,S_impl_setOf),(129,S_q91q),(130,S_q30q),(131,S_q64q)],lent:=fun t=>Nat.beq t 0,cs:=assoc [],gs:=assoc [],eqt:=inL [],md:={ gone:=[],deep:=[0] } }
noncomputable def F_q44q (N:Nat) (d:((Int×(List (Int×Int×Unit))×Unit)×Int×Int×List Int×Int×Unit)×(Int×Int×Int×Unit)×Unit):Option (Bool×((Int×(List (Int×Int×Unit))×Unit)×Int×Int×List Int×Int×Unit)×Unit):=
 let a0:=d.1
 let a1:=d.2.1
 (G_maskOf (a0.2.2.2.1,())).bind fun r1=>
 (G_netOf (a0.1,())).bind fun r2=>
 if (a1.1==(8:Int))=true then
  let x3:=IntKind.wrap .i64 (a0.1.1-(1:Int))
  let r4:=g_q92q ((a1.2.1,((0:Int),(x3,()))))
  if (!r4.1)=true then
   some ((false,(a0,())))
  else
   if (decide (0<=a1.2.1))=true then
   let x5:=bits .xor .i64 r1.1 (shl .i64 (1:Int) a1.2.1)
   (G_setOf (x5,())).bind fun r6=>
   some ((true,((a0.1,(a0.2.1,(a0.2.2.1,(r6.1,a0.2.2.2.2)))),())))
   else none
 else
  if (a1.1==(9:Int))=true then
   (G_forced ((r2.1,(r1.1,(false,()))))).bind fun r7=>
   (G_setOf (r7.1,())).bind fun r8=>
   some ((true,((a0.1,(a0.2.1,(a0.2.2.1,(r8.1,a0.2.2.2.2)))),())))
  else
   ((F_q64q 0) (r2.1,())).bind fun r9=>
   (G_setOf (bits .andNot .i64 r9.1 r1.1,())).bind fun r10=>
   some ((true,((a0.1,(a0.2.1,(a0.2.2.1,(r10.1,a0.2.2.2.2)))),())))
noncomputable def S_q44q:FSig:=⟨[(K_BPPiSPiiqqiiSiiq,true),(K_Piiiq,false)],[.bool],true,(F_q44q 0)⟩
noncomputable def Γ_q99q:Ctx:={ tk:=assoc tks,ar:=assoc ars,fs:=assoc [(28,S_q38q),(56,S_q12q),(82,S_q66q),(84,S_q31q)],cs:=assoc [],gs:=assoc [(83,(S_q56q,{ gone:=[],deep:=[0] })),(85,(S_q54q,{ gone:=[],deep:=[0] })),(86,(S_q52q,{ gone:=[],deep:=[0] })),(87,(S_q44q,{ gone:=[],deep:=[0] }))],eqt:=inL [],md:=md0 }
noncomputable def F_q99q (N:Nat) (d:((Int×(List (Int×Int×Unit))×Unit)×Int×Int×List Int×Int×Unit)×(Int×Int×Int×Unit)×Unit):Option (((Int×(List (Int×Int×Unit))×Unit)×Int×Int×List Int×Int×Unit)×Bool×Unit):=
 let a0:=d.1
 let a1:=d.2.1
 let r1:=g_q66q (a1,())
 if (!r1.1)=true then
  some (((((0:Int),(([]:List (Int×Int×Unit)),())),((0:Int),((0:Int),(([]:List Int),((0:Int),()))))),(false,())))
 else
  (G_cloneWs (a0,())).bind fun r2=>
  if (a1.1==(1:Int))=true then
   let x3:=IntKind.wrap .i64 (r2.1.1.1+(1:Int))
   let x4:=IntKind.wrap .i64 (r2.1.2.2.2.2.1+(1:Int))
   if (!true)=true then
    some (((((0:Int),(([]:List (Int×Int×Unit)),())),((0:Int),((0:Int),(([]:List Int),((0:Int),()))))),(false,())))
   else
    ((F_q38q 0) ((((x3,r2.1.1.2),(r2.1.2.1,(r2.1.2.2.1,(r2.1.2.2.2.1,(x4,r2.1.2.2.2.2.2))))),()))).bind fun r5=>
    if (!r5.1)=true then
     some (((((0:Int),(([]:List (Int×Int×Unit)),())),((0:Int),((0:Int),(([]:List Int),((0:Int),()))))),(false,())))
    else
     some ((((x3,r2.1.1.2),(r2.1.2.1,(r2.1.2.2.1,(r2.1.2.2.2.1,(x4,r2.1.2.2.2.2.2))))),(true,())))
  else
   if (a1.1==(2:Int))=true then
    (G_dropNode ((r2.1,(a1.2.1,())))).bind fun r6=>
    let x7:=IntKind.wrap .i64 (r6.2.1.2.2.2.2.1+(1:Int))
    if (!r6.1)=true then
     some (((((0:Int),(([]:List (Int×Int×Unit)),())),((0:Int),((0:Int),(([]:List Int),((0:Int),()))))),(false,())))
    else
     ((F_q38q 0) (((r6.2.1.1,(r6.2.1.2.1,(r6.2.1.2.2.1,(r6.2.1.2.2.2.1,(x7,r6.2.1.2.2.2.2.2))))),()))).bind fun r8=>
     if (!r8.1)=true then
      some (((((0:Int),(([]:List (Int×Int×Unit)),())),((0:Int),((0:Int),(([]:List Int),((0:Int),()))))),(false,())))
     else
      some (((r6.2.1.1,(r6.2.1.2.1,(r6.2.1.2.2.1,(r6.2.1.2.2.2.1,(x7,r6.2.1.2.2.2.2.2))))),(true,())))
   else
    if (a1.1==(3:Int))=true then
     ((F_q31q 0) ((a0.1,(a1.2.1,(a1.2.2.1,()))))).bind fun r9=>
     let x10:=IntKind.wrap .i64 (r2.1.2.2.2.2.1+(1:Int))
     if (!r9.2.1)=true then
      some (((((0:Int),(([]:List (Int×Int×Unit)),())),((0:Int),((0:Int),(([]:List Int),((0:Int),()))))),(false,())))
     else
      ((F_q38q 0) (((r9.1,(r2.1.2.1,(r2.1.2.2.1,(r2.1.2.2.2.1,(x10,r2.1.2.2.2.2.2))))),()))).bind fun r11=>
      if (!r11.1)=true then
       some (((((0:Int),(([]:List (Int×Int×Unit)),())),((0:Int),((0:Int),(([]:List Int),((0:Int),()))))),(false,())))
      else
       some (((r9.1,(r2.1.2.1,(r2.1.2.2.1,(r2.1.2.2.2.1,(x10,r2.1.2.2.2.2.2))))),(true,())))
    else
     if (a1.1==(4:Int))=true then
      let x12:=IntKind.wrap .i64 (r2.1.2.2.2.2.1+(1:Int))
      if (!true)=true then
       some (((((0:Int),(([]:List (Int×Int×Unit)),())),((0:Int),((0:Int),(([]:List Int),((0:Int),()))))),(false,())))
      else
       ((F_q38q 0) (((r2.1.1,(a1.2.1,(r2.1.2.2.1,(r2.1.2.2.2.1,(x12,r2.1.2.2.2.2.2))))),()))).bind fun r13=>
       if (!r13.1)=true then
        some (((((0:Int),(([]:List (Int×Int×Unit)),())),((0:Int),((0:Int),(([]:List Int),((0:Int),()))))),(false,())))
       else
        some (((r2.1.1,(a1.2.1,(r2.1.2.2.1,(r2.1.2.2.2.1,(x12,r2.1.2.2.2.2.2))))),(true,())))
     else
      if (a1.1==(5:Int))=true then
       let x14:=IntKind.wrap .i64 (r2.1.2.2.2.2.1+(1:Int))
       if (!true)=true then
        some (((((0:Int),(([]:List (Int×Int×Unit)),())),((0:Int),((0:Int),(([]:List Int),((0:Int),()))))),(false,())))
       else
        ((F_q38q 0) (((r2.1.1,(r2.1.2.1,(a1.2.1,(r2.1.2.2.2.1,(x14,r2.1.2.2.2.2.2))))),()))).bind fun r15=>
        if (!r15.1)=true then
         some (((((0:Int),(([]:List (Int×Int×Unit)),())),((0:Int),((0:Int),(([]:List Int),((0:Int),()))))),(false,())))
        else
         some (((r2.1.1,(r2.1.2.1,(a1.2.1,(r2.1.2.2.2.1,(x14,r2.1.2.2.2.2.2))))),(true,())))
      else
       if (a1.1==(6:Int))=true then
        ((F_q54q 0) ((r2.1,(a1.2.1,(a1.2.2.1,()))))).bind fun r16=>
        let x17:=IntKind.wrap .i64 (r16.2.1.2.2.2.2.1+(1:Int))
        if (!r16.1)=true then
         some (((((0:Int),(([]:List (Int×Int×Unit)),())),((0:Int),((0:Int),(([]:List Int),((0:Int),()))))),(false,())))
        else
         ((F_q38q 0) (((r16.2.1.1,(r16.2.1.2.1,(r16.2.1.2.2.1,(r16.2.1.2.2.2.1,(x17,r16.2.1.2.2.2.2.2))))),()))).bind fun r18=>
         if (!r18.1)=true then
          some (((((0:Int),(([]:List (Int×Int×Unit)),())),((0:Int),((0:Int),(([]:List Int),((0:Int),()))))),(false,())))
         else
          some (((r16.2.1.1,(r16.2.1.2.1,(r16.2.1.2.2.1,(r16.2.1.2.2.2.1,(x17,r16.2.1.2.2.2.2.2))))),(true,())))
       else
        if (a1.1==(7:Int))=true then
         ((F_q52q 0) (r2.1,())).bind fun r19=>
         let x20:=IntKind.wrap .i64 (r19.2.1.2.2.2.2.1+(1:Int))
         if (!r19.1)=true then
          some (((((0:Int),(([]:List (Int×Int×Unit)),())),((0:Int),((0:Int),(([]:List Int),((0:Int),()))))),(false,())))
         else
          ((F_q38q 0) (((r19.2.1.1,(r19.2.1.2.1,(r19.2.1.2.2.1,(r19.2.1.2.2.2.1,(x20,r19.2.1.2.2.2.2.2))))),()))).bind fun r21=>
          if (!r21.1)=true then
           some (((((0:Int),(([]:List (Int×Int×Unit)),())),((0:Int),((0:Int),(([]:List Int),((0:Int),()))))),(false,())))
          else
           some (((r19.2.1.1,(r19.2.1.2.1,(r19.2.1.2.2.1,(r19.2.1.2.2.2.1,(x20,r19.2.1.2.2.2.2.2))))),(true,())))
        else
         if (a1.1==(8:Int))=true then
          ((F_q44q 0) ((r2.1,(a1,())))).bind fun r22=>
          let x23:=IntKind.wrap .i64 (r22.2.1.2.2.2.2.1+(1:Int))
          if (!r22.1)=true then
           some (((((0:Int),(([]:List (Int×Int×Unit)),())),((0:Int),((0:Int),(([]:List Int),((0:Int),()))))),(false,())))
          else
           ((F_q38q 0) (((r22.2.1.1,(r22.2.1.2.1,(r22.2.1.2.2.1,(r22.2.1.2.2.2.1,(x23,r22.2.1.2.2.2.2.2))))),()))).bind fun r24=>
           if (!r24.1)=true then
            some (((((0:Int),(([]:List (Int×Int×Unit)),())),((0:Int),((0:Int),(([]:List Int),((0:Int),()))))),(false,())))
           else
            some (((r22.2.1.1,(r22.2.1.2.1,(r22.2.1.2.2.1,(r22.2.1.2.2.2.1,(x23,r22.2.1.2.2.2.2.2))))),(true,())))
         else
          if (a1.1==(9:Int))=true then
           ((F_q44q 0) ((r2.1,(a1,())))).bind fun r25=>
           let x26:=IntKind.wrap .i64 (r25.2.1.2.2.2.2.1+(1:Int))
           if (!r25.1)=true then
            some (((((0:Int),(([]:List (Int×Int×Unit)),())),((0:Int),((0:Int),(([]:List Int),((0:Int),()))))),(false,())))
           else
            ((F_q38q 0) (((r25.2.1.1,(r25.2.1.2.1,(r25.2.1.2.2.1,(r25.2.1.2.2.2.1,(x26,r25.2.1.2.2.2.2.2))))),()))).bind fun r27=>
            if (!r27.1)=true then
             some (((((0:Int),(([]:List (Int×Int×Unit)),())),((0:Int),((0:Int),(([]:List Int),((0:Int),()))))),(false,())))
            else
             some (((r25.2.1.1,(r25.2.1.2.1,(r25.2.1.2.2.1,(r25.2.1.2.2.2.1,(x26,r25.2.1.2.2.2.2.2))))),(true,())))
          else
           if (a1.1==(10:Int))=true then
            ((F_q44q 0) ((r2.1,(a1,())))).bind fun r28=>
            let x29:=IntKind.wrap .i64 (r28.2.1.2.2.2.2.1+(1:Int))
            if (!r28.1)=true then
             some (((((0:Int),(([]:List (Int×Int×Unit)),())),((0:Int),((0:Int),(([]:List Int),((0:Int),()))))),(false,())))
            else
             ((F_q38q 0) (((r28.2.1.1,(r28.2.1.2.1,(r28.2.1.2.2.1,(r28.2.1.2.2.2.1,(x29,r28.2.1.2.2.2.2.2))))),()))).bind fun r30=>
             if (!r30.1)=true then
              some (((((0:Int),(([]:List (Int×Int×Unit)),())),((0:Int),((0:Int),(([]:List Int),((0:Int),()))))),(false,())))
             else
              some (((r28.2.1.1,(r28.2.1.2.1,(r28.2.1.2.2.1,(r28.2.1.2.2.2.1,(x29,r28.2.1.2.2.2.2.2))))),(true,())))
           else
            some (((((0:Int),(([]:List (Int×Int×Unit)),())),((0:Int),((0:Int),(([]:List Int),((0:Int),()))))),(false,())))
noncomputable def S_q99q:FSig:=⟨[(K_PPiSPiiqqiiSiiq,false),(K_Piiiq,false)],[K_PPiSPiiqqiiSiiq,.bool],true,(G_do)⟩
noncomputable def Γ_q96q:Ctx:={ tk:=assoc tks,ar:=assoc ars,fs:=assoc [(28,S_q38q),(48,S_q99q)] }
noncomputable def F_q96q (N:Nat) (d:((Int×(List (Int×Int×Unit))×Unit)×Int×Int×List Int×Int×Unit)×(Int×Int×Int×Unit)×Unit):Option (((Int×(List (Int×Int×Unit))×Unit)×Int×Int×List Int×Int×Unit)×Bool×Unit):=
 let a0:=d.1
 let a1:=d.2.1
 ((F_q38q 0) (a0,())).bind fun r1=>
 if (!r1.1)=true then
  some (((((0:Int),(([]:List (Int×Int×Unit)),())),((0:Int),((0:Int),(([]:List Int),((0:Int),()))))),(false,())))
 else
  (G_do ((a0,(a1,())))).bind fun r2=>
  some ((r2.1,(r2.2.1,())))
noncomputable def S_q96q:FSig:=⟨[(K_PPiSPiiqqiiSiiq,false),(K_Piiiq,false)],[K_PPiSPiiqqiiSiiq,.bool],true,(F_q96q 0)⟩
noncomputable def Γ_q102q:Ctx:={ tk:=assoc tks,ar:=assoc ars,fs:=assoc [(44,S_q75q),(45,S_spec_l12Do)] }
noncomputable def F_q102q (N:Nat) (d:((Int×(List (Int×Int×Unit))×Unit)×Int×Int×List Int×Int×Unit)×(Int×Int×Int×Unit)×Unit):Option (((Int×(List (Int×Int×Unit))×Unit)×Int×Int×List Int×Int×Unit)×Bool×Unit):=
 let a0:=d.1
 let a1:=d.2.1
 ((F_q75q 0) (a0,())).bind fun r1=>
 if (!r1.1)=true then
  some (((((0:Int),(([]:List (Int×Int×Unit)),())),((0:Int),((0:Int),(([]:List Int),((0:Int),()))))),(false,())))
 else
  (G_do ((a0,(a1,())))).bind fun r2=>
  some ((r2.1,(r2.2.1,())))
noncomputable def S_q102q:FSig:=⟨[(K_PPiSPiiqqiiSiiq,false),(K_Piiiq,false)],[K_PPiSPiiqqiiSiiq,.bool],true,(F_q102q 0)⟩
noncomputable def Γ_q22q:Ctx:={ tk:=assoc tks,ar:=assoc ars,fs:=assoc [(60,S_q11q),(61,S_q16q),(62,S_q37q)] }
abbrev q22q_l0_H:=((Int×(List (Int×Int×Unit))×Unit)×Int×Int×List Int×Int×Unit)×(List Int×Int×Int×Unit)×((Int×(List (Int×Int×Unit))×Unit)×Int×Int×List Int×Int×Unit)×(List (Int×Int×Int×Unit))×Int×Unit
abbrev q22q_l0_O:=(((Int×(List (Int×Int×Unit))×Unit)×Int×Int×List Int×Int×Unit)×((Int×(List (Int×Int×Unit))×Unit)×Int×Int×List Int×Int×Unit)×(List (Int×Int×Int×Unit))×Unit)⊕Empty
def q22q_l0_h:Form:=[(2,.box K_PPiSPiiqqiiSiiq 99),(4,.box K_PSu8iu64q 0),(5,.box K_PPiSPiiqqiiSiiq 0),(6,.own K_SPiiiq 99),(7,.v I)]
def q22q_l0_o:Outs:=[(.normal,[(2,.box K_PPiSPiiqqiiSiiq 99),(5,.box K_PPiSPiiqqiiSiiq 0),(6,.own K_SPiiiq 99)])]
noncomputable def q22q_l0_r (N:Nat) (back:q22q_l0_H->Option q22q_l0_O) (d:q22q_l0_H):Option q22q_l0_O:=
 let s2:=d.1
 let s4:=d.2.1
 let s5:=d.2.2.1
 let s6:=d.2.2.2.1
 let s7:=d.2.2.2.2.1
 if (decide (s7>(0:Int)))=true then
  ((F_q16q 0) ((s4,(s5.1,())))).bind fun r13=>
  if (decide (List.length s6+List.length ([r13.1])<=lim))=true then
  let x14:=IntKind.wrap .i64 (s7-(1:Int))
  back ((s2,(r13.2.1,(s5,(s6++([r13.1]),(x14,()))))))
  else none
 else
  some (.inl ((s2,(s5,(s6,())))))
noncomputable def q22q_l0 (N:Nat):Nat->q22q_l0_H->Option q22q_l0_O
 | 0,_=>none
 | k+1,d=>q22q_l0_r N (q22q_l0 N k) d
noncomputable def F_q22q (N:Nat) (d:List Int×Unit):Option (((Int×(List (Int×Int×Unit))×Unit)×Int×Int×List Int×Int×Unit)×(List (Int×Int×Int×Unit))×Unit):=
 let a0:=d.1
 ((pickF F_q11q P_shop) (((a0,((0:Int),((0:Int),()))),()))).bind fun r7=>
 ((F_q37q 0) ((r7.2.1,((6:Int),())))).bind fun r8=>
 (q22q_l0 N N (((((0:Int),(([]:List (Int×Int×Unit)),())),((0:Int),((0:Int),(([]:List Int),((0:Int),()))))),(r8.2.1,(r7.1,(([]:List (Int×Int×Int×Unit)),(r8.1,()))))))).bind fun o11=>match o11 with
 | .inl d12=>
  some ((d12.2.1,(d12.2.2.1,())))
noncomputable def S_q22q:FSig:=⟨[(K_Su8,false)],[K_PPiSPiiqqiiSiiq,K_SPiiiq],false,(pickF F_q22q P_works)⟩
noncomputable def Γ_q77q:Ctx:={ tk:=assoc tks,ar:=assoc ars,fs:=assoc [(28,S_q38q),(48,S_q99q),(56,S_q12q)] }
abbrev q77q_l0_H:=(List (Int×Int×Int×Unit))×((Int×(List (Int×Int×Unit))×Unit)×Int×Int×List Int×Int×Unit)×((Int×(List (Int×Int×Unit))×Unit)×Int×Int×List Int×Int×Unit)×(List (Int×Int×Int×Unit))×Int×Int×Unit
abbrev q77q_l0_O:=(((Int×(List (Int×Int×Unit))×Unit)×Int×Int×List Int×Int×Unit)×Int×Bool×Unit)⊕((List (Int×Int×Int×Unit))×((Int×(List (Int×Int×Unit))×Unit)×Int×Int×List Int×Int×Unit)×((Int×(List (Int×Int×Unit))×Unit)×Int×Int×List Int×Int×Unit)×Unit)⊕Empty
def q77q_l0_h:Form:=[(1,.v K_SPiiiq),(4,.box K_PPiSPiiqqiiSiiq 99),(7,.box K_PPiSPiiqqiiSiiq 99),(18,.v K_SPiiiq),(19,.v I),(20,.v I)]
def q77q_l0_o:Outs:=[(.ret,[(4,.box K_PPiSPiiqqiiSiiq 99),(5,.v I),(6,.v .bool)]),(.normal,[(1,.v K_SPiiiq),(4,.box K_PPiSPiiqqiiSiiq 99),(7,.box K_PPiSPiiqqiiSiiq 99)])]
noncomputable def q77q_l0_r (N:Nat) (back:q77q_l0_H->Option q77q_l0_O) (d:q77q_l0_H):Option q77q_l0_O:=
 let s1:=d.1
 let s4:=d.2.1
 let s7:=d.2.2.1
 let s18:=d.2.2.2.1
 let s19:=d.2.2.2.2.1
 let s20:=d.2.2.2.2.2.1
 if (decide (s20<s19))=true then
  if (idxIn s20 (List.length s18))=true then
  (G_do ((s7,(at_ K_Piiiq s18 s20.toNat,())))).bind fun r8=>
  if (!r8.2.1)=true then
   some (.inl ((s7,(s20,(true,())))))
  else
   let x9:=IntKind.wrap .i64 (s20+(1:Int))
   back ((s1,(s4,(r8.1,(s18,(s19,(x9,())))))))
  else none
 else
  some (.inr (.inl ((s1,(s4,(s7,()))))))
noncomputable def q77q_l0 (N:Nat):Nat->q77q_l0_H->Option q77q_l0_O
 | 0,_=>none
 | k+1,d=>q77q_l0_r N (q77q_l0 N k) d
noncomputable def F_q77q (N:Nat) (d:((Int×(List (Int×Int×Unit))×Unit)×Int×Int×List Int×Int×Unit)×(List (Int×Int×Int×Unit))×Unit):Option (((Int×(List (Int×Int×Unit))×Unit)×Int×Int×List Int×Int×Unit)×Int×Bool×Unit):=
 let a0:=d.1
 let a1:=d.2.1
 ((F_q38q 0) (a0,())).bind fun r1=>
 if (!r1.1)=true then
  some (((((0:Int),(([]:List (Int×Int×Unit)),())),((0:Int),((0:Int),(([]:List Int),((0:Int),()))))),((0:Int),(false,()))))
 else
  (G_cloneWs (a0,())).bind fun r2=>
  (q77q_l0 N N ((a1,((((0:Int),(([]:List (Int×Int×Unit)),())),((0:Int),((0:Int),(([]:List Int),((0:Int),()))))),(r2.1,(a1,((List.length a1:Int),((0:Int),())))))))).bind fun o5=>match o5 with
  | .inl d6=>
   some ((d6.1,(d6.2.1,(d6.2.2.1,()))))
  | .inr (.inl d7)=>
   some ((d7.2.2.1,((List.length d7.1:Int),(true,()))))
noncomputable def S_q77q:FSig:=⟨[(K_PPiSPiiqqiiSiiq,false),(K_SPiiiq,false)],[K_PPiSPiiqqiiSiiq,I,.bool],true,(G_DoWorks)⟩
noncomputable def Γ_q84q:Ctx:={ tk:=assoc tks,ar:=assoc ars,fs:=assoc [(44,S_q75q),(45,S_spec_l12Do),(55,S_q88q)] }
abbrev q84q_l0_H:=(List (Int×Int×Int×Unit))×((Int×(List (Int×Int×Unit))×Unit)×Int×Int×List Int×Int×Unit)×((Int×(List (Int×Int×Unit))×Unit)×Int×Int×List Int×Int×Unit)×Int×Unit
abbrev q84q_l0_O:=(((Int×(List (Int×Int×Unit))×Unit)×Int×Int×List Int×Int×Unit)×Int×Bool×Unit)⊕((List (Int×Int×Int×Unit))×((Int×(List (Int×Int×Unit))×Unit)×Int×Int×List Int×Int×Unit)×((Int×(List (Int×Int×Unit))×Unit)×Int×Int×List Int×Int×Unit)×Unit)⊕Empty
def q84q_l0_h:Form:=[(1,.v K_SPiiiq),(4,.box K_PPiSPiiqqiiSiiq 99),(7,.box K_PPiSPiiqqiiSiiq 99),(8,.v I)]
def q84q_l0_o:Outs:=[(.ret,[(4,.box K_PPiSPiiqqiiSiiq 99),(5,.v I),(6,.v .bool)]),(.normal,[(1,.v K_SPiiiq),(4,.box K_PPiSPiiqqiiSiiq 99),(7,.box K_PPiSPiiqqiiSiiq 99)])]
noncomputable def q84q_l0_r (N:Nat) (back:q84q_l0_H->Option q84q_l0_O) (d:q84q_l0_H):Option q84q_l0_O:=
 let s1:=d.1
 let s4:=d.2.1
 let s7:=d.2.2.1
 let s8:=d.2.2.2.1
 if (decide (s8<(List.length s1:Int)))=true then
  if (idxIn s8 (List.length s1))=true then
  (G_do ((s7,(at_ K_Piiiq s1 s8.toNat,())))).bind fun r8=>
  if (!r8.2.1)=true then
   some (.inl ((s7,(s8,(true,())))))
  else
   let x9:=IntKind.wrap .i64 (s8+(1:Int))
   back ((s1,(s4,(r8.1,(x9,())))))
  else none
 else
  some (.inr (.inl ((s1,(s4,(s7,()))))))
noncomputable def q84q_l0 (N:Nat):Nat->q84q_l0_H->Option q84q_l0_O
 | 0,_=>none
 | k+1,d=>q84q_l0_r N (q84q_l0 N k) d
noncomputable def F_q84q (N:Nat) (d:((Int×(List (Int×Int×Unit))×Unit)×Int×Int×List Int×Int×Unit)×(List (Int×Int×Int×Unit))×Unit):Option (((Int×(List (Int×Int×Unit))×Unit)×Int×Int×List Int×Int×Unit)×Int×Bool×Unit):=
 let a0:=d.1
 let a1:=d.2.1
 ((F_q75q 0) (a0,())).bind fun r1=>
 if (!r1.1)=true then
  some (((((0:Int),(([]:List (Int×Int×Unit)),())),((0:Int),((0:Int),(([]:List Int),((0:Int),()))))),((0:Int),(false,()))))
 else
  ((F_q88q 0) (a0,())).bind fun r2=>
  (q84q_l0 N N ((a1,((((0:Int),(([]:List (Int×Int×Unit)),())),((0:Int),((0:Int),(([]:List Int),((0:Int),()))))),(r2.1,((0:Int),())))))).bind fun o5=>match o5 with
  | .inl d6=>
   some ((d6.1,(d6.2.1,(d6.2.2.1,()))))
  | .inr (.inl d7)=>
   some ((d7.2.2.1,((List.length d7.1:Int),(true,()))))
noncomputable def S_q84q:FSig:=⟨[(K_PPiSPiiqqiiSiiq,false),(K_SPiiiq,false)],[K_PPiSPiiqqiiSiiq,I,.bool],true,(G_DoWorks)⟩
noncomputable def Γ_q106q:Ctx:={ tk:=assoc tks,ar:=assoc ars,fs:=assoc [],cs:=assoc [],gs:=assoc [],eqt:=inL [67],md:=md0 }
abbrev q106q_l0_H:=(List (Int×Int×Unit))×(List (Int×Int×Unit))×Int×Unit
abbrev q106q_l0_O:=(Bool×Unit)⊕Unit⊕Empty
def q106q_l0_h:Form:=[(0,.v K_SPiiq),(1,.v K_SPiiq),(5,.v I)]
def q106q_l0_o:Outs:=[(.ret,[(4,.v .bool)]),(.normal,[])]
noncomputable def q106q_l0_r (N:Nat) (back:q106q_l0_H->Option q106q_l0_O) (d:q106q_l0_H):Option q106q_l0_O:=
 let s0:=d.1
 let s1:=d.2.1
 let s5:=d.2.2.1
 if (decide (s5<(List.length s0:Int)))=true then
  if (idxIn s5 (List.length s0))=true then
  if (idxIn s5 (List.length s1))=true then
  if (!eqB K_Piiq (at_ K_Piiq s0 s5.toNat) (at_ K_Piiq s1 s5.toNat))=true then
   some (.inl (false,()))
  else
   let x5:=IntKind.wrap .i64 (s5+(1:Int))
   back ((s0,(s1,(x5,()))))
  else none
  else none
 else
  some (.inr (.inl ()))
noncomputable def q106q_l0 (N:Nat):Nat->q106q_l0_H->Option q106q_l0_O
 | 0,_=>none
 | k+1,d=>q106q_l0_r N (q106q_l0 N k) d
noncomputable def F_q106q (N:Nat) (d:(List (Int×Int×Unit))×(List (Int×Int×Unit))×Unit):Option (Bool×Unit):=
 let a0:=d.1
 let a1:=d.2.1
 if ((List.length a0:Int) != (List.length a1:Int))=true then
  some (false,())
 else
  (q106q_l0 N N ((a0,(a1,((0:Int),()))))).bind fun o2=>match o2 with
  | .inl d3=>
   some (d3.1,())
  | .inr (.inl d4)=>
   some (true,())
noncomputable def S_q106q:FSig:=⟨[(K_SPiiq,false),(K_SPiiq,false)],[.bool],true,(G_vPairs)⟩
noncomputable def Γ_q97q:Ctx:={ tk:=assoc tks,ar:=assoc ars,fs:=assoc [(65,S_q106q)] }
noncomputable def F_q97q (N:Nat) (d:(Int×(List (Int×Int×Unit))×Unit)×(Int×(List (Int×Int×Unit))×Unit)×Unit):Option (Bool×Unit):=
 let a0:=d.1
 let a1:=d.2.1
 if (a0.1==a1.1)=true then
  (G_vPairs ((a0.2.1,(a1.2.1,())))).bind fun r1=>
  some (r1.1,())
 else
  some (false,())
noncomputable def S_q97q:FSig:=⟨[(K_PiSPiiqq,false),(K_PiSPiiqq,false)],[.bool],true,(F_q97q 0)⟩
noncomputable def Γ_laws_vInts:Ctx:={ tk:=assoc tks,ar:=assoc ars,fs:=assoc [] }
abbrev laws_vInts_l0_H:=List Int×List Int×Int×Unit
abbrev laws_vInts_l0_O:=(Bool×Unit)⊕Unit⊕Empty
def laws_vInts_l0_h:Form:=[(0,.v K_Si),(1,.v K_Si),(5,.v I)]
def laws_vInts_l0_o:Outs:=[(.ret,[(4,.v .bool)]),(.normal,[])]
noncomputable def laws_vInts_l0_r (N:Nat) (back:laws_vInts_l0_H->Option laws_vInts_l0_O) (d:laws_vInts_l0_H):Option laws_vInts_l0_O:=
 let s0:=d.1
 let s1:=d.2.1
 let s5:=d.2.2.1
 if (decide (s5<(List.length s0:Int)))=true then
  if (idxIn s5 (List.length s0))=true then
  if (idxIn s5 (List.length s1))=true then
  if (at_ I s0 s5.toNat != at_ I s1 s5.toNat)=true then
   some (.inl (false,()))
  else
   let x5:=IntKind.wrap .i64 (s5+(1:Int))
   back ((s0,(s1,(x5,()))))
  else none
  else none
 else
  some (.inr (.inl ()))
noncomputable def laws_vInts_l0 (N:Nat):Nat->laws_vInts_l0_H->Option laws_vInts_l0_O
 | 0,_=>none
 | k+1,d=>laws_vInts_l0_r N (laws_vInts_l0 N k) d
noncomputable def F_laws_vInts (N:Nat) (d:List Int×List Int×Unit):Option (Bool×Unit):=
 let a0:=d.1
 let a1:=d.2.1
 if ((List.length a0:Int) != (List.length a1:Int))=true then
  some (false,())
 else
  (laws_vInts_l0 N N ((a0,(a1,((0:Int),()))))).bind fun o2=>match o2 with
  | .inl d3=>
   some (d3.1,())
  | .inr (.inl d4)=>
   some (true,())
noncomputable def S_laws_vInts:FSig:=⟨[(K_Si,false),(K_Si,false)],[.bool],true,(G_vInts)⟩
noncomputable def Γ_laws_vShop:Ctx:={ tk:=assoc tks,ar:=assoc ars,fs:=assoc [(30,S_q97q),(31,S_laws_vInts)] }
noncomputable def F_laws_vShop (N:Nat) (d:((Int×(List (Int×Int×Unit))×Unit)×Int×Int×List Int×Int×Unit)×((Int×(List (Int×Int×Unit))×Unit)×Int×Int×List Int×Int×Unit)×Unit):Option (Bool×Unit):=
 let a0:=d.1
 let a1:=d.2.1
 ((F_q97q 0) ((a0.1,(a1.1,())))).bind fun r1=>
 if (r1.1)=true then
  if (a0.2.1==a1.2.1)=true then
   if (a0.2.2.1==a1.2.2.1)=true then
    (G_vInts ((a0.2.2.2.1,(a1.2.2.2.1,())))).bind fun r2=>
    if (r2.1)=true then
     some (a0.2.2.2.2.1==a1.2.2.2.2.1,())
    else
     some (false,())
   else
    some (false,())
  else
   some (false,())
 else
  some (false,())
noncomputable def S_laws_vShop:FSig:=⟨[(K_PPiSPiiqqiiSiiq,false),(K_PPiSPiiqqiiSiiq,false)],[.bool],true,(F_laws_vShop 0)⟩
noncomputable def Γ_q32q:Ctx:={ tk:=assoc tks,ar:=assoc ars,fs:=assoc [(44,S_q75q)] }
noncomputable def F_q32q (N:Nat) (d:((Int×(List (Int×Int×Unit))×Unit)×Int×Int×List Int×Int×Unit)×Unit):Option (Bool×Unit):=
 let a0:=d.1
 ((F_q75q 0) (a0,())).bind fun r1=>
 some (r1.1,())
noncomputable def S_q32q:FSig:=⟨[(K_PPiSPiiqqiiSiiq,false)],[.bool],true,(F_q32q 0)⟩
noncomputable def Γ_laws_FnWorkshops:Ctx:={ tk:=assoc tks,ar:=assoc ars,fs:=assoc [(9,S_q102q),(12,S_q96q),(18,S_laws_vBig),(19,S_q9q),(20,S_q20q),(21,S_q26q),(22,S_q40q),(23,S_laws_vCut),(24,S_q22q),(25,S_q77q),(26,S_q84q),(27,S_laws_vShop),(28,S_q38q),(29,S_q32q),(30,S_q97q),(31,S_laws_vInts)] }
noncomputable def F_laws_FnWorkshops (N:Nat) (d:List Int×Unit):Option (Bool×Unit):=
 let a0:=d.1
 let r1:=g_laws_vBig (a0,())
 if (r1.1)=true then
  some (true,())
 else
  ((F_q9q 0) (a0,())).bind fun r2=>
  ((F_q20q 0) (r2.1,())).bind fun r3=>
  ((F_q26q 0) (r2.1,())).bind fun r4=>
  ((F_laws_vCut 0) ((a0,((1:Int),())))).bind fun r5=>
  ((F_q40q 0) (r5.1,())).bind fun r6=>
  ((F_q96q 0) ((r6.1,(r6.2.1,())))).bind fun r7=>
  ((F_q102q 0) ((r6.1,(r6.2.1,())))).bind fun r8=>
  ((F_laws_vCut 0) ((a0,((2:Int),())))).bind fun r9=>
  ((pickF F_q22q P_works) (r9.1,())).bind fun r10=>
  (G_DoWorks ((r10.1,(r10.2.1,())))).bind fun r11=>
  (G_DoWorks ((r10.1,(r10.2.1,())))).bind fun r12=>
  if (!(r3.2.1==r4.2.1))=true then
   some (false,())
  else
   ((F_laws_vShop 0) ((r3.1,(r4.1,())))).bind fun r13=>
   if (!r13.1)=true then
    some (false,())
   else
    if (!(r7.2.1==r8.2.1))=true then
     some (false,())
    else
     ((F_laws_vShop 0) ((r7.1,(r8.1,())))).bind fun r14=>
     if (!r14.1)=true then
      some (false,())
     else
      if (!(r11.2.2.1==r12.2.2.1))=true then
       some (false,())
      else
       if (r11.2.1 != r12.2.1)=true then
        some (false,())
       else
        ((F_laws_vShop 0) ((r11.1,(r12.1,())))).bind fun r15=>
        if (!r15.1)=true then
         some (false,())
        else
         ((F_q38q 0) (r6.1,())).bind fun r16=>
         ((F_q32q 0) (r6.1,())).bind fun r17=>
         if (!(r16.1==r17.1))=true then
          some (false,())
         else
          if (r7.2.1)=true then
           ((F_q38q 0) (r7.1,())).bind fun r18=>
           if (!r18.1)=true then
            some (false,())
           else
            let x19:=IntKind.wrap .i64 (r6.1.2.2.2.2.1+(1:Int))
            if (r7.1.2.2.2.2.1 != x19)=true then
             some (false,())
            else
             if (r11.2.2.1)=true then
              ((F_q38q 0) (r11.1,())).bind fun r20=>
              if (!r20.1)=true then
               some (false,())
              else
               if (r7.2.1)=true then
                if (r6.2.1.1==(3:Int))=true then
                 ((F_q96q 0) ((r7.1,(r6.2.1,())))).bind fun r21=>
                 if (r21.2.1)=true then
                  ((F_q97q 0) ((r21.1.1,(r6.1.1,())))).bind fun r22=>
                  if (!r22.1)=true then
                   some (false,())
                  else
                   (G_vInts ((r21.1.2.2.2.1,(r6.1.2.2.2.1,())))).bind fun r23=>
                   if (!r23.1)=true then
                    some (false,())
                   else
                    ((F_q96q 0) ((r6.1,(((10:Int),((0:Int),((0:Int),()))),())))).bind fun r24=>
                    ((F_q96q 0) ((r24.1,(((10:Int),((0:Int),((0:Int),()))),())))).bind fun r25=>
                    if (!r24.2.1)=true then
                     some (true,())
                    else
                     if (!r25.2.1)=true then
                      some (true,())
                     else
                      (G_vInts ((r25.1.2.2.2.1,(r6.1.2.2.2.1,())))).bind fun r26=>
                      some (r26.1,())
                 else
                  ((F_q96q 0) ((r6.1,(((10:Int),((0:Int),((0:Int),()))),())))).bind fun r27=>
                  ((F_q96q 0) ((r27.1,(((10:Int),((0:Int),((0:Int),()))),())))).bind fun r28=>
                  if (!r27.2.1)=true then
                   some (true,())
                  else
                   if (!r28.2.1)=true then
                    some (true,())
                   else
                    (G_vInts ((r28.1.2.2.2.1,(r6.1.2.2.2.1,())))).bind fun r29=>
                    some (r29.1,())
                else
                 if (r6.2.1.1==(8:Int))=true then
                  ((F_q96q 0) ((r7.1,(r6.2.1,())))).bind fun r30=>
                  if (r30.2.1)=true then
                   ((F_q97q 0) ((r30.1.1,(r6.1.1,())))).bind fun r31=>
                   if (!r31.1)=true then
                    some (false,())
                   else
                    (G_vInts ((r30.1.2.2.2.1,(r6.1.2.2.2.1,())))).bind fun r32=>
                    if (!r32.1)=true then
                     some (false,())
                    else
                     ((F_q96q 0) ((r6.1,(((10:Int),((0:Int),((0:Int),()))),())))).bind fun r33=>
                     ((F_q96q 0) ((r33.1,(((10:Int),((0:Int),((0:Int),()))),())))).bind fun r34=>
                     if (!r33.2.1)=true then
                      some (true,())
                     else
                      if (!r34.2.1)=true then
                       some (true,())
                      else
                       (G_vInts ((r34.1.2.2.2.1,(r6.1.2.2.2.1,())))).bind fun r35=>
                       some (r35.1,())
                  else
                   ((F_q96q 0) ((r6.1,(((10:Int),((0:Int),((0:Int),()))),())))).bind fun r36=>
                   ((F_q96q 0) ((r36.1,(((10:Int),((0:Int),((0:Int),()))),())))).bind fun r37=>
                   if (!r36.2.1)=true then
                    some (true,())
                   else
                    if (!r37.2.1)=true then
                     some (true,())
                    else
                     (G_vInts ((r37.1.2.2.2.1,(r6.1.2.2.2.1,())))).bind fun r38=>
                     some (r38.1,())
                 else
                  ((F_q96q 0) ((r6.1,(((10:Int),((0:Int),((0:Int),()))),())))).bind fun r39=>
                  ((F_q96q 0) ((r39.1,(((10:Int),((0:Int),((0:Int),()))),())))).bind fun r40=>
                  if (!r39.2.1)=true then
                   some (true,())
                  else
                   if (!r40.2.1)=true then
                    some (true,())
                   else
                    (G_vInts ((r40.1.2.2.2.1,(r6.1.2.2.2.1,())))).bind fun r41=>
                    some (r41.1,())
               else
                ((F_q96q 0) ((r6.1,(((10:Int),((0:Int),((0:Int),()))),())))).bind fun r42=>
                ((F_q96q 0) ((r42.1,(((10:Int),((0:Int),((0:Int),()))),())))).bind fun r43=>
                if (!r42.2.1)=true then
                 some (true,())
                else
                 if (!r43.2.1)=true then
                  some (true,())
                 else
                  (G_vInts ((r43.1.2.2.2.1,(r6.1.2.2.2.1,())))).bind fun r44=>
                  some (r44.1,())
             else
              if (r7.2.1)=true then
               if (r6.2.1.1==(3:Int))=true then
                ((F_q96q 0) ((r7.1,(r6.2.1,())))).bind fun r45=>
                if (r45.2.1)=true then
                 ((F_q97q 0) ((r45.1.1,(r6.1.1,())))).bind fun r46=>
                 if (!r46.1)=true then
                  some (false,())
                 else
                  (G_vInts ((r45.1.2.2.2.1,(r6.1.2.2.2.1,())))).bind fun r47=>
                  if (!r47.1)=true then
                   some (false,())
                  else
                   ((F_q96q 0) ((r6.1,(((10:Int),((0:Int),((0:Int),()))),())))).bind fun r48=>
                   ((F_q96q 0) ((r48.1,(((10:Int),((0:Int),((0:Int),()))),())))).bind fun r49=>
                   if (!r48.2.1)=true then
                    some (true,())
                   else
                    if (!r49.2.1)=true then
                     some (true,())
                    else
                     (G_vInts ((r49.1.2.2.2.1,(r6.1.2.2.2.1,())))).bind fun r50=>
                     some (r50.1,())
                else
                 ((F_q96q 0) ((r6.1,(((10:Int),((0:Int),((0:Int),()))),())))).bind fun r51=>
                 ((F_q96q 0) ((r51.1,(((10:Int),((0:Int),((0:Int),()))),())))).bind fun r52=>
                 if (!r51.2.1)=true then
                  some (true,())
                 else
                  if (!r52.2.1)=true then
                   some (true,())
                  else
                   (G_vInts ((r52.1.2.2.2.1,(r6.1.2.2.2.1,())))).bind fun r53=>
                   some (r53.1,())
               else
                if (r6.2.1.1==(8:Int))=true then
                 ((F_q96q 0) ((r7.1,(r6.2.1,())))).bind fun r54=>
                 if (r54.2.1)=true then
                  ((F_q97q 0) ((r54.1.1,(r6.1.1,())))).bind fun r55=>
                  if (!r55.1)=true then
                   some (false,())
                  else
                   (G_vInts ((r54.1.2.2.2.1,(r6.1.2.2.2.1,())))).bind fun r56=>
                   if (!r56.1)=true then
                    some (false,())
                   else
                    ((F_q96q 0) ((r6.1,(((10:Int),((0:Int),((0:Int),()))),())))).bind fun r57=>
                    ((F_q96q 0) ((r57.1,(((10:Int),((0:Int),((0:Int),()))),())))).bind fun r58=>
                    if (!r57.2.1)=true then
                     some (true,())
                    else
                     if (!r58.2.1)=true then
                      some (true,())
                     else
                      (G_vInts ((r58.1.2.2.2.1,(r6.1.2.2.2.1,())))).bind fun r59=>
                      some (r59.1,())
                 else
                  ((F_q96q 0) ((r6.1,(((10:Int),((0:Int),((0:Int),()))),())))).bind fun r60=>
                  ((F_q96q 0) ((r60.1,(((10:Int),((0:Int),((0:Int),()))),())))).bind fun r61=>
                  if (!r60.2.1)=true then
                   some (true,())
                  else
                   if (!r61.2.1)=true then
                    some (true,())
                   else
                    (G_vInts ((r61.1.2.2.2.1,(r6.1.2.2.2.1,())))).bind fun r62=>
                    some (r62.1,())
                else
                 ((F_q96q 0) ((r6.1,(((10:Int),((0:Int),((0:Int),()))),())))).bind fun r63=>
                 ((F_q96q 0) ((r63.1,(((10:Int),((0:Int),((0:Int),()))),())))).bind fun r64=>
                 if (!r63.2.1)=true then
                  some (true,())
                 else
                  if (!r64.2.1)=true then
                   some (true,())
                  else
                   (G_vInts ((r64.1.2.2.2.1,(r6.1.2.2.2.1,())))).bind fun r65=>
                   some (r65.1,())
              else
               ((F_q96q 0) ((r6.1,(((10:Int),((0:Int),((0:Int),()))),())))).bind fun r66=>
               ((F_q96q 0) ((r66.1,(((10:Int),((0:Int),((0:Int),()))),())))).bind fun r67=>
               if (!r66.2.1)=true then
                some (true,())
               else
                if (!r67.2.1)=true then
                 some (true,())
                else
                 (G_vInts ((r67.1.2.2.2.1,(r6.1.2.2.2.1,())))).bind fun r68=>
                 some (r68.1,())
          else
           if (r11.2.2.1)=true then
            ((F_q38q 0) (r11.1,())).bind fun r69=>
            if (!r69.1)=true then
             some (false,())
            else
             if (r7.2.1)=true then
              if (r6.2.1.1==(3:Int))=true then
               ((F_q96q 0) ((r7.1,(r6.2.1,())))).bind fun r70=>
               if (r70.2.1)=true then
                ((F_q97q 0) ((r70.1.1,(r6.1.1,())))).bind fun r71=>
                if (!r71.1)=true then
                 some (false,())
                else
                 (G_vInts ((r70.1.2.2.2.1,(r6.1.2.2.2.1,())))).bind fun r72=>
                 if (!r72.1)=true then
                  some (false,())
                 else
                  ((F_q96q 0) ((r6.1,(((10:Int),((0:Int),((0:Int),()))),())))).bind fun r73=>
                  ((F_q96q 0) ((r73.1,(((10:Int),((0:Int),((0:Int),()))),())))).bind fun r74=>
                  if (!r73.2.1)=true then
                   some (true,())
                  else
                   if (!r74.2.1)=true then
                    some (true,())
                   else
                    (G_vInts ((r74.1.2.2.2.1,(r6.1.2.2.2.1,())))).bind fun r75=>
                    some (r75.1,())
               else
                ((F_q96q 0) ((r6.1,(((10:Int),((0:Int),((0:Int),()))),())))).bind fun r76=>
                ((F_q96q 0) ((r76.1,(((10:Int),((0:Int),((0:Int),()))),())))).bind fun r77=>
                if (!r76.2.1)=true then
                 some (true,())
                else
                 if (!r77.2.1)=true then
                  some (true,())
                 else
                  (G_vInts ((r77.1.2.2.2.1,(r6.1.2.2.2.1,())))).bind fun r78=>
                  some (r78.1,())
              else
               if (r6.2.1.1==(8:Int))=true then
                ((F_q96q 0) ((r7.1,(r6.2.1,())))).bind fun r79=>
                if (r79.2.1)=true then
                 ((F_q97q 0) ((r79.1.1,(r6.1.1,())))).bind fun r80=>
                 if (!r80.1)=true then
                  some (false,())
                 else
                  (G_vInts ((r79.1.2.2.2.1,(r6.1.2.2.2.1,())))).bind fun r81=>
                  if (!r81.1)=true then
                   some (false,())
                  else
                   ((F_q96q 0) ((r6.1,(((10:Int),((0:Int),((0:Int),()))),())))).bind fun r82=>
                   ((F_q96q 0) ((r82.1,(((10:Int),((0:Int),((0:Int),()))),())))).bind fun r83=>
                   if (!r82.2.1)=true then
                    some (true,())
                   else
                    if (!r83.2.1)=true then
                     some (true,())
                    else
                     (G_vInts ((r83.1.2.2.2.1,(r6.1.2.2.2.1,())))).bind fun r84=>
                     some (r84.1,())
                else
                 ((F_q96q 0) ((r6.1,(((10:Int),((0:Int),((0:Int),()))),())))).bind fun r85=>
                 ((F_q96q 0) ((r85.1,(((10:Int),((0:Int),((0:Int),()))),())))).bind fun r86=>
                 if (!r85.2.1)=true then
                  some (true,())
                 else
                  if (!r86.2.1)=true then
                   some (true,())
                  else
                   (G_vInts ((r86.1.2.2.2.1,(r6.1.2.2.2.1,())))).bind fun r87=>
                   some (r87.1,())
               else
                ((F_q96q 0) ((r6.1,(((10:Int),((0:Int),((0:Int),()))),())))).bind fun r88=>
                ((F_q96q 0) ((r88.1,(((10:Int),((0:Int),((0:Int),()))),())))).bind fun r89=>
                if (!r88.2.1)=true then
                 some (true,())
                else
                 if (!r89.2.1)=true then
                  some (true,())
                 else
                  (G_vInts ((r89.1.2.2.2.1,(r6.1.2.2.2.1,())))).bind fun r90=>
                  some (r90.1,())
             else
              ((F_q96q 0) ((r6.1,(((10:Int),((0:Int),((0:Int),()))),())))).bind fun r91=>
              ((F_q96q 0) ((r91.1,(((10:Int),((0:Int),((0:Int),()))),())))).bind fun r92=>
              if (!r91.2.1)=true then
               some (true,())
              else
               if (!r92.2.1)=true then
                some (true,())
               else
                (G_vInts ((r92.1.2.2.2.1,(r6.1.2.2.2.1,())))).bind fun r93=>
                some (r93.1,())
           else
            if (r7.2.1)=true then
             if (r6.2.1.1==(3:Int))=true then
              ((F_q96q 0) ((r7.1,(r6.2.1,())))).bind fun r94=>
              if (r94.2.1)=true then
               ((F_q97q 0) ((r94.1.1,(r6.1.1,())))).bind fun r95=>
               if (!r95.1)=true then
                some (false,())
               else
                (G_vInts ((r94.1.2.2.2.1,(r6.1.2.2.2.1,())))).bind fun r96=>
                if (!r96.1)=true then
                 some (false,())
                else
                 ((F_q96q 0) ((r6.1,(((10:Int),((0:Int),((0:Int),()))),())))).bind fun r97=>
                 ((F_q96q 0) ((r97.1,(((10:Int),((0:Int),((0:Int),()))),())))).bind fun r98=>
                 if (!r97.2.1)=true then
                  some (true,())
                 else
                  if (!r98.2.1)=true then
                   some (true,())
                  else
                   (G_vInts ((r98.1.2.2.2.1,(r6.1.2.2.2.1,())))).bind fun r99=>
                   some (r99.1,())
              else
               ((F_q96q 0) ((r6.1,(((10:Int),((0:Int),((0:Int),()))),())))).bind fun r100=>
               ((F_q96q 0) ((r100.1,(((10:Int),((0:Int),((0:Int),()))),())))).bind fun r101=>
               if (!r100.2.1)=true then
                some (true,())
               else
                if (!r101.2.1)=true then
                 some (true,())
                else
                 (G_vInts ((r101.1.2.2.2.1,(r6.1.2.2.2.1,())))).bind fun r102=>
                 some (r102.1,())
             else
              if (r6.2.1.1==(8:Int))=true then
               ((F_q96q 0) ((r7.1,(r6.2.1,())))).bind fun r103=>
               if (r103.2.1)=true then
                ((F_q97q 0) ((r103.1.1,(r6.1.1,())))).bind fun r104=>
                if (!r104.1)=true then
                 some (false,())
                else
                 (G_vInts ((r103.1.2.2.2.1,(r6.1.2.2.2.1,())))).bind fun r105=>
                 if (!r105.1)=true then
                  some (false,())
                 else
                  ((F_q96q 0) ((r6.1,(((10:Int),((0:Int),((0:Int),()))),())))).bind fun r106=>
                  ((F_q96q 0) ((r106.1,(((10:Int),((0:Int),((0:Int),()))),())))).bind fun r107=>
                  if (!r106.2.1)=true then
                   some (true,())
                  else
                   if (!r107.2.1)=true then
                    some (true,())
                   else
                    (G_vInts ((r107.1.2.2.2.1,(r6.1.2.2.2.1,())))).bind fun r108=>
                    some (r108.1,())
               else
                ((F_q96q 0) ((r6.1,(((10:Int),((0:Int),((0:Int),()))),())))).bind fun r109=>
                ((F_q96q 0) ((r109.1,(((10:Int),((0:Int),((0:Int),()))),())))).bind fun r110=>
                if (!r109.2.1)=true then
                 some (true,())
                else
                 if (!r110.2.1)=true then
                  some (true,())
                 else
                  (G_vInts ((r110.1.2.2.2.1,(r6.1.2.2.2.1,())))).bind fun r111=>
                  some (r111.1,())
              else
               ((F_q96q 0) ((r6.1,(((10:Int),((0:Int),((0:Int),()))),())))).bind fun r112=>
               ((F_q96q 0) ((r112.1,(((10:Int),((0:Int),((0:Int),()))),())))).bind fun r113=>
               if (!r112.2.1)=true then
                some (true,())
               else
                if (!r113.2.1)=true then
                 some (true,())
                else
                 (G_vInts ((r113.1.2.2.2.1,(r6.1.2.2.2.1,())))).bind fun r114=>
                 some (r114.1,())
            else
             ((F_q96q 0) ((r6.1,(((10:Int),((0:Int),((0:Int),()))),())))).bind fun r115=>
             ((F_q96q 0) ((r115.1,(((10:Int),((0:Int),((0:Int),()))),())))).bind fun r116=>
             if (!r115.2.1)=true then
              some (true,())
             else
              if (!r116.2.1)=true then
               some (true,())
              else
               (G_vInts ((r116.1.2.2.2.1,(r6.1.2.2.2.1,())))).bind fun r117=>
               some (r117.1,())
noncomputable def S_laws_FnWorkshops:FSig:=⟨[(K_Su8,false)],[.bool],true,(F_laws_FnWorkshops 0)⟩
end Go.V.W
namespace Go.V.W
theorem wrap_nat {m:Nat} (h:m<9223372036854775808):IntKind.wrap .i64 (m:Int)=(m:Int):=Go.IntWalk.i64_in _ (by omega)
theorem ofInt_nat (m:Nat):BitVec.ofInt 64 (m:Int)=BitVec.ofNat 64 m:=by simp
theorem bits_or {a b:Nat} (ha:a<256) (hb:b<256):bits .or .i64 (a:Int) (b:Int)=((a|||b:Nat):Int):=by
 have hab:a|||b<256:=Nat.or_lt_two_pow (n:=8) ha hb
 have e:(BitVec.ofInt IntKind.i64.bits (a:Int)|||BitVec.ofInt IntKind.i64.bits (b:Int)).toNat=a|||b:=by
  show (BitVec.ofInt 64 (a:Int)|||BitVec.ofInt 64 (b:Int)).toNat=a|||b
  rw [ofInt_nat,ofInt_nat,BitVec.toNat_or,BitVec.toNat_ofNat,BitVec.toNat_ofNat,Nat.mod_eq_of_lt (by omega),Nat.mod_eq_of_lt (by omega)]
 unfold bits bitI
 simp only [Option.getD_some]
 rw [e]
 exact wrap_nat (by omega)
theorem bits_and {a b:Nat} (ha:a<256) (hb:b<256):bits .and .i64 (a:Int) (b:Int)=((a&&&b:Nat):Int):=by
 have hab:a&&&b<=a:=Nat.and_le_left
 have e:(BitVec.ofInt IntKind.i64.bits (a:Int)&&&BitVec.ofInt IntKind.i64.bits (b:Int)).toNat=a&&&b:=by
  show (BitVec.ofInt 64 (a:Int)&&&BitVec.ofInt 64 (b:Int)).toNat=a&&&b
  rw [ofInt_nat,ofInt_nat,BitVec.toNat_and,BitVec.toNat_ofNat,BitVec.toNat_ofNat,Nat.mod_eq_of_lt (by omega),Nat.mod_eq_of_lt (by omega)]
 unfold bits bitI
 simp only [Option.getD_some]
 rw [e]
 exact wrap_nat (by omega)
theorem shl_one {y:Nat} (h:y<8):shl .i64 1 (y:Int)=((2 ^ y:Nat):Int):=by
 have:y=0\/y=1\/y=2\/y=3\/y=4\/y=5\/y=6\/y=7:=by omega
 rcases this with rfl | rfl | rfl | rfl | rfl | rfl | rfl | rfl<;>decide
theorem pow_small {y:Nat} (h:y<8):2 ^ y<256:=by
 have:y=0\/y=1\/y=2\/y=3\/y=4\/y=5\/y=6\/y=7:=by omega
 rcases this with rfl | rfl | rfl | rfl | rfl | rfl | rfl | rfl<;>decide
theorem shr_nat {m y:Nat} (h:y<8):shr .i64 (m:Int) (y:Int)=((m>>>y:Nat):Int):=by
 unfold shr
 have e:min (y:Int).toNat IntKind.i64.bits=y:=by
  show min (y:Int).toNat 64=y
  rw [Int.toNat_natCast]
  omega
 rw [e,Nat.shiftRight_eq_div_pow,Int.fdiv_eq_ediv_of_nonneg _ (by
  have:=Nat.two_pow_pos y
  exact_mod_cast Nat.zero_le (2 ^ y))]
 norm_cast
theorem has_bit {m y:Nat} (hm:m<256) (h:y<8):(bits .and .i64 (shr .i64 (m:Int) (y:Int)) 1==(1:Int))=m.testBit y:=by
 have h1:m>>>y<256:=by
  rw [Nat.shiftRight_eq_div_pow]
  exact Nat.lt_of_le_of_lt (Nat.div_le_self _ _) hm
 rw [shr_nat h]
 have:=bits_and h1 (show 1<256 by omega)
 rw [show ((1:Nat):Int)=1 from rfl] at this
 rw [this,Nat.testBit_eq_decide_div_mod_eq,Nat.shiftRight_eq_div_pow,Nat.and_one_is_mod]
 have:m / 2 ^ y % 2=0\/m / 2 ^ y % 2=1:=by omega
 rcases this with h | h<;>simp [h]
def okN (n:Nat) (ms:List Nat):Prop:=ms.length=n /\ ∀x,ms.getD x 0<256
theorem okN_zero (n:Nat):okN n (List.replicate n 0):=by
 refine ⟨by simp,fun x => ?_⟩
 simp only [List.getD_eq_getElem?_getD,List.getElem?_replicate]
 split<;>simp
theorem getD_set (ms:List Nat) (a x v:Nat) (h:a<ms.length):(ms.set a v).getD x 0=if x=a then v else ms.getD x 0:=by
 simp only [List.getD_eq_getElem?_getD,List.getElem?_set]
 by_cases e:x=a
 ·subst e;simp [h]
 ·simp [e,Ne.symm e]
theorem orN_ok {n:Nat} {ms:List Nat} (h:okN n ms) {a b:Nat} (ha:a<n) (hb:b<8):okN n (orN ms a b):=by
 refine ⟨by simp [orN,h.1],fun x => ?_⟩
 unfold orN
 rw [getD_set _ _ _ _ (by rw [h.1];exact ha)]
 split
 ·exact Nat.or_lt_two_pow (n:=8) (h.2 a) (pow_small hb)
 ·exact h.2 x
theorem orN_bit {n:Nat} {ms:List Nat} (h:okN n ms) {a b:Nat} (ha:a<n) (x y:Nat):((orN ms a b).getD x 0).testBit y=((ms.getD x 0).testBit y||(decide (x=a)&&decide (y=b))):=by
 unfold orN
 rw [getD_set _ _ _ _ (by rw [h.1];exact ha)]
 by_cases e:x=a
 ·subst e
  simp only [if_true,Nat.testBit_or,Nat.testBit_two_pow,decide_true,Bool.true_and]
  congr 1
  by_cases e:y=b
  ·simp [e]
  ·simp [e,Ne.symm e]
 ·simp [e]
theorem edgeB_nat {n:Nat} {e:E} (h:edgeB (n:Int) e=true):e.1.toNat<e.2.1.toNat/\e.2.1.toNat<n/\e.1=(e.1.toNat:Int)/\e.2.1=(e.2.1.toNat:Int):=by
 unfold edgeB at h
 simp only [Bool.and_eq_true,decide_eq_true_eq] at h
 omega
theorem addN_ok {n:Nat} {ms:List Nat} (hn:n<=8) (h:okN n ms) {e:E} (he:edgeB (n:Int) e=true):okN n (addN ms e):=by
 obtain ⟨h1,h2,_,_⟩:=edgeB_nat he
 exact orN_ok (orN_ok h (by omega) (by omega)) h2 (by omega)
def isE (e:E) (x y:Nat):Bool:=(decide (x=e.1.toNat)&&decide (y=e.2.1.toNat))||(decide (x=e.2.1.toNat)&&decide (y=e.1.toNat))
theorem foldN_ok {n:Nat} (hn:n<=8):∀(es:List E) (ms:List Nat),okN n ms->es.all (edgeB (n:Int))=true->okN n (es.foldl addN ms) /\ ∀x y,((es.foldl addN ms).getD x 0).testBit y=((ms.getD x 0).testBit y||es.any (fun e=>isE e x y)):=by
 intro es
 induction es with
 | nil=>intro ms h _;exact ⟨h,fun x y=>by simp⟩
 | cons e es ih=>
  intro ms h he
  simp only [List.all_cons,Bool.and_eq_true] at he
  obtain ⟨h1,h2,_,_⟩:=edgeB_nat he.1
  obtain ⟨k1,k2⟩:=ih (addN ms e) (addN_ok hn h he.1) he.2
  refine ⟨k1,fun x y => ?_⟩
  rw [List.foldl_cons,k2 x y]
  unfold addN
  rw [orN_bit (orN_ok h (show e.1.toNat<n by omega) (by omega)) h2,orN_bit h (show e.1.toNat<n by omega)]
  simp only [List.any_cons,isE,Bool.or_assoc]
theorem netN_ok {n:Nat} (hn:n<=8) {es:List E} (h:es.all (edgeB (n:Int))=true):okN n (netN n es):=(foldN_ok hn es _ (okN_zero n) h).1
theorem netN_bit {n:Nat} (hn:n<=8) {es:List E} (h:es.all (edgeB (n:Int))=true) (x y:Nat):hasN (netN n es) x y=es.any (fun e=>isE e x y):=by
 unfold hasN netN
 rw [(foldN_ok hn es _ (okN_zero n) h).2 x y]
 have:((List.replicate n 0).getD x 0).testBit y=false:=by
  simp only [List.getD_eq_getElem?_getD,List.getElem?_replicate]
  split<;>simp
 rw [this,Bool.false_or]
theorem lessE_trans {a b c:E} (h1:lessE a b=true) (h2:lessE b c=true):lessE a c=true:=by
 simp only [lessE,Bool.or_eq_true,Bool.and_eq_true,decide_eq_true_eq] at h1 h2 |-
 omega
theorem lessE_irr (a:E):lessE a a=false:=by simp [lessE]
theorem rising_pair:∀{l:List E},risingE l=true->l.Pairwise fun a b=>lessE a b=true:=by
 intro l
 induction l with
 | nil=>intro _;exact .nil
 | cons a l ih=>
  intro h
  cases l with
  | nil=>simp
  | cons b l=>
   simp only [risingE,Bool.and_eq_true] at h
   have:=ih h.2
   rw [List.pairwise_cons] at this |-
   refine ⟨fun c hc => ?_,by rw [List.pairwise_cons];exact this⟩
   rcases List.mem_cons.1 hc with rfl | hc
   ·exact h.1
   ·exact lessE_trans h.1 (this.1 c hc)
theorem sorted_ext:∀{l m:List E},(l.Pairwise fun a b=>lessE a b=true)->(m.Pairwise fun a b=>lessE a b=true)->(∀x,x∈l↔x∈m)->l=m:=by
 intro l
 induction l with
 | nil=>
  intro m _ _ h
  cases m with
  | nil=>rfl
  | cons b m=>exact absurd ((h b).2 (by simp)) (by simp)
 | cons a l ih=>
  intro m hl hm h
  cases m with
  | nil=>exact absurd ((h a).1 (by simp)) (by simp)
  | cons b m=>
   rw [List.pairwise_cons] at hl hm
   have e:a=b:=by
    rcases List.mem_cons.1 ((h a).1 (by simp)) with e | ha
    ·exact e
    rcases List.mem_cons.1 ((h b).2 (by simp)) with e | hb
    ·exact e.symm
    have:=lessE_trans (hl.1 b hb) (hm.1 a ha)
    rw [lessE_irr] at this
    cases this
   subst e
   congr 1
   refine ih hl.2 hm.2 fun x=>⟨fun hx => ?_,fun hx => ?_⟩
   ·rcases List.mem_cons.1 ((h x).1 (by simp [hx])) with e | hx'
    ·subst e
     have:=hl.1 x hx
     rw [lessE_irr] at this
     cases this
    ·exact hx'
   ·rcases List.mem_cons.1 ((h x).2 (by simp [hx])) with e | hx'
    ·subst e
     have:=hm.1 x hx
     rw [lessE_irr] at this
     cases this
    ·exact hx'
theorem rowE_mem {p:Nat->Nat->Bool} {x:Nat}:∀{m y:Nat} {e:E},e∈rowE p x m y ↔ ∃z,y<=z/\z<y+m/\p x z=true/\e=((x:Int),(z:Int),()):=by
 intro m
 induction m with
 | zero=>intro y e;simp only [rowE,List.not_mem_nil,false_iff];rintro ⟨z,h1,h2,_⟩;omega
 | succ m ih=>
  intro y e
  unfold rowE
  by_cases h:p x y=true
  ·simp only [h,if_true,List.mem_cons,ih]
   constructor
   ·rintro (rfl | ⟨z,h1,h2,h3,h4⟩)
    ·exact ⟨y,Nat.le_refl _,by omega,h,rfl⟩
    ·exact ⟨z,by omega,by omega,h3,h4⟩
   ·rintro ⟨z,h1,h2,h3,h4⟩
    by_cases e:z=y
    ·subst e;exact .inl h4
    ·exact .inr ⟨z,by omega,by omega,h3,h4⟩
  ·rw [if_neg h,ih]
   constructor
   ·rintro ⟨z,h1,h2,h3,h4⟩
    exact ⟨z,by omega,by omega,h3,h4⟩
   ·rintro ⟨z,h1,h2,h3,h4⟩
    by_cases e:z=y
    ·subst e;exact absurd h3 h
    ·exact ⟨z,by omega,by omega,h3,h4⟩
theorem rowE_pair {p:Nat->Nat->Bool} {x:Nat}:∀{m y:Nat},(rowE p x m y).Pairwise fun a b=>lessE a b=true:=by
 intro m
 induction m with
 | zero=>intro y;exact .nil
 | succ m ih=>
  intro y
  unfold rowE
  split
  ·rw [List.pairwise_cons]
   refine ⟨fun b hb => ?_,ih⟩
   obtain ⟨z,h1,h2,h3,rfl⟩:=rowE_mem.1 hb
   simp [lessE]
   omega
  ·exact ih
theorem allE_mem {p:Nat->Nat->Bool} {n:Nat}:∀{m x:Nat} {e:E},e∈allE p n m x ↔ ∃u z,x<=u/\u<x+m/\u<z/\z<n/\p u z=true/\e=((u:Int),(z:Int),()):=by
 intro m
 induction m with
 | zero=>intro x e;simp only [allE,List.not_mem_nil,false_iff];rintro ⟨u,z,h1,h2,_⟩;omega
 | succ m ih=>
  intro x e
  simp only [allE,List.mem_append,rowE_mem,ih]
  constructor
  ·rintro (⟨z,h1,h2,h3,h4⟩ | ⟨u,z,h1,h2,h3,h4,h5,h6⟩)
   ·exact ⟨x,z,Nat.le_refl _,by omega,by omega,by omega,h3,h4⟩
   ·exact ⟨u,z,by omega,by omega,h3,h4,h5,h6⟩
  ·rintro ⟨u,z,h1,h2,h3,h4,h5,h6⟩
   by_cases e:u=x
   ·subst e;exact .inl ⟨z,by omega,by omega,h5,h6⟩
   ·exact .inr ⟨u,z,by omega,by omega,h3,h4,h5,h6⟩
theorem allE_pair {p:Nat->Nat->Bool} {n:Nat}:∀{m x:Nat},(allE p n m x).Pairwise fun a b=>lessE a b=true:=by
 intro m
 induction m with
 | zero=>intro x;exact .nil
 | succ m ih=>
  intro x
  simp only [allE]
  rw [List.pairwise_append]
  refine ⟨rowE_pair,ih,fun a ha b hb => ?_⟩
  obtain ⟨z,_,_,_,rfl⟩:=rowE_mem.1 ha
  obtain ⟨u,z',h1,_,_,_,_,rfl⟩:=allE_mem.1 hb
  simp [lessE]
  omega
theorem allE_net {n:Nat} (hn:n<=8) {es:List E} (h:es.all (edgeB (n:Int))=true) (hp:es.Pairwise fun a b=>lessE a b=true):allE (hasN (netN n es)) n n 0=es:=by
 refine sorted_ext allE_pair hp fun e => ?_
 rw [allE_mem]
 constructor
 ·rintro ⟨u,z,_,h2,h3,h4,h5,rfl⟩
  rw [netN_bit hn h] at h5
  obtain ⟨e,he,h6⟩:=List.any_eq_true.1 h5
  obtain ⟨k1,k2,k3,k4⟩:=edgeB_nat (List.all_eq_true.1 h e he)
  simp only [isE,Bool.or_eq_true,Bool.and_eq_true,decide_eq_true_eq] at h6
  rcases h6 with ⟨rfl,rfl⟩ | ⟨h6,h7⟩
  ·rw [<- k3,<- k4]
   exact he
  ·omega
 ·intro he
  obtain ⟨k1,k2,k3,k4⟩:=edgeB_nat (List.all_eq_true.1 h e he)
  refine ⟨e.1.toNat,e.2.1.toNat,Nat.zero_le _,by omega,k1,k2,?_,by rw [<- k3,<- k4]⟩
  rw [netN_bit hn h]
  exact List.any_eq_true.2 ⟨e,he,by simp [isE]⟩
theorem toI_from (ms:List Nat):fromI (toI ms)=ms:=by
 unfold fromI toI
 rw [List.map_map]
 exact List.map_id' _
theorem at_toI (ms:List Nat) (x:Nat):at_ (.int .i64) (toI ms) x=((ms.getD x 0:Nat):Int):=by
 unfold at_ toI
 simp only [List.getD_eq_getElem?_getD,List.getElem?_map]
 cases ms[x]?<;>rfl
theorem toI_set (ms:List Nat) (x v:Nat):List.set (toI ms) x (v:Int)=toI (ms.set x v):=by
 simp [toI,List.map_set]
theorem toI_len (ms:List Nat):(toI ms).length=ms.length:=by simp [toI]
end Go.V.W
namespace Go.V
/-- Every order is good if each operation, when it may come up, keeps what is held of the listed ones. -/
theorem wpAny_inv {P:Program} {Q:Exit->Act->World->Prop} {ops:Array Oper} {Φ:(Nat->Bool)->Act->World->Prop} (back:∀(i:Nat) o,ops[i]? = some o -> ∀e∈o.after,Region.binds .any e=true->e.on<i)
    (hdone:∀L a w,(∀i,i<ops.size->L i=true)->Φ L a w->Q .normal a w)
    (hstep:∀L a w j o,ops[j]? = some o->L j=false->Closed ops L->(∀e∈o.after,Region.binds .any e=true->L e.on=true)->Φ L a w->o.guard=none /\ ∀K:Act->World->Prop,(∀a' w',Φ (fun i=>L i||decide (i=j)) a' w'->K a' w')->o.wp P a w K Q) :
    ∀(fuel:Nat) (listed:Array Bool) (a:Act) (w:World),listed.size=ops.size->listed.toList.count false=fuel->Closed ops (fun i=>listed.getD i false)->Φ (fun i=>listed.getD i false) a w->wpAny P .any ops Q fuel listed a w:=by
  have hready:∀(listed:Array Bool),listed.size=ops.size->Region.ready .any ops listed=[] -> ∀i,i<ops.size->listed.getD i false=true:=by
    intro listed hsz hr
    have key:∀m i,i<m->i<ops.size->listed.getD i false=true:=by
      intro m
      induction m with
      | zero=>intro i hi;omega
      | succ m ih=>
        intro i hi hlt
        by_cases him:i<m
        · exact ih i him hlt
        · cases hl:listed.getD i false with
          | true=>rfl
          | false=>
            exfalso
            have ho':ops[i]? = some ops[i]:=by simp [hlt]
            have:i∈Region.ready .any ops listed:=by
              rw [mem_ready]
              have hl2:i<listed.size:=by omega
              refine ⟨?_,_,ho',fun e he hb=>ih e.on ?_ ?_⟩
              · simp only [Array.getD,hl2,dif_pos] at hl |-;exact hl
              · have:=back i _ ho' e he hb;omega
              · have:=back i _ ho' e he hb;omega
            rw [hr] at this
            simp at this
    exact fun i hi=>key (i+1) i (by omega) hi
  intro fuel
  induction fuel with
  | zero=>
    intro listed a w hsz hc hL hi
    have hall:∀i,i<ops.size->listed.getD i false=true:=by
      intro i hlt
      have hlt':i<listed.size:=by omega
      rw [List.count_eq_zero] at hc
      cases hb:listed.getD i false with
      | true=>rfl
      | false=>
        exfalso
        apply hc
        simp only [Array.getD,hlt',dif_pos] at hb
        rw [<- hb]
        exact Array.getElem_mem_toList hlt'
    refine ⟨?_,hdone _ a w hall hi⟩
    apply List.eq_nil_iff_forall_not_mem.2
    intro i hm
    rw [mem_ready] at hm
    obtain ⟨h1,o,h2,_⟩:=hm
    have hlt:=(Array.getElem?_eq_some_iff.1 h2).1
    have:=hall i hlt
    have hlt':i<listed.size:=by omega
    simp only [Array.getD,hlt',dif_pos] at h1 this
    rw [this] at h1
    cases h1
  | succ fuel ih=>
    intro listed a w hsz hc hL hi
    refine ⟨fun hr=>hdone _ a w (hready listed hsz hr) hi,fun j hj => ?_⟩
    rw [mem_ready] at hj
    obtain ⟨h1,o,ho,hr⟩:=hj
    have hlt:=(Array.getElem?_eq_some_iff.1 ho).1
    have hlt':j<listed.size:=by omega
    have hjf:listed.getD j false=false:=by simp only [Array.getD,hlt',dif_pos] at h1 |-;exact h1
    obtain ⟨hg,hs⟩:=hstep _ a w j o ho hjf hL hr hi
    unfold wpOp
    rw [ho]
    simp only [Region.wanted,hg,if_true]
    refine .inl (hs _ fun a' w' hi'=>ih (listed.setIfInBounds j true) a' w' (by simpa using hsz) ?_ ?_ ?_)
    · have hlj:listed[j]=false:=by simp only [Array.getD,hlt',dif_pos] at hjf;exact hjf
      rw [Array.toList_setIfInBounds,List.count_set (by simpa using hlt')]
      simp [hlj,hc]
    · intro i o' ho' hli e he hb
      simp only [getD_set hlt',Bool.or_eq_true,decide_eq_true_eq] at hli |-
      rcases hli with hli | hli
      · exact .inl (hL i o' ho' hli e he hb)
      · subst hli
        rw [ho] at ho'
        injection ho' with ho'
        subst ho'
        exact .inl (hr e he hb)
    · have e:(fun i=>(listed.setIfInBounds j true).getD i false)=fun i=>listed.getD i false||decide (i=j):=by
        funext i
        exact getD_set hlt'
      rw [e]
      exact hi'
theorem wp_draw_inv {P:Program} {Q:Exit->Act->World->Prop} {ops:Array Oper} {rid:Nat} {a:Act} {w:World} (Φ:(Nat->Bool)->Act->World->Prop) (hm:P.follows .mixedOrders=true) (back:∀(i:Nat) o,ops[i]? = some o -> ∀e∈o.after,Region.binds .any e=true->e.on<i)
    (hdone:∀L a w,(∀i,i<ops.size->L i=true)->Φ L a w->Q .normal a w)
    (hstep:∀L a w j o,ops[j]? = some o->L j=false->Closed ops L->(∀e∈o.after,Region.binds .any e=true->L e.on=true)->Φ L a w->o.guard=none /\ ∀K:Act->World->Prop,(∀a' w',Φ (fun i=>L i||decide (i=j)) a' w'->K a' w')->o.wp P a w K Q)
    (h0:Φ (fun _=>false) a { w with drawn:=w.drawn+1 }):(Code.region rid ops true).wp P Q a w:=by
  refine wp_region_any hm ?_
  have e2:(fun i=>(Array.replicate ops.size false).getD i false)=fun _=>false:=by
    funext i
    simp only [Array.getD_eq_getD_getElem?]
    by_cases hj:i<ops.size
    · simp [hj]
    · simp [hj]
  refine wpAny_inv back hdone hstep ops.size _ a _ (by simp) (by simp) (fun j o ho hl => ?_) (by rw [e2];exact h0)
  rw [e2] at hl
  cases hl
end Go.V
namespace Go.V.W
open Go.Proofs Go.RowKit
def regOf (id:Nat):Code->Option (Array Oper)
  | .region i ops _=>if i=id then some ops else none
  | .seq a b=>(regOf id a).or (regOf id b)
  | .cond _ a b=>(regOf id a).or (regOf id b)
  | .block _ c=>regOf id c
  | .loop c=>regOf id c
  | .scope c=>regOf id c
  | _=>none
noncomputable def ops9:Array Oper:=(regOf 9 (bodyOf Tryz.f104)).getD #[]
noncomputable def dof (j:Nat):Option (Option Tmp×Op×Option (Nat×Bool)):=(ops9[j]?).map fun o=>(o.dst,o.op,o.guard)
theorem o9_0:dof 0=some (some 38,.move (.tmp 8),none):=by kernel_rfl
theorem o9_1:dof 1=some (some 39,.move (.tmp 7),none):=by kernel_rfl
theorem o9_2:dof 2=some (some 40,.move (.tmp 8),none):=by kernel_rfl
theorem o9_3:dof 3=some (some 41,.slice 25 (.tmp 39) (some (.tmp 40)) none none,none):=by kernel_rfl
theorem o9_4:dof 4=some (some 42,.move (.tmp 7),none):=by kernel_rfl
theorem o9_5:dof 5=some (some 43,.move (.tmp 8),none):=by kernel_rfl
theorem o9_6:dof 6=some (some 44,.slice 25 (.tmp 42) none (some (.tmp 43)) none,none):=by kernel_rfl
theorem o9_7:dof 7=some (some 45,.call { callee:=.builtin .copy,args := #[.tmp 41,.tmp 44],argTypes := #[25,25] },none):=by kernel_rfl
theorem o9_8:dof 8=some (some 46,.binOp .add 3 (.tmp 38) (.tmp 45) 3,none):=by kernel_rfl
theorem o9_9:dof 9=some (some 8,.assign (.tmp 46),none):=by kernel_rfl
theorem size9:ops9.size=10:=by kernel_rfl
def backB (ops:Array Oper):Bool:=(List.range ops.size).all fun i=>((ops[i]?).map fun o=>o.after.toList.all fun e => !Region.binds .any e||decide (e.on<i)).getD true
theorem back9B:backB ops9=true:=by kernel_rfl
theorem back9:∀(i:Nat) o,ops9[i]? = some o -> ∀e∈o.after,Region.binds .any e=true->e.on<i:=by
  intro i o ho e he hb
  have h:=back9B
  unfold backB at h
  rw [List.all_eq_true] at h
  have hi:=(Array.getElem?_eq_some_iff.1 ho).1
  have h1:=h i (List.mem_range.2 hi)
  rw [ho] at h1
  simp only [Option.map_some,Option.getD_some,List.all_eq_true] at h1
  have h2:=h1 e (Array.mem_toList_iff.2 he)
  rw [hb] at h2
  simpa using h2
noncomputable def hasE (i j:Nat):Bool:=((ops9[i]?).map fun o=>o.after.toList.any fun e=>Region.binds .any e&&e.on==j).getD false
theorem hasE_of {i j:Nat} (h:hasE i j=true) {o:Oper} (ho:ops9[i]? = some o):∃e∈o.after,Region.binds .any e=true/\e.on=j:=by
  unfold hasE at h
  rw [ho] at h
  simp only [Option.map_some,Option.getD_some,List.any_eq_true,Bool.and_eq_true,beq_iff_eq] at h
  obtain ⟨e,he,h1,h2⟩:=h
  exact ⟨e,Array.mem_toList_iff.1 he,h1,h2⟩
theorem clos {L:Nat->Bool} (hL:Closed ops9 L) {i j:Nat} (h:hasE i j=true) (hi:i<10) (h1:L i=true):L j=true:=by
  have hs:=size9
  have hlt:i<ops9.size:=by omega
  have ho:ops9[i]? = some ops9[i]:=Array.getElem?_eq_getElem hlt
  obtain ⟨e,he,hb,rfl⟩:=hasE_of h ho
  exact hL i _ ho h1 e he hb
theorem rdy {L:Nat->Bool} {i j:Nat} {o:Oper} (h:hasE i j=true) (ho:ops9[i]? = some o) (hr:∀e∈o.after,Region.binds .any e=true->L e.on=true):L j=true:=by
  obtain ⟨e,he,hb,rfl⟩:=hasE_of h ho
  exact hr e he hb
def val (a0 F:Nat->Value) (L:Nat->Bool) (t:Nat):Value:=if t=8 then (if L 9=true then F 9 else a0 8) else if 38<=t/\t<=46 then (if L (t-38)=true then F (t-38) else a0 t) else a0 t
def dstv (j:Nat):Nat:=if j=9 then 8 else 38+j
theorem val_step (a0 F:Nat->Value) (L:Nat->Bool) {j:Nat} (hj:j<=9) (t:Nat):(if t=dstv j then F j else val a0 F L t)=val a0 F (fun i=>L i||decide (i=j)) t:=by
  unfold val dstv
  by_cases e9:j=9
  · subst e9
    simp only [if_true]
    by_cases et:t=8
    · simp [et]
    · simp only [et,if_false]
      by_cases er:38<=t/\t<=46
      · have:¬t-38=9:=by omega
        simp [er,this]
      · simp [er]
  · simp only [e9,if_false]
    by_cases et:t=8
    · subst et
      have h1:¬8=38+j:=by omega
      have h2:¬(9=j):=fun h=>e9 h.symm
      simp [h1,h2]
    · simp only [et,if_false]
      by_cases er:38<=t/\t<=46
      · simp only [er,and_self,if_true]
        by_cases ej:t=38+j
        · subst ej
          simp
        · have:¬t-38=j:=by omega
          simp [ej,this]
      · have:¬t=38+j:=by omega
        simp [er,this]
def rowL (n m:Nat) (x z:Value):List Value:=List.replicate m x++List.replicate (n-m) z
theorem rowL_splice {n m c:Nat} {x z:Value} (h:m+c<=n):(rowL n m x z).take m++List.replicate c x++(rowL n m x z).drop (m+c)=rowL n (m+c) x z:=by
  unfold rowL
  have e1:(List.replicate m x++List.replicate (n-m) z).take m=List.replicate m x:=by simp
  have e2:(List.replicate m x++List.replicate (n-m) z).drop (m+c)=List.replicate (n-(m+c)) z:=by
    rw [List.drop_append]
    simp
    omega
  rw [e1,e2,<- List.replicate_append_replicate]
theorem row_src {w:World} {g:Nat} {L:List Value} {T:TypeId} (h:w.heap[g]? = some (.cells L.toArray T (0,0))):∀j v,L[j]? = some v->w.cell? ((⟨g,0,none⟩:Addr).add j)=some v:=by
  intro j v hj
  by_cases e:j=0
  · subst e
    simp [World.cell?,Addr.add,h,hj]
  · simp [World.cell?,Addr.add,h,hj,e]
theorem eval_tmp (a:Act) (t:Nat):a.eval (.tmp t)=a.tmps.getD t undef:=rfl
theorem put_getD {a:Act} {d t:Nat} {v:Value} (hd:d<a.tmps.size):(a.put (some d) v).tmps.getD t undef=if t=d then v else a.tmps.getD t undef:=by
  unfold Act.put
  by_cases e:t=d
  · subst e
    simp [Array.getD_eq_getD_getElem?,hd]
  · have e':d≠t:=fun h=>e h.symm
    simp [Array.getD_eq_getD_getElem?,Array.getElem?_setIfInBounds_ne e',e]
/-- What is held of the listed operations. -/
structure Phi (a0 F:Nat->Value) (df:List Deferred) (sz g n m c B:Nat) (x z:Value) (T:TypeId) (w0:World) (L:Nat->Bool) (a:Act) (w:World):Prop where
  size:a.tmps.size=sz
  defers:a.defers=df
  tmps:∀t,a.tmps.getD t undef=val a0 F L t
  row:w.heap[g]? = some (.cells (rowL n (if L 7=true then m+c else m) x z).toArray T (0,0))
  below:Below B w0 w
theorem dof_of {j:Nat} {d:Option Tmp} {p:Op} {gd:Option (Nat×Bool)} (h:dof j=some (d,p,gd)) {o:Oper} (ho:ops9[j]? = some o):o.dst=d/\o.op=p/\o.guard=gd:=by
  unfold dof at h
  rw [ho] at h
  simp only [Option.map_some,Option.some.injEq,Prod.mk.injEq] at h
  exact h
theorem Phi.fin {P:Program} {Q:Exit->Act->World->Prop} {a0 F:Nat->Value} {df:List Deferred} {g n m c B:Nat} {x z:Value} {T:TypeId} {w0 w w':World} {L:Nat->Bool} {a:Act} (h:Phi a0 F df 48 g n m c B x z T w0 L a w) {j:Nat} (hj:j<=9) {o:Oper} (hd:o.dst=some (dstv j))
    (hrun:(execOp a.eval o).run P w=.ok (.value (F j)) w') (hrow:w'.heap[g]? = some (.cells (rowL n (if (L 7||decide (7=j))=true then m+c else m) x z).toArray T (0,0))) (hB:Below B w0 w')
    (K:Act->World->Prop) (hK:∀a' w',Phi a0 F df 48 g n m c B x z T w0 (fun i=>L i||decide (i=j)) a' w'->K a' w'):o.wp P a w K Q:=by
  refine wp_value hrun (hK _ _ ⟨?_,?_,fun t => ?_,hrow,hB⟩)
  · rw [hd]
    simp [Act.put,h.size]
  · rw [hd]
    exact h.defers
  · rw [hd,put_getD (by rw [h.size];unfold dstv;split<;>omega),h.tmps t]
    exact val_step a0 F L hj t
theorem Phi.fin0 {P:Program} {Q:Exit->Act->World->Prop} {a0 F:Nat->Value} {df:List Deferred} {g n m c B:Nat} {x z:Value} {T:TypeId} {w0 w:World} {L:Nat->Bool} {a:Act} (h:Phi a0 F df 48 g n m c B x z T w0 L a w) {j:Nat} (hj:j<=9) (hj7:7≠j) {o:Oper} (hd:o.dst=some (dstv j))
    (hrun:(execOp a.eval o).run P w=.ok (.value (F j)) w)
    (K:Act->World->Prop) (hK:∀a' w',Phi a0 F df 48 g n m c B x z T w0 (fun i=>L i||decide (i=j)) a' w'->K a' w'):o.wp P a w K Q:=by
  refine h.fin hj hd hrun ?_ h.below K hK
  have:(L 7||decide (7=j))=L 7:=by simp [hj7]
  rw [this]
  exact h.row
def Fv (g n m c:Nat):Nat->Value
  | 0=>.int .i64 (m:Int)
  | 1=>.slice (some ⟨g,0,none⟩) n n
  | 2=>.int .i64 (m:Int)
  | 3=>.slice (some ⟨g,m,none⟩) (n-m) (n-m)
  | 4=>.slice (some ⟨g,0,none⟩) n n
  | 5=>.int .i64 (m:Int)
  | 6=>.slice (some ⟨g,0,none⟩) m n
  | 7=>.int .i64 (c:Int)
  | 8=>.int .i64 ((m+c:Nat):Int)
  | _=>.int .i64 ((m+c:Nat):Int)
theorem val8 {a0 F:Nat->Value} {L:Nat->Bool} (h:L 9=false):val a0 F L 8=a0 8:=by simp [val,h]
theorem val7 {a0 F:Nat->Value} {L:Nat->Bool}:val a0 F L 7=a0 7:=by simp [val]
theorem valD {a0 F:Nat->Value} {L:Nat->Bool} {j:Nat} (hj:j<=8) (h:L j=true):val a0 F L (38+j)=F j:=by
  unfold val
  have h1:¬38+j=8:=by omega
  have h2:38<=38+j/\38+j<=46:=by omega
  have h3:38+j-38=j:=by omega
  simp only [h1,if_false,h2,and_self,if_true,h3,h]
theorem sz3:(Tryz.prog.info? 3).map (·.size)=some 1:=by kernel_rfl
theorem elem32:Tryz.prog.elem 25=3:=by kernel_rfl
theorem und32:Tryz.prog.underlying 25=some (.slice (Tryz.prog.elem 25)):=by kernel_rfl
theorem sliced_l {n m g:Nat} (w:World) (hmn:m<n):(Instr.sliceAt 25 (.slice (some ⟨g,0,none⟩) n n) (some (.int .i64 (m:Int))) none none).run Tryz.prog w=.ok (.slice (some ⟨g,m,none⟩) (n-m) (n-m)) w:=by
  have hs:=Tryz.sizeOf3 w
  have hne:¬n=m:=by omega
  rw [run_sliceAt_slice w 25 _ _ _ _ und32,run_slice_l w 25 _ n n und32 .i64 (m:Int) (by omega) (by omega),elem32,hs]
  simp only [Result.andThen,sliced,Int.toNat_natCast,hne,if_false,Option.map_some,Addr.add,Nat.mul_one,Nat.zero_add]
  by_cases h0:m=0
  · subst h0
    simp
  · simp [h0]
theorem sliced_h {n m g:Nat} (w:World) (hmn:m<n):(Instr.sliceAt 25 (.slice (some ⟨g,0,none⟩) n n) none (some (.int .i64 (m:Int))) none).run Tryz.prog w=.ok (.slice (some ⟨g,0,none⟩) m n) w:=by
  have hs:=Tryz.sizeOf3 w
  have hne:¬n=0:=by omega
  rw [run_sliceAt_slice w 25 _ _ _ _ und32,run_slice_h w 25 _ n n und32 .i64 (m:Int) (by omega) (by omega),elem32,hs]
  simp [Result.andThen,sliced,Addr.add]
theorem reg9 {Q:Exit->Act->World->Prop} {rid:Nat} {a:Act} {w w0:World} {g n m c B:Nat} {xi zi:Int} {T:TypeId} {a0:Nat->Value} (hsz:a.tmps.size=48) (ha0:∀t,a.tmps.getD t undef=a0 t) (h7:a0 7=.slice (some ⟨g,0,none⟩) n n) (h8:a0 8=.int .i64 (m:Int))
    (hm:1<=m) (hmn:m<n) (hn:n<=8) (hc:c=min m (n-m)) (hg:w.heap[g]? = some (.cells (rowL n m (.int .i64 xi) (.int .i64 zi)).toArray T (0,0))) (hB:Below B w0 w) (hBg:B<=g)
    (hQ:∀a' w',Phi a0 (Fv g n m c) a.defers 48 g n m c B (.int .i64 xi) (.int .i64 zi) T w0 (fun _=>true) a' w'->Q .normal a' w'):(Code.region rid ops9 true).wp Tryz.prog Q a w:=by
  have h0:Phi a0 (Fv g n m c) a.defers 48 g n m c B (.int .i64 xi) (.int .i64 zi) T w0 (fun _=>false) a { w with drawn:=w.drawn+1 }:=
    ⟨hsz,rfl,fun t=>by rw [ha0 t];unfold val;by_cases e:t=8<;>simp [e],hg,⟨hB.os,hB.tape,hB.output,hB.size,hB.block⟩⟩
  refine wp_draw_inv (Phi a0 (Fv g n m c) a.defers 48 g n m c B (.int .i64 xi) (.int .i64 zi) T w0) (by kernel_rfl) back9 (fun L a' w' hL h => ?_) (fun L a1 w1 j o ho hj hL hr h => ?_) h0
  · refine hQ a' w' ⟨h.size,h.defers,fun t => ?_,?_,h.below⟩
    · rw [h.tmps t]
      unfold val
      have:=size9
      have e9:L 9=true:=hL 9 (by omega)
      by_cases et:t=8
      · simp [et,e9]
      · by_cases er:38<=t/\t<=46
        · have:L (t-38)=true:=hL _ (by omega)
          simp [et,er,this]
        · simp [et,er]
    · have e7:L 7=true:=hL 7 (by have:=size9;omega)
      have:=h.row
      rw [e7] at this
      exact this
  · have hj10:j<10:=by
      have:=(Array.getElem?_eq_some_iff.1 ho).1
      have:=size9
      omega
    have l98:L 9=true->L 8=true:=clos hL (by kernel_rfl) (by omega)
    have l80:L 8=true->L 0=true:=clos hL (by kernel_rfl) (by omega)
    have l87:L 8=true->L 7=true:=clos hL (by kernel_rfl) (by omega)
    have l73:L 7=true->L 3=true:=clos hL (by kernel_rfl) (by omega)
    have l76:L 7=true->L 6=true:=clos hL (by kernel_rfl) (by omega)
    have l32:L 3=true->L 2=true:=clos hL (by kernel_rfl) (by omega)
    have l65:L 6=true->L 5=true:=clos hL (by kernel_rfl) (by omega)
    have no9:(j=0\/j=2\/j=5)->L 9=false:=by
      intro hh
      cases h9:L 9 with
      | false=>rfl
      | true=>
        have e8:=l98 h9
        have e7:=l87 e8
        rcases hh with rfl | rfl | rfl
        · rw [l80 e8] at hj;cases hj
        · rw [l32 (l73 e7)] at hj;cases hj
        · rw [l65 (l76 e7)] at hj;cases hj
    have hcases:j=0\/j=1\/j=2\/j=3\/j=4\/j=5\/j=6\/j=7\/j=8\/j=9:=by omega
    rcases hcases with rfl | rfl | rfl | rfl | rfl | rfl | rfl | rfl | rfl | rfl
    · obtain ⟨d1,d2,d3⟩:=dof_of o9_0 ho
      refine ⟨d3,h.fin0 (by omega) (by omega) d1 ?_⟩
      unfold execOp
      rw [d2]
      simp [eval_tmp,h.tmps,val8 (no9 (by omega)),h8,Fv]
    · obtain ⟨d1,d2,d3⟩:=dof_of o9_1 ho
      refine ⟨d3,h.fin0 (by omega) (by omega) d1 ?_⟩
      unfold execOp
      rw [d2]
      simp [eval_tmp,h.tmps,val7,h7,Fv]
    · obtain ⟨d1,d2,d3⟩:=dof_of o9_2 ho
      refine ⟨d3,h.fin0 (by omega) (by omega) d1 ?_⟩
      unfold execOp
      rw [d2]
      simp [eval_tmp,h.tmps,val8 (no9 (by omega)),h8,Fv]
    · obtain ⟨d1,d2,d3⟩:=dof_of o9_3 ho
      refine ⟨d3,h.fin0 (by omega) (by omega) d1 ?_⟩
      have r1:L 1=true:=rdy (by kernel_rfl) ho hr
      have r2:L 2=true:=rdy (by kernel_rfl) ho hr
      have e1:=valD (a0:=a0) (F:=Fv g n m c) (show 1<=8 by omega) r1
      have e2:=valD (a0:=a0) (F:=Fv g n m c) (show 2<=8 by omega) r2
      unfold execOp
      rw [d2]
      simp [eval_tmp,h.tmps,e1,e2,Fv,sliced_l w1 hmn]
    · obtain ⟨d1,d2,d3⟩:=dof_of o9_4 ho
      refine ⟨d3,h.fin0 (by omega) (by omega) d1 ?_⟩
      unfold execOp
      rw [d2]
      simp [eval_tmp,h.tmps,val7,h7,Fv]
    · obtain ⟨d1,d2,d3⟩:=dof_of o9_5 ho
      refine ⟨d3,h.fin0 (by omega) (by omega) d1 ?_⟩
      unfold execOp
      rw [d2]
      simp [eval_tmp,h.tmps,val8 (no9 (by omega)),h8,Fv]
    · obtain ⟨d1,d2,d3⟩:=dof_of o9_6 ho
      refine ⟨d3,h.fin0 (by omega) (by omega) d1 ?_⟩
      have r1:L 4=true:=rdy (by kernel_rfl) ho hr
      have r2:L 5=true:=rdy (by kernel_rfl) ho hr
      have e1:=valD (a0:=a0) (F:=Fv g n m c) (show 4<=8 by omega) r1
      have e2:=valD (a0:=a0) (F:=Fv g n m c) (show 5<=8 by omega) r2
      unfold execOp
      rw [d2]
      simp [eval_tmp,h.tmps,e1,e2,Fv,sliced_h w1 hmn]
    · obtain ⟨d1,d2,d3⟩:=dof_of o9_7 ho
      refine ⟨d3,?_⟩
      have r1:L 3=true:=rdy (by kernel_rfl) ho hr
      have r2:L 6=true:=rdy (by kernel_rfl) ho hr
      have e1:=valD (a0:=a0) (F:=Fv g n m c) (show 3<=8 by omega) r1
      have e2:=valD (a0:=a0) (F:=Fv g n m c) (show 6<=8 by omega) r2
      have hrw:=h.row
      rw [hj] at hrw
      simp only [Bool.false_eq_true,if_false] at hrw
      have hlen:(rowL n m (.int .i64 xi) (.int .i64 zi)).length=n:=by unfold rowL;simp;omega
      have hrun:=run_copy_row (P:=Tryz.prog) w1 25 25 o.type 3 g m (n-m) (n-m) ⟨g,0,none⟩ m n (rowL n m (.int .i64 xi) (.int .i64 zi)).toArray T (List.replicate c (.int .i64 xi)) Tryz.underlying25 sz3 hrw (by simp only [List.length_replicate];exact hc) (fun j v hv=>by
        refine row_src hrw j v ?_
        have hjc:j<c:=by
          rcases Nat.lt_or_ge j c with h' | h'
          · exact h'
          · rw [List.getElem?_eq_none (by simpa using h')] at hv;cases hv
        unfold rowL
        rw [List.getElem?_append_left (by simp;omega)]
        rw [List.getElem?_replicate] at hv |-
        rw [if_pos hjc] at hv
        rw [if_pos (by omega)]
        exact hv) (by simp [hlen];omega) (by intro v hv;rw [List.eq_of_mem_replicate hv];rfl)
      simp only [List.length_replicate,rowL_splice (show m+c<=n by omega)] at hrun
      refine h.fin (by omega) d1 (w':=w1.setRow g (rowL n (m+c) (.int .i64 xi) (.int .i64 zi)).toArray) ?_ ?_ (below_setRow h.below hBg _)
      · unfold execOp
        rw [d2]
        simp only [resolve,invoke,builtin,Sem.run_bind,Sem.run_pure,Result.andThen_ok,List.map_toArray,List.map_cons,List.map_nil,eval_tmp,h.tmps,e1,e2]
        show (Result.andThen (Sem.run Tryz.prog (Builtin.copy_ #[25,25] o.type #[.slice (some ⟨g,m,none⟩) (n-m) (n-m),.slice (some ⟨g,0,none⟩) m n]) w1) _)=_
        rw [hrun]
        rfl
      · simp only [decide_true,Bool.or_true,if_true]
        exact setRow_heap w1 g _ _ T _ hrw
    · obtain ⟨d1,d2,d3⟩:=dof_of o9_8 ho
      refine ⟨d3,h.fin0 (by omega) (by omega) d1 ?_⟩
      have r1:L 0=true:=rdy (by kernel_rfl) ho hr
      have r2:L 7=true:=rdy (by kernel_rfl) ho hr
      have e1:=valD (a0:=a0) (F:=Fv g n m c) (show 0<=8 by omega) r1
      have e2:=valD (a0:=a0) (F:=Fv g n m c) (show 7<=8 by omega) r2
      unfold execOp
      rw [d2]
      have hw:IntKind.wrap .i64 ((m:Int)+(c:Int))=((m+c:Nat):Int):=by
        rw [Go.IntWalk.i64_in _ (by omega)]
        omega
      have hw':IntKind.wrap .i64 ((m:Int)+(c:Int))=(m:Int)+(c:Int):=by
        rw [hw]
        omega
      simp [eval_tmp,h.tmps,e1,e2,Fv,binOp,Op.intArith,run_eqGuard_int,hw']
    · obtain ⟨d1,d2,d3⟩:=dof_of o9_9 ho
      refine ⟨d3,h.fin0 (by omega) (by omega) d1 ?_⟩
      have r1:L 8=true:=rdy (by kernel_rfl) ho hr
      have e1:=valD (a0:=a0) (F:=Fv g n m c) (show 8<=8 by omega) r1
      unfold execOp
      rw [d2]
      simp [eval_tmp,h.tmps,e1,Fv]
theorem arr48 {A:Array Value} (h:A.size=48) {f:Nat->Value} (hf:∀t,A.getD t undef=f t):A = #[f 0,f 1,f 2,f 3,f 4,f 5,f 6,f 7,f 8,f 9,f 10,f 11,f 12,f 13,f 14,f 15,f 16,f 17,f 18,f 19,f 20,f 21,f 22,f 23,f 24,f 25,f 26,f 27,f 28,f 29,f 30,f 31,f 32,f 33,f 34,f 35,f 36,f 37,f 38,f 39,f 40,f 41,f 42,f 43,f 44,f 45,f 46,f 47]:=by
  apply Array.ext
  · simp [h]
  · intro i h1 h2
    have e:=hf i
    rw [Array.getD_eq_getD_getElem?,Array.getElem?_eq_getElem h1] at e
    simp only [Option.getD_some] at e
    rw [e]
    simp only [List.size_toArray,List.length_cons,List.length_nil] at h2
    match i,h2 with
    | 0,_=>rfl
    | 1,_=>rfl
    | 2,_=>rfl
    | 3,_=>rfl
    | 4,_=>rfl
    | 5,_=>rfl
    | 6,_=>rfl
    | 7,_=>rfl
    | 8,_=>rfl
    | 9,_=>rfl
    | 10,_=>rfl
    | 11,_=>rfl
    | 12,_=>rfl
    | 13,_=>rfl
    | 14,_=>rfl
    | 15,_=>rfl
    | 16,_=>rfl
    | 17,_=>rfl
    | 18,_=>rfl
    | 19,_=>rfl
    | 20,_=>rfl
    | 21,_=>rfl
    | 22,_=>rfl
    | 23,_=>rfl
    | 24,_=>rfl
    | 25,_=>rfl
    | 26,_=>rfl
    | 27,_=>rfl
    | 28,_=>rfl
    | 29,_=>rfl
    | 30,_=>rfl
    | 31,_=>rfl
    | 32,_=>rfl
    | 33,_=>rfl
    | 34,_=>rfl
    | 35,_=>rfl
    | 36,_=>rfl
    | 37,_=>rfl
    | 38,_=>rfl
    | 39,_=>rfl
    | 40,_=>rfl
    | 41,_=>rfl
    | 42,_=>rfl
    | 43,_=>rfl
    | 44,_=>rfl
    | 45,_=>rfl
    | 46,_=>rfl
    | 47,_=>rfl
    | k+48,h2=>exact absurd h2 (by simp)
theorem reg9x {Q:Exit->Act->World->Prop} {rid:Nat} {ops:Array Oper} (hops:ops=ops9) {A:Array Value} {df:List Deferred} {w w0:World} {g n m c B:Nat} {xi zi:Int} {T:TypeId} {L L':List Value} (a0:Nat->Value) (hsz:A.size=48) (ha0:∀t,A.getD t undef=a0 t) (h7:a0 7=.slice (some ⟨g,0,none⟩) n n) (h8:a0 8=.int .i64 (m:Int))
    (hm:1<=m) (hmn:m<n) (hn:n<=8) (hc:c=min m (n-m)) (hL:L=rowL n m (.int .i64 xi) (.int .i64 zi)) (hL':L'=rowL n (m+c) (.int .i64 xi) (.int .i64 zi)) (hg:w.heap[g]? = some (.cells L.toArray T (0,0))) (hB:Below B w0 w) (hBg:B<=g) {A':Array Value} (hA':A' = #[val a0 (Fv g n m c) (fun _=>true) 0,val a0 (Fv g n m c) (fun _=>true) 1,val a0 (Fv g n m c) (fun _=>true) 2,val a0 (Fv g n m c) (fun _=>true) 3,val a0 (Fv g n m c) (fun _=>true) 4,val a0 (Fv g n m c) (fun _=>true) 5,val a0 (Fv g n m c) (fun _=>true) 6,val a0 (Fv g n m c) (fun _=>true) 7,val a0 (Fv g n m c) (fun _=>true) 8,val a0 (Fv g n m c) (fun _=>true) 9,val a0 (Fv g n m c) (fun _=>true) 10,val a0 (Fv g n m c) (fun _=>true) 11,val a0 (Fv g n m c) (fun _=>true) 12,val a0 (Fv g n m c) (fun _=>true) 13,val a0 (Fv g n m c) (fun _=>true) 14,val a0 (Fv g n m c) (fun _=>true) 15,val a0 (Fv g n m c) (fun _=>true) 16,val a0 (Fv g n m c) (fun _=>true) 17,val a0 (Fv g n m c) (fun _=>true) 18,val a0 (Fv g n m c) (fun _=>true) 19,val a0 (Fv g n m c) (fun _=>true) 20,val a0 (Fv g n m c) (fun _=>true) 21,val a0 (Fv g n m c) (fun _=>true) 22,val a0 (Fv g n m c) (fun _=>true) 23,val a0 (Fv g n m c) (fun _=>true) 24,val a0 (Fv g n m c) (fun _=>true) 25,val a0 (Fv g n m c) (fun _=>true) 26,val a0 (Fv g n m c) (fun _=>true) 27,val a0 (Fv g n m c) (fun _=>true) 28,val a0 (Fv g n m c) (fun _=>true) 29,val a0 (Fv g n m c) (fun _=>true) 30,val a0 (Fv g n m c) (fun _=>true) 31,val a0 (Fv g n m c) (fun _=>true) 32,val a0 (Fv g n m c) (fun _=>true) 33,val a0 (Fv g n m c) (fun _=>true) 34,val a0 (Fv g n m c) (fun _=>true) 35,val a0 (Fv g n m c) (fun _=>true) 36,val a0 (Fv g n m c) (fun _=>true) 37,val a0 (Fv g n m c) (fun _=>true) 38,val a0 (Fv g n m c) (fun _=>true) 39,val a0 (Fv g n m c) (fun _=>true) 40,val a0 (Fv g n m c) (fun _=>true) 41,val a0 (Fv g n m c) (fun _=>true) 42,val a0 (Fv g n m c) (fun _=>true) 43,val a0 (Fv g n m c) (fun _=>true) 44,val a0 (Fv g n m c) (fun _=>true) 45,val a0 (Fv g n m c) (fun _=>true) 46,val a0 (Fv g n m c) (fun _=>true) 47])
    (hQ:∀w',Hid (w'.heap[g]? = some (.cells L'.toArray T (0,0)))->Below B w0 w'->Q .normal ⟨A',df⟩ w'):(Code.region rid ops true).wp Tryz.prog Q ⟨A,df⟩ w:=by
  subst hops hL hL' hA'
  refine reg9 (a:=⟨A,df⟩) hsz ha0 h7 h8 hm hmn hn hc hg hB hBg fun a' w' h => ?_
  have e:=arr48 h.size h.tmps
  have e2:a'=⟨a'.tmps,a'.defers⟩:=rfl
  rw [e2,e,h.defers]
  refine hQ w' ?_ h.below
  have:=h.row
  exact this
end Go.V.W
namespace Go.V.W
open Go.Proofs Go.RowKit
set_option maxRecDepth 1000000 in
theorem mul64 (n:Nat) (hn:n<=8) (w:World):Calls Tryz.prog 159 #[.int .u64 1,.int .u64 n] w fun e w'=>e=.returned (.tuple #[.int .u64 0,.int .u64 n])/\w'=w:=by
  have:n=0\/n=1\/n=2\/n=3\/n=4\/n=5\/n=6\/n=7\/n=8:=by omega
  rcases this with rfl | rfl | rfl | rfl | rfl | rfl | rfl | rfl | rfl <;>
  (go_enter Tryz.func159,Tryz.ntmps159
   go_wp2
   go_ret2
   exact ⟨rfl,rfl⟩)
set_option maxRecDepth 1000000 in
theorem mul153 (n:Nat) (hn:n<=8) (w:World):Calls Tryz.prog 138 #[.int .u64 1,.int .u64 n] w fun e w'=>e=.returned (.tuple #[.int .u64 0,.int .u64 n])/\w'=w:=by
  have hm:=mul64 n hn w
  go_enter Tryz.func138,Tryz.ntmps138
  go_wp2_with (go_at_call 159;go_fit hm;rintro e w' ⟨rfl,hw⟩;rw [hw])
  go_ret2
  exact ⟨rfl,rfl⟩
theorem made1 (z:Value) (n:Nat):madeCells #[z] n=(List.replicate n z).toArray:=by
  apply Array.ext
  · simp [madeCells]
  · intro i h1 h2
    simp [madeCells,Nat.mod_one]
theorem info3:(Tryz.prog.info? 3).map (fun i=>(i.zero,i.size,i.bytes))=some (some (.int .i64 0),1,8):=by kernel_rfl
theorem mk3 (n:Nat) (hn:n<=8) (w:World):(Instr.makeSlice 25 (.int .i64 (n:Int)) (.int .i64 (n:Int))).run Tryz.prog w=.ok (.slice (some ⟨w.heap.size,0,none⟩) n n) (w.alloc (.cells (List.replicate n (.int .i64 0)).toArray 3)):=by
  rw [<- made1]
  exact run_make_row' 25 3 (.int .i64 0) 8 Tryz.underlying25 info3 rfl .i64 .i64 n (by omega) (by omega) w
theorem src1 {w:World} {a:Addr} {v:Value} (h:w.cell? a=some v):∀j u,[v][j]? = some u->w.cell? (a.add j)=some u:=by
  intro j u hj
  match j with
  | 0=>
    simp only [List.length_cons,List.length_nil,Nat.zero_add,Nat.lt_add_one,List.getElem?_eq_getElem,List.getElem_cons_zero,Option.some.injEq] at hj
    subst hj
    exact h
  | j+1=>simp at hj
theorem cell_alloc {w:World} {a:Addr} {v:Value} (h:w.cell? a=some v) (o:Obj):(w.alloc o).cell? a=some v:=by
  have hlt:a.block<w.heap.size:=by
    unfold World.cell? at h
    cases hb:w.heap[a.block]? with
    | none=>rw [hb] at h;cases h
    | some x=>exact (Array.getElem?_eq_some_iff.1 hb).1
  unfold World.cell? at h |-
  rw [Below.heap_alloc w o a.block hlt]
  exact h
set_option maxRecDepth 1000000 in
set_option maxHeartbeats 4000000 in
theorem rep1 (x:Int) (w:World) (b off cap:Nat) (hx:w.cell? ⟨b,off,none⟩=some (.int .i64 x)):Calls Tryz.prog 104 #[.slice (some ⟨b,off,none⟩) 1 cap,.int .i64 1] w fun e w' => ∃g T,e=.returned (.slice (some ⟨g,0,none⟩) 1 1)/\w.heap.size<=g/\w'.heap[g]? = some (.cells (List.replicate 1 (.int .i64 x)).toArray T (0,0))/\Below w.heap.size w w':=by
  have hm:=mul153 1 (by omega) w
  obtain ⟨W1,hW1⟩:∃W1,W1=w.alloc (.cells (List.replicate 1 (.int .i64 0)).toArray 3):=⟨_,rfl⟩
  have hk:(Instr.makeSlice 25 (.int .i64 1) (.int .i64 1)).run Tryz.prog w=.ok (.slice (some ⟨w.heap.size,0,none⟩) 1 1) W1:=by
    rw [hW1]
    exact mk3 1 (by omega) w
  have hB0:Hid (Below w.heap.size w W1):=hW1▸(Below.refl _ w).alloc (Nat.le_refl _) _
  have hG0:Hid (W1.heap[w.heap.size]? = some (.cells ([.int .i64 0]:List Value).toArray 3 (0,0))):=by
    subst hW1
    show _=_
    exact heap_alloc_new w _
  have hs0:Hid (∀j v,[Value.int .i64 x][j]? = some v->W1.cell? ((⟨b,off,none⟩:Addr).add j)=some v):=src1 (hW1▸cell_alloc hx _)
  clear hW1
  go_enter Tryz.func104,Tryz.ntmps104
  go_wp2_with (first
    | (go_at_call 138;go_fit hm;rintro e w' ⟨rfl,hw⟩;rw [hw])
    | (refine wpList_copy_splice (o:=⟨some 33,_,_,_,_,_⟩) rfl (.tmp 31) (.tmp 32) 25 25 rfl 3 Tryz.underlying25 sz3 (some ⟨w.heap.size,0,none⟩) (some ⟨b,off,none⟩) 1 1 1 cap rfl rfl w.heap.size 0 [.int .i64 0] 3 hG0.out [.int .i64 x] rfl (fun _=>⟨rfl,_,rfl,hs0.out⟩) (by simp) (by simp [Value.oneCell']) w.heap.size w hB0.out (Nat.le_refl _) ?_;intro w2 HG2 hB2))
  have hG:Hid (w2.heap[w.heap.size]? = some (.cells ([.int .i64 x]:List Value).toArray 3 (0,0))):=HG2.out
  clear HG2 hk hs0 hG0 hB0 hm
  refine wp_loop_rounds 1 ?_
  rw [rounds_succ]
  go_wp2_with (fail)
  go_ret
  first
    | exact ⟨_,_,rfl,Nat.le_refl _,hG.out,hB2⟩
    | exact ⟨_,rfl,Nat.le_refl _,⟨_,hG.out⟩,hB2⟩
set_option maxRecDepth 1000000 in
set_option maxHeartbeats 4000000 in
theorem rep2 (x:Int) (w:World) (b off cap:Nat) (hx:w.cell? ⟨b,off,none⟩=some (.int .i64 x)):Calls Tryz.prog 104 #[.slice (some ⟨b,off,none⟩) 1 cap,.int .i64 2] w fun e w' => ∃g T,e=.returned (.slice (some ⟨g,0,none⟩) 2 2)/\w.heap.size<=g/\w'.heap[g]? = some (.cells (List.replicate 2 (.int .i64 x)).toArray T (0,0))/\Below w.heap.size w w':=by
  have hm:=mul153 2 (by omega) w
  obtain ⟨W1,hW1⟩:∃W1,W1=w.alloc (.cells (List.replicate 2 (.int .i64 0)).toArray 3):=⟨_,rfl⟩
  have hk:(Instr.makeSlice 25 (.int .i64 2) (.int .i64 2)).run Tryz.prog w=.ok (.slice (some ⟨w.heap.size,0,none⟩) 2 2) W1:=by
    rw [hW1]
    exact mk3 2 (by omega) w
  have hB0:Hid (Below w.heap.size w W1):=hW1▸(Below.refl _ w).alloc (Nat.le_refl _) _
  have hG0:Hid (W1.heap[w.heap.size]? = some (.cells ([.int .i64 0,.int .i64 0]:List Value).toArray 3 (0,0))):=by
    subst hW1
    show _=_
    exact heap_alloc_new w _
  have hs0:Hid (∀j v,[Value.int .i64 x][j]? = some v->W1.cell? ((⟨b,off,none⟩:Addr).add j)=some v):=src1 (hW1▸cell_alloc hx _)
  clear hW1
  go_enter Tryz.func104,Tryz.ntmps104
  go_wp2_with (first
    | (go_at_call 138;go_fit hm;rintro e w' ⟨rfl,hw⟩;rw [hw])
    | (refine wpList_copy_splice (o:=⟨some 33,_,_,_,_,_⟩) rfl (.tmp 31) (.tmp 32) 25 25 rfl 3 Tryz.underlying25 sz3 (some ⟨w.heap.size,0,none⟩) (some ⟨b,off,none⟩) 2 2 1 cap rfl rfl w.heap.size 0 [.int .i64 0,.int .i64 0] 3 hG0.out [.int .i64 x] rfl (fun _=>⟨rfl,_,rfl,hs0.out⟩) (by simp) (by simp [Value.oneCell']) w.heap.size w hB0.out (Nat.le_refl _) ?_;intro w2 HG2 hB2))
  have hG:Hid (w2.heap[w.heap.size]? = some (.cells ([.int .i64 x,.int .i64 0]:List Value).toArray 3 (0,0))):=HG2.out
  clear HG2 hk hs0 hG0 hB0 hm
  refine wp_loop_rounds 2 ?_
  rw [rounds_succ]
  go_wp2_with (fail)
  refine reg9x (by kernel_rfl) (g:=w.heap.size) (n:=2) (m:=1) (c:=1) (xi:=x) (zi:=0) (T:=3) (L:=[.int .i64 x,.int .i64 0]) (L':=[.int .i64 x,.int .i64 x]) _ rfl (fun _=>rfl) rfl rfl (by omega) (by omega) (by omega) rfl rfl rfl hG.out hB2 (Nat.le_refl _) rfl ?_
  intro w3 hG3 hB3
  clear hG hB2
  have hG:=hG3
  have hB2:=hB3
  clear hG3 hB3
  simp only [Exit.inBlock,Exit.then,rounds_succ,val,Fv]
  go_wp2_with (fail)
  go_ret
  first
    | exact ⟨_,_,rfl,Nat.le_refl _,hG.out,hB2⟩
    | exact ⟨_,rfl,Nat.le_refl _,⟨_,hG.out⟩,hB2⟩
set_option maxRecDepth 1000000 in
set_option maxHeartbeats 4000000 in
theorem rep3 (x:Int) (w:World) (b off cap:Nat) (hx:w.cell? ⟨b,off,none⟩=some (.int .i64 x)):Calls Tryz.prog 104 #[.slice (some ⟨b,off,none⟩) 1 cap,.int .i64 3] w fun e w' => ∃g T,e=.returned (.slice (some ⟨g,0,none⟩) 3 3)/\w.heap.size<=g/\w'.heap[g]? = some (.cells (List.replicate 3 (.int .i64 x)).toArray T (0,0))/\Below w.heap.size w w':=by
  have hm:=mul153 3 (by omega) w
  obtain ⟨W1,hW1⟩:∃W1,W1=w.alloc (.cells (List.replicate 3 (.int .i64 0)).toArray 3):=⟨_,rfl⟩
  have hk:(Instr.makeSlice 25 (.int .i64 3) (.int .i64 3)).run Tryz.prog w=.ok (.slice (some ⟨w.heap.size,0,none⟩) 3 3) W1:=by
    rw [hW1]
    exact mk3 3 (by omega) w
  have hB0:Hid (Below w.heap.size w W1):=hW1▸(Below.refl _ w).alloc (Nat.le_refl _) _
  have hG0:Hid (W1.heap[w.heap.size]? = some (.cells ([.int .i64 0,.int .i64 0,.int .i64 0]:List Value).toArray 3 (0,0))):=by
    subst hW1
    show _=_
    exact heap_alloc_new w _
  have hs0:Hid (∀j v,[Value.int .i64 x][j]? = some v->W1.cell? ((⟨b,off,none⟩:Addr).add j)=some v):=src1 (hW1▸cell_alloc hx _)
  clear hW1
  go_enter Tryz.func104,Tryz.ntmps104
  go_wp2_with (first
    | (go_at_call 138;go_fit hm;rintro e w' ⟨rfl,hw⟩;rw [hw])
    | (refine wpList_copy_splice (o:=⟨some 33,_,_,_,_,_⟩) rfl (.tmp 31) (.tmp 32) 25 25 rfl 3 Tryz.underlying25 sz3 (some ⟨w.heap.size,0,none⟩) (some ⟨b,off,none⟩) 3 3 1 cap rfl rfl w.heap.size 0 [.int .i64 0,.int .i64 0,.int .i64 0] 3 hG0.out [.int .i64 x] rfl (fun _=>⟨rfl,_,rfl,hs0.out⟩) (by simp) (by simp [Value.oneCell']) w.heap.size w hB0.out (Nat.le_refl _) ?_;intro w2 HG2 hB2))
  have hG:Hid (w2.heap[w.heap.size]? = some (.cells ([.int .i64 x,.int .i64 0,.int .i64 0]:List Value).toArray 3 (0,0))):=HG2.out
  clear HG2 hk hs0 hG0 hB0 hm
  refine wp_loop_rounds 3 ?_
  rw [rounds_succ]
  go_wp2_with (fail)
  refine reg9x (by kernel_rfl) (g:=w.heap.size) (n:=3) (m:=1) (c:=1) (xi:=x) (zi:=0) (T:=3) (L:=[.int .i64 x,.int .i64 0,.int .i64 0]) (L':=[.int .i64 x,.int .i64 x,.int .i64 0]) _ rfl (fun _=>rfl) rfl rfl (by omega) (by omega) (by omega) rfl rfl rfl hG.out hB2 (Nat.le_refl _) rfl ?_
  intro w3 hG3 hB3
  clear hG hB2
  have hG:=hG3
  have hB2:=hB3
  clear hG3 hB3
  simp only [Exit.inBlock,Exit.then,rounds_succ,val,Fv]
  go_wp2_with (fail)
  refine reg9x (by kernel_rfl) (g:=w.heap.size) (n:=3) (m:=2) (c:=1) (xi:=x) (zi:=0) (T:=3) (L:=[.int .i64 x,.int .i64 x,.int .i64 0]) (L':=[.int .i64 x,.int .i64 x,.int .i64 x]) _ rfl (fun _=>rfl) rfl rfl (by omega) (by omega) (by omega) rfl rfl rfl hG.out hB2 (Nat.le_refl _) rfl ?_
  intro w3 hG3 hB3
  clear hG hB2
  have hG:=hG3
  have hB2:=hB3
  clear hG3 hB3
  simp only [Exit.inBlock,Exit.then,rounds_succ,val,Fv]
  go_wp2_with (fail)
  go_ret
  first
    | exact ⟨_,_,rfl,Nat.le_refl _,hG.out,hB2⟩
    | exact ⟨_,rfl,Nat.le_refl _,⟨_,hG.out⟩,hB2⟩
set_option maxRecDepth 1000000 in
set_option maxHeartbeats 4000000 in
theorem rep4 (x:Int) (w:World) (b off cap:Nat) (hx:w.cell? ⟨b,off,none⟩=some (.int .i64 x)):Calls Tryz.prog 104 #[.slice (some ⟨b,off,none⟩) 1 cap,.int .i64 4] w fun e w' => ∃g T,e=.returned (.slice (some ⟨g,0,none⟩) 4 4)/\w.heap.size<=g/\w'.heap[g]? = some (.cells (List.replicate 4 (.int .i64 x)).toArray T (0,0))/\Below w.heap.size w w':=by
  have hm:=mul153 4 (by omega) w
  obtain ⟨W1,hW1⟩:∃W1,W1=w.alloc (.cells (List.replicate 4 (.int .i64 0)).toArray 3):=⟨_,rfl⟩
  have hk:(Instr.makeSlice 25 (.int .i64 4) (.int .i64 4)).run Tryz.prog w=.ok (.slice (some ⟨w.heap.size,0,none⟩) 4 4) W1:=by
    rw [hW1]
    exact mk3 4 (by omega) w
  have hB0:Hid (Below w.heap.size w W1):=hW1▸(Below.refl _ w).alloc (Nat.le_refl _) _
  have hG0:Hid (W1.heap[w.heap.size]? = some (.cells ([.int .i64 0,.int .i64 0,.int .i64 0,.int .i64 0]:List Value).toArray 3 (0,0))):=by
    subst hW1
    show _=_
    exact heap_alloc_new w _
  have hs0:Hid (∀j v,[Value.int .i64 x][j]? = some v->W1.cell? ((⟨b,off,none⟩:Addr).add j)=some v):=src1 (hW1▸cell_alloc hx _)
  clear hW1
  go_enter Tryz.func104,Tryz.ntmps104
  go_wp2_with (first
    | (go_at_call 138;go_fit hm;rintro e w' ⟨rfl,hw⟩;rw [hw])
    | (refine wpList_copy_splice (o:=⟨some 33,_,_,_,_,_⟩) rfl (.tmp 31) (.tmp 32) 25 25 rfl 3 Tryz.underlying25 sz3 (some ⟨w.heap.size,0,none⟩) (some ⟨b,off,none⟩) 4 4 1 cap rfl rfl w.heap.size 0 [.int .i64 0,.int .i64 0,.int .i64 0,.int .i64 0] 3 hG0.out [.int .i64 x] rfl (fun _=>⟨rfl,_,rfl,hs0.out⟩) (by simp) (by simp [Value.oneCell']) w.heap.size w hB0.out (Nat.le_refl _) ?_;intro w2 HG2 hB2))
  have hG:Hid (w2.heap[w.heap.size]? = some (.cells ([.int .i64 x,.int .i64 0,.int .i64 0,.int .i64 0]:List Value).toArray 3 (0,0))):=HG2.out
  clear HG2 hk hs0 hG0 hB0 hm
  refine wp_loop_rounds 3 ?_
  rw [rounds_succ]
  go_wp2_with (fail)
  refine reg9x (by kernel_rfl) (g:=w.heap.size) (n:=4) (m:=1) (c:=1) (xi:=x) (zi:=0) (T:=3) (L:=[.int .i64 x,.int .i64 0,.int .i64 0,.int .i64 0]) (L':=[.int .i64 x,.int .i64 x,.int .i64 0,.int .i64 0]) _ rfl (fun _=>rfl) rfl rfl (by omega) (by omega) (by omega) rfl rfl rfl hG.out hB2 (Nat.le_refl _) rfl ?_
  intro w3 hG3 hB3
  clear hG hB2
  have hG:=hG3
  have hB2:=hB3
  clear hG3 hB3
  simp only [Exit.inBlock,Exit.then,rounds_succ,val,Fv]
  go_wp2_with (fail)
  refine reg9x (by kernel_rfl) (g:=w.heap.size) (n:=4) (m:=2) (c:=2) (xi:=x) (zi:=0) (T:=3) (L:=[.int .i64 x,.int .i64 x,.int .i64 0,.int .i64 0]) (L':=[.int .i64 x,.int .i64 x,.int .i64 x,.int .i64 x]) _ rfl (fun _=>rfl) rfl rfl (by omega) (by omega) (by omega) rfl rfl rfl hG.out hB2 (Nat.le_refl _) rfl ?_
  intro w3 hG3 hB3
  clear hG hB2
  have hG:=hG3
  have hB2:=hB3
  clear hG3 hB3
  simp only [Exit.inBlock,Exit.then,rounds_succ,val,Fv]
  go_wp2_with (fail)
  go_ret
  first
    | exact ⟨_,_,rfl,Nat.le_refl _,hG.out,hB2⟩
    | exact ⟨_,rfl,Nat.le_refl _,⟨_,hG.out⟩,hB2⟩
set_option maxRecDepth 1000000 in
set_option maxHeartbeats 4000000 in
theorem rep5 (x:Int) (w:World) (b off cap:Nat) (hx:w.cell? ⟨b,off,none⟩=some (.int .i64 x)):Calls Tryz.prog 104 #[.slice (some ⟨b,off,none⟩) 1 cap,.int .i64 5] w fun e w' => ∃g T,e=.returned (.slice (some ⟨g,0,none⟩) 5 5)/\w.heap.size<=g/\w'.heap[g]? = some (.cells (List.replicate 5 (.int .i64 x)).toArray T (0,0))/\Below w.heap.size w w':=by
  have hm:=mul153 5 (by omega) w
  obtain ⟨W1,hW1⟩:∃W1,W1=w.alloc (.cells (List.replicate 5 (.int .i64 0)).toArray 3):=⟨_,rfl⟩
  have hk:(Instr.makeSlice 25 (.int .i64 5) (.int .i64 5)).run Tryz.prog w=.ok (.slice (some ⟨w.heap.size,0,none⟩) 5 5) W1:=by
    rw [hW1]
    exact mk3 5 (by omega) w
  have hB0:Hid (Below w.heap.size w W1):=hW1▸(Below.refl _ w).alloc (Nat.le_refl _) _
  have hG0:Hid (W1.heap[w.heap.size]? = some (.cells ([.int .i64 0,.int .i64 0,.int .i64 0,.int .i64 0,.int .i64 0]:List Value).toArray 3 (0,0))):=by
    subst hW1
    show _=_
    exact heap_alloc_new w _
  have hs0:Hid (∀j v,[Value.int .i64 x][j]? = some v->W1.cell? ((⟨b,off,none⟩:Addr).add j)=some v):=src1 (hW1▸cell_alloc hx _)
  clear hW1
  go_enter Tryz.func104,Tryz.ntmps104
  go_wp2_with (first
    | (go_at_call 138;go_fit hm;rintro e w' ⟨rfl,hw⟩;rw [hw])
    | (refine wpList_copy_splice (o:=⟨some 33,_,_,_,_,_⟩) rfl (.tmp 31) (.tmp 32) 25 25 rfl 3 Tryz.underlying25 sz3 (some ⟨w.heap.size,0,none⟩) (some ⟨b,off,none⟩) 5 5 1 cap rfl rfl w.heap.size 0 [.int .i64 0,.int .i64 0,.int .i64 0,.int .i64 0,.int .i64 0] 3 hG0.out [.int .i64 x] rfl (fun _=>⟨rfl,_,rfl,hs0.out⟩) (by simp) (by simp [Value.oneCell']) w.heap.size w hB0.out (Nat.le_refl _) ?_;intro w2 HG2 hB2))
  have hG:Hid (w2.heap[w.heap.size]? = some (.cells ([.int .i64 x,.int .i64 0,.int .i64 0,.int .i64 0,.int .i64 0]:List Value).toArray 3 (0,0))):=HG2.out
  clear HG2 hk hs0 hG0 hB0 hm
  refine wp_loop_rounds 4 ?_
  rw [rounds_succ]
  go_wp2_with (fail)
  refine reg9x (by kernel_rfl) (g:=w.heap.size) (n:=5) (m:=1) (c:=1) (xi:=x) (zi:=0) (T:=3) (L:=[.int .i64 x,.int .i64 0,.int .i64 0,.int .i64 0,.int .i64 0]) (L':=[.int .i64 x,.int .i64 x,.int .i64 0,.int .i64 0,.int .i64 0]) _ rfl (fun _=>rfl) rfl rfl (by omega) (by omega) (by omega) rfl rfl rfl hG.out hB2 (Nat.le_refl _) rfl ?_
  intro w3 hG3 hB3
  clear hG hB2
  have hG:=hG3
  have hB2:=hB3
  clear hG3 hB3
  simp only [Exit.inBlock,Exit.then,rounds_succ,val,Fv]
  go_wp2_with (fail)
  refine reg9x (by kernel_rfl) (g:=w.heap.size) (n:=5) (m:=2) (c:=2) (xi:=x) (zi:=0) (T:=3) (L:=[.int .i64 x,.int .i64 x,.int .i64 0,.int .i64 0,.int .i64 0]) (L':=[.int .i64 x,.int .i64 x,.int .i64 x,.int .i64 x,.int .i64 0]) _ rfl (fun _=>rfl) rfl rfl (by omega) (by omega) (by omega) rfl rfl rfl hG.out hB2 (Nat.le_refl _) rfl ?_
  intro w3 hG3 hB3
  clear hG hB2
  have hG:=hG3
  have hB2:=hB3
  clear hG3 hB3
  simp only [Exit.inBlock,Exit.then,rounds_succ,val,Fv]
  go_wp2_with (fail)
  refine reg9x (by kernel_rfl) (g:=w.heap.size) (n:=5) (m:=4) (c:=1) (xi:=x) (zi:=0) (T:=3) (L:=[.int .i64 x,.int .i64 x,.int .i64 x,.int .i64 x,.int .i64 0]) (L':=[.int .i64 x,.int .i64 x,.int .i64 x,.int .i64 x,.int .i64 x]) _ rfl (fun _=>rfl) rfl rfl (by omega) (by omega) (by omega) rfl rfl rfl hG.out hB2 (Nat.le_refl _) rfl ?_
  intro w3 hG3 hB3
  clear hG hB2
  have hG:=hG3
  have hB2:=hB3
  clear hG3 hB3
  simp only [Exit.inBlock,Exit.then,rounds_succ,val,Fv]
  go_wp2_with (fail)
  go_ret
  first
    | exact ⟨_,_,rfl,Nat.le_refl _,hG.out,hB2⟩
    | exact ⟨_,rfl,Nat.le_refl _,⟨_,hG.out⟩,hB2⟩
set_option maxRecDepth 1000000 in
set_option maxHeartbeats 4000000 in
theorem rep6 (x:Int) (w:World) (b off cap:Nat) (hx:w.cell? ⟨b,off,none⟩=some (.int .i64 x)):Calls Tryz.prog 104 #[.slice (some ⟨b,off,none⟩) 1 cap,.int .i64 6] w fun e w' => ∃g T,e=.returned (.slice (some ⟨g,0,none⟩) 6 6)/\w.heap.size<=g/\w'.heap[g]? = some (.cells (List.replicate 6 (.int .i64 x)).toArray T (0,0))/\Below w.heap.size w w':=by
  have hm:=mul153 6 (by omega) w
  obtain ⟨W1,hW1⟩:∃W1,W1=w.alloc (.cells (List.replicate 6 (.int .i64 0)).toArray 3):=⟨_,rfl⟩
  have hk:(Instr.makeSlice 25 (.int .i64 6) (.int .i64 6)).run Tryz.prog w=.ok (.slice (some ⟨w.heap.size,0,none⟩) 6 6) W1:=by
    rw [hW1]
    exact mk3 6 (by omega) w
  have hB0:Hid (Below w.heap.size w W1):=hW1▸(Below.refl _ w).alloc (Nat.le_refl _) _
  have hG0:Hid (W1.heap[w.heap.size]? = some (.cells ([.int .i64 0,.int .i64 0,.int .i64 0,.int .i64 0,.int .i64 0,.int .i64 0]:List Value).toArray 3 (0,0))):=by
    subst hW1
    show _=_
    exact heap_alloc_new w _
  have hs0:Hid (∀j v,[Value.int .i64 x][j]? = some v->W1.cell? ((⟨b,off,none⟩:Addr).add j)=some v):=src1 (hW1▸cell_alloc hx _)
  clear hW1
  go_enter Tryz.func104,Tryz.ntmps104
  go_wp2_with (first
    | (go_at_call 138;go_fit hm;rintro e w' ⟨rfl,hw⟩;rw [hw])
    | (refine wpList_copy_splice (o:=⟨some 33,_,_,_,_,_⟩) rfl (.tmp 31) (.tmp 32) 25 25 rfl 3 Tryz.underlying25 sz3 (some ⟨w.heap.size,0,none⟩) (some ⟨b,off,none⟩) 6 6 1 cap rfl rfl w.heap.size 0 [.int .i64 0,.int .i64 0,.int .i64 0,.int .i64 0,.int .i64 0,.int .i64 0] 3 hG0.out [.int .i64 x] rfl (fun _=>⟨rfl,_,rfl,hs0.out⟩) (by simp) (by simp [Value.oneCell']) w.heap.size w hB0.out (Nat.le_refl _) ?_;intro w2 HG2 hB2))
  have hG:Hid (w2.heap[w.heap.size]? = some (.cells ([.int .i64 x,.int .i64 0,.int .i64 0,.int .i64 0,.int .i64 0,.int .i64 0]:List Value).toArray 3 (0,0))):=HG2.out
  clear HG2 hk hs0 hG0 hB0 hm
  refine wp_loop_rounds 4 ?_
  rw [rounds_succ]
  go_wp2_with (fail)
  refine reg9x (by kernel_rfl) (g:=w.heap.size) (n:=6) (m:=1) (c:=1) (xi:=x) (zi:=0) (T:=3) (L:=[.int .i64 x,.int .i64 0,.int .i64 0,.int .i64 0,.int .i64 0,.int .i64 0]) (L':=[.int .i64 x,.int .i64 x,.int .i64 0,.int .i64 0,.int .i64 0,.int .i64 0]) _ rfl (fun _=>rfl) rfl rfl (by omega) (by omega) (by omega) rfl rfl rfl hG.out hB2 (Nat.le_refl _) rfl ?_
  intro w3 hG3 hB3
  clear hG hB2
  have hG:=hG3
  have hB2:=hB3
  clear hG3 hB3
  simp only [Exit.inBlock,Exit.then,rounds_succ,val,Fv]
  go_wp2_with (fail)
  refine reg9x (by kernel_rfl) (g:=w.heap.size) (n:=6) (m:=2) (c:=2) (xi:=x) (zi:=0) (T:=3) (L:=[.int .i64 x,.int .i64 x,.int .i64 0,.int .i64 0,.int .i64 0,.int .i64 0]) (L':=[.int .i64 x,.int .i64 x,.int .i64 x,.int .i64 x,.int .i64 0,.int .i64 0]) _ rfl (fun _=>rfl) rfl rfl (by omega) (by omega) (by omega) rfl rfl rfl hG.out hB2 (Nat.le_refl _) rfl ?_
  intro w3 hG3 hB3
  clear hG hB2
  have hG:=hG3
  have hB2:=hB3
  clear hG3 hB3
  simp only [Exit.inBlock,Exit.then,rounds_succ,val,Fv]
  go_wp2_with (fail)
  refine reg9x (by kernel_rfl) (g:=w.heap.size) (n:=6) (m:=4) (c:=2) (xi:=x) (zi:=0) (T:=3) (L:=[.int .i64 x,.int .i64 x,.int .i64 x,.int .i64 x,.int .i64 0,.int .i64 0]) (L':=[.int .i64 x,.int .i64 x,.int .i64 x,.int .i64 x,.int .i64 x,.int .i64 x]) _ rfl (fun _=>rfl) rfl rfl (by omega) (by omega) (by omega) rfl rfl rfl hG.out hB2 (Nat.le_refl _) rfl ?_
  intro w3 hG3 hB3
  clear hG hB2
  have hG:=hG3
  have hB2:=hB3
  clear hG3 hB3
  simp only [Exit.inBlock,Exit.then,rounds_succ,val,Fv]
  go_wp2_with (fail)
  go_ret
  first
    | exact ⟨_,_,rfl,Nat.le_refl _,hG.out,hB2⟩
    | exact ⟨_,rfl,Nat.le_refl _,⟨_,hG.out⟩,hB2⟩
set_option maxRecDepth 1000000 in
set_option maxHeartbeats 4000000 in
theorem rep7 (x:Int) (w:World) (b off cap:Nat) (hx:w.cell? ⟨b,off,none⟩=some (.int .i64 x)):Calls Tryz.prog 104 #[.slice (some ⟨b,off,none⟩) 1 cap,.int .i64 7] w fun e w' => ∃g T,e=.returned (.slice (some ⟨g,0,none⟩) 7 7)/\w.heap.size<=g/\w'.heap[g]? = some (.cells (List.replicate 7 (.int .i64 x)).toArray T (0,0))/\Below w.heap.size w w':=by
  have hm:=mul153 7 (by omega) w
  obtain ⟨W1,hW1⟩:∃W1,W1=w.alloc (.cells (List.replicate 7 (.int .i64 0)).toArray 3):=⟨_,rfl⟩
  have hk:(Instr.makeSlice 25 (.int .i64 7) (.int .i64 7)).run Tryz.prog w=.ok (.slice (some ⟨w.heap.size,0,none⟩) 7 7) W1:=by
    rw [hW1]
    exact mk3 7 (by omega) w
  have hB0:Hid (Below w.heap.size w W1):=hW1▸(Below.refl _ w).alloc (Nat.le_refl _) _
  have hG0:Hid (W1.heap[w.heap.size]? = some (.cells ([.int .i64 0,.int .i64 0,.int .i64 0,.int .i64 0,.int .i64 0,.int .i64 0,.int .i64 0]:List Value).toArray 3 (0,0))):=by
    subst hW1
    show _=_
    exact heap_alloc_new w _
  have hs0:Hid (∀j v,[Value.int .i64 x][j]? = some v->W1.cell? ((⟨b,off,none⟩:Addr).add j)=some v):=src1 (hW1▸cell_alloc hx _)
  clear hW1
  go_enter Tryz.func104,Tryz.ntmps104
  go_wp2_with (first
    | (go_at_call 138;go_fit hm;rintro e w' ⟨rfl,hw⟩;rw [hw])
    | (refine wpList_copy_splice (o:=⟨some 33,_,_,_,_,_⟩) rfl (.tmp 31) (.tmp 32) 25 25 rfl 3 Tryz.underlying25 sz3 (some ⟨w.heap.size,0,none⟩) (some ⟨b,off,none⟩) 7 7 1 cap rfl rfl w.heap.size 0 [.int .i64 0,.int .i64 0,.int .i64 0,.int .i64 0,.int .i64 0,.int .i64 0,.int .i64 0] 3 hG0.out [.int .i64 x] rfl (fun _=>⟨rfl,_,rfl,hs0.out⟩) (by simp) (by simp [Value.oneCell']) w.heap.size w hB0.out (Nat.le_refl _) ?_;intro w2 HG2 hB2))
  have hG:Hid (w2.heap[w.heap.size]? = some (.cells ([.int .i64 x,.int .i64 0,.int .i64 0,.int .i64 0,.int .i64 0,.int .i64 0,.int .i64 0]:List Value).toArray 3 (0,0))):=HG2.out
  clear HG2 hk hs0 hG0 hB0 hm
  refine wp_loop_rounds 4 ?_
  rw [rounds_succ]
  go_wp2_with (fail)
  refine reg9x (by kernel_rfl) (g:=w.heap.size) (n:=7) (m:=1) (c:=1) (xi:=x) (zi:=0) (T:=3) (L:=[.int .i64 x,.int .i64 0,.int .i64 0,.int .i64 0,.int .i64 0,.int .i64 0,.int .i64 0]) (L':=[.int .i64 x,.int .i64 x,.int .i64 0,.int .i64 0,.int .i64 0,.int .i64 0,.int .i64 0]) _ rfl (fun _=>rfl) rfl rfl (by omega) (by omega) (by omega) rfl rfl rfl hG.out hB2 (Nat.le_refl _) rfl ?_
  intro w3 hG3 hB3
  clear hG hB2
  have hG:=hG3
  have hB2:=hB3
  clear hG3 hB3
  simp only [Exit.inBlock,Exit.then,rounds_succ,val,Fv]
  go_wp2_with (fail)
  refine reg9x (by kernel_rfl) (g:=w.heap.size) (n:=7) (m:=2) (c:=2) (xi:=x) (zi:=0) (T:=3) (L:=[.int .i64 x,.int .i64 x,.int .i64 0,.int .i64 0,.int .i64 0,.int .i64 0,.int .i64 0]) (L':=[.int .i64 x,.int .i64 x,.int .i64 x,.int .i64 x,.int .i64 0,.int .i64 0,.int .i64 0]) _ rfl (fun _=>rfl) rfl rfl (by omega) (by omega) (by omega) rfl rfl rfl hG.out hB2 (Nat.le_refl _) rfl ?_
  intro w3 hG3 hB3
  clear hG hB2
  have hG:=hG3
  have hB2:=hB3
  clear hG3 hB3
  simp only [Exit.inBlock,Exit.then,rounds_succ,val,Fv]
  go_wp2_with (fail)
  refine reg9x (by kernel_rfl) (g:=w.heap.size) (n:=7) (m:=4) (c:=3) (xi:=x) (zi:=0) (T:=3) (L:=[.int .i64 x,.int .i64 x,.int .i64 x,.int .i64 x,.int .i64 0,.int .i64 0,.int .i64 0]) (L':=[.int .i64 x,.int .i64 x,.int .i64 x,.int .i64 x,.int .i64 x,.int .i64 x,.int .i64 x]) _ rfl (fun _=>rfl) rfl rfl (by omega) (by omega) (by omega) rfl rfl rfl hG.out hB2 (Nat.le_refl _) rfl ?_
  intro w3 hG3 hB3
  clear hG hB2
  have hG:=hG3
  have hB2:=hB3
  clear hG3 hB3
  simp only [Exit.inBlock,Exit.then,rounds_succ,val,Fv]
  go_wp2_with (fail)
  go_ret
  first
    | exact ⟨_,_,rfl,Nat.le_refl _,hG.out,hB2⟩
    | exact ⟨_,rfl,Nat.le_refl _,⟨_,hG.out⟩,hB2⟩
set_option maxRecDepth 1000000 in
set_option maxHeartbeats 4000000 in
theorem rep8 (x:Int) (w:World) (b off cap:Nat) (hx:w.cell? ⟨b,off,none⟩=some (.int .i64 x)):Calls Tryz.prog 104 #[.slice (some ⟨b,off,none⟩) 1 cap,.int .i64 8] w fun e w' => ∃g T,e=.returned (.slice (some ⟨g,0,none⟩) 8 8)/\w.heap.size<=g/\w'.heap[g]? = some (.cells (List.replicate 8 (.int .i64 x)).toArray T (0,0))/\Below w.heap.size w w':=by
  have hm:=mul153 8 (by omega) w
  obtain ⟨W1,hW1⟩:∃W1,W1=w.alloc (.cells (List.replicate 8 (.int .i64 0)).toArray 3):=⟨_,rfl⟩
  have hk:(Instr.makeSlice 25 (.int .i64 8) (.int .i64 8)).run Tryz.prog w=.ok (.slice (some ⟨w.heap.size,0,none⟩) 8 8) W1:=by
    rw [hW1]
    exact mk3 8 (by omega) w
  have hB0:Hid (Below w.heap.size w W1):=hW1▸(Below.refl _ w).alloc (Nat.le_refl _) _
  have hG0:Hid (W1.heap[w.heap.size]? = some (.cells ([.int .i64 0,.int .i64 0,.int .i64 0,.int .i64 0,.int .i64 0,.int .i64 0,.int .i64 0,.int .i64 0]:List Value).toArray 3 (0,0))):=by
    subst hW1
    show _=_
    exact heap_alloc_new w _
  have hs0:Hid (∀j v,[Value.int .i64 x][j]? = some v->W1.cell? ((⟨b,off,none⟩:Addr).add j)=some v):=src1 (hW1▸cell_alloc hx _)
  clear hW1
  go_enter Tryz.func104,Tryz.ntmps104
  go_wp2_with (first
    | (go_at_call 138;go_fit hm;rintro e w' ⟨rfl,hw⟩;rw [hw])
    | (refine wpList_copy_splice (o:=⟨some 33,_,_,_,_,_⟩) rfl (.tmp 31) (.tmp 32) 25 25 rfl 3 Tryz.underlying25 sz3 (some ⟨w.heap.size,0,none⟩) (some ⟨b,off,none⟩) 8 8 1 cap rfl rfl w.heap.size 0 [.int .i64 0,.int .i64 0,.int .i64 0,.int .i64 0,.int .i64 0,.int .i64 0,.int .i64 0,.int .i64 0] 3 hG0.out [.int .i64 x] rfl (fun _=>⟨rfl,_,rfl,hs0.out⟩) (by simp) (by simp [Value.oneCell']) w.heap.size w hB0.out (Nat.le_refl _) ?_;intro w2 HG2 hB2))
  have hG:Hid (w2.heap[w.heap.size]? = some (.cells ([.int .i64 x,.int .i64 0,.int .i64 0,.int .i64 0,.int .i64 0,.int .i64 0,.int .i64 0,.int .i64 0]:List Value).toArray 3 (0,0))):=HG2.out
  clear HG2 hk hs0 hG0 hB0 hm
  refine wp_loop_rounds 4 ?_
  rw [rounds_succ]
  go_wp2_with (fail)
  refine reg9x (by kernel_rfl) (g:=w.heap.size) (n:=8) (m:=1) (c:=1) (xi:=x) (zi:=0) (T:=3) (L:=[.int .i64 x,.int .i64 0,.int .i64 0,.int .i64 0,.int .i64 0,.int .i64 0,.int .i64 0,.int .i64 0]) (L':=[.int .i64 x,.int .i64 x,.int .i64 0,.int .i64 0,.int .i64 0,.int .i64 0,.int .i64 0,.int .i64 0]) _ rfl (fun _=>rfl) rfl rfl (by omega) (by omega) (by omega) rfl rfl rfl hG.out hB2 (Nat.le_refl _) rfl ?_
  intro w3 hG3 hB3
  clear hG hB2
  have hG:=hG3
  have hB2:=hB3
  clear hG3 hB3
  simp only [Exit.inBlock,Exit.then,rounds_succ,val,Fv]
  go_wp2_with (fail)
  refine reg9x (by kernel_rfl) (g:=w.heap.size) (n:=8) (m:=2) (c:=2) (xi:=x) (zi:=0) (T:=3) (L:=[.int .i64 x,.int .i64 x,.int .i64 0,.int .i64 0,.int .i64 0,.int .i64 0,.int .i64 0,.int .i64 0]) (L':=[.int .i64 x,.int .i64 x,.int .i64 x,.int .i64 x,.int .i64 0,.int .i64 0,.int .i64 0,.int .i64 0]) _ rfl (fun _=>rfl) rfl rfl (by omega) (by omega) (by omega) rfl rfl rfl hG.out hB2 (Nat.le_refl _) rfl ?_
  intro w3 hG3 hB3
  clear hG hB2
  have hG:=hG3
  have hB2:=hB3
  clear hG3 hB3
  simp only [Exit.inBlock,Exit.then,rounds_succ,val,Fv]
  go_wp2_with (fail)
  refine reg9x (by kernel_rfl) (g:=w.heap.size) (n:=8) (m:=4) (c:=4) (xi:=x) (zi:=0) (T:=3) (L:=[.int .i64 x,.int .i64 x,.int .i64 x,.int .i64 x,.int .i64 0,.int .i64 0,.int .i64 0,.int .i64 0]) (L':=[.int .i64 x,.int .i64 x,.int .i64 x,.int .i64 x,.int .i64 x,.int .i64 x,.int .i64 x,.int .i64 x]) _ rfl (fun _=>rfl) rfl rfl (by omega) (by omega) (by omega) rfl rfl rfl hG.out hB2 (Nat.le_refl _) rfl ?_
  intro w3 hG3 hB3
  clear hG hB2
  have hG:=hG3
  have hB2:=hB3
  clear hG3 hB3
  simp only [Exit.inBlock,Exit.then,rounds_succ,val,Fv]
  go_wp2_with (fail)
  go_ret
  first
    | exact ⟨_,_,rfl,Nat.le_refl _,hG.out,hB2⟩
    | exact ⟨_,rfl,Nat.le_refl _,⟨_,hG.out⟩,hB2⟩
end Go.V.W
namespace Go.V.W
open Go.Proofs Go.RowKit Go.Shelf
theorem rep_calls (x:Int) (n:Nat) (h1:1<=n) (h8:n<=8) (w:World) (b off cap:Nat) (hx:w.cell? ⟨b,off,none⟩=some (.int .i64 x)):Calls Tryz.prog 104 #[.slice (some ⟨b,off,none⟩) 1 cap,.int .i64 (n:Int)] w fun e w' => ∃g T,e=.returned (.slice (some ⟨g,0,none⟩) n n)/\w.heap.size<=g/\w'.heap[g]? = some (.cells (List.replicate n (.int .i64 x)).toArray T (0,0))/\Below w.heap.size w w':=by
  have:n=1\/n=2\/n=3\/n=4\/n=5\/n=6\/n=7\/n=8:=by omega
  rcases this with rfl | rfl | rfl | rfl | rfl | rfl | rfl | rfl
  · exact rep1 x w b off cap hx
  · exact rep2 x w b off cap hx
  · exact rep3 x w b off cap hx
  · exact rep4 x w b off cap hx
  · exact rep5 x w b off cap hx
  · exact rep6 x w b off cap hx
  · exact rep7 x w b off cap hx
  · exact rep8 x w b off cap hx
theorem con_repeat {P:Program} {f:FuncId} (he:∀(args:Array Value) (w:World),(callFunc f args).run P w=.ok (.enter f args) w)
    (h:∀(x:Int) (n:Nat),1<=n->n<=8 -> ∀(w:World) (b off cap:Nat),w.cell? ⟨b,off,none⟩=some (.int .i64 x)->Calls P f #[.slice (some ⟨b,off,none⟩) 1 cap,.int .i64 (n:Int)] w fun e w' => ∃g T,e=.returned (.slice (some ⟨g,0,none⟩) n n)/\w.heap.size<=g/\w'.heap[g]? = some (.cells (List.replicate n (.int .i64 x)).toArray T (0,0))/\Below w.heap.size w w') :
    Contract P f ⟨[(.slice (.int .i64),false),(.int .i64,false)],[.slice (.int .i64)],true,G_repeat⟩:=by
  intro w ψ U vs d out hargs hU hψ hgl ho
  obtain ⟨l,n,u⟩:=d
  have ho:G_repeat (l,n,u)=some out:=ho
  unfold G_repeat at ho
  split at ho
  · rename_i hc
    simp only [Bool.and_eq_true,decide_eq_true_eq] at hc
    obtain ⟨⟨hl,h1⟩,h8⟩:=hc
    have h1:1<=n:=h1
    have h8:n<=8:=h8
    have ho:=Option.some.inj ho
    subst ho
    obtain ⟨c1,r1,rfl,k2,c2,r2,rfl,k4,k5⟩:=hargs
    have k5:r2=[]:=k5
    subst k5
    have k4:c2=[.int .i64 n]:=k4
    subst k4
    obtain ⟨x,rfl⟩:∃x:Int,l=[x]:=by
      match l,hl with
      | [x],_=>exact ⟨x,rfl⟩
    simp only [Rep] at k2
    rcases k2 with ⟨_,k2⟩ | ⟨b,off,cap,rfl,kc,kS,kb,ke⟩
    · cases k2
    · have kx:=ke 0 (by simp)
      simp only [Rep,Nat.zero_mul,Nat.add_zero,List.get_eq_getElem,List.getElem_cons_zero,Kd.size] at kx
      have hcell:w.cell? ⟨b,off,none⟩=some (.int .i64 x):=by
        unfold cellsAt at kx
        split at kx
        · rename_i cs T fr hb
          simp only [World.cell?,hb]
          have h0:((cs.toList.drop off).take 1)[0]? = some (.int .i64 x):=by rw [kx];rfl
          rw [List.getElem?_take,List.getElem?_drop] at h0
          simpa using h0
        · cases kx
      have hn : @Eq Int n ((Int.toNat n:Nat):Int):=by omega
      have hcalls:=h x n.toNat (by omega) (by omega) w b off cap hcell
      rw [<- hn] at hcalls
      unfold CallsTo
      show match (callFunc f #[.slice (some ⟨b,off,none⟩) 1 cap,.int .i64 n]).run P w with
        | .ok (.value v) w'=>_
        | .ok (.enter f args) w'=>_
        | .ok (.row row args) w'=>_
        | _=>False
      rw [he]
      refine Calls.mono hcalls fun e w' hh => ?_
      obtain ⟨g,T,rfl,hg,hrow,bel⟩:=hh
      refine ⟨fun b=>if b=g then some (.res [.l]) else none,⟨bel.os,bel.tape,bel.output,bel.size,fun b hb _=>bel.block b hb,fun b z h => ?_,⟨[.slice (some ⟨g,0,none⟩) n.toNat n.toNat],rfl,?_⟩,trivial⟩⟩
      · split at h
        · rename_i e
          subst e
          exact ⟨.inl hg,Live.of hrow⟩
        · cases h
      · refine ⟨?_,rfl⟩
        have hlen:(List.replicate n.toNat x).length=n.toNat:=by simp
        refine .inr ⟨g,0,n.toNat,?_,?_,?_,⟨_,_,_,hrow,?_⟩,fun i hi => ?_⟩
        · show [Value.slice (some ⟨g,0,none⟩) n.toNat n.toNat]=[Value.slice (some ⟨g,0,none⟩) (List.replicate n.toNat x).length n.toNat]
          rw [hlen]
        · show (List.replicate n.toNat x).length<=n.toNat
          rw [hlen]
          exact Nat.le_refl _
        · show (if g=g then some (Lab.res [.l]) else none)=some (.res ([]++[.l]))
          simp
        · simp [Kd.size]
        · have hi:i<(List.replicate n.toNat x).length:=hi
          show cellsAt w' g (0+i*1) 1=[.int .i64 ((List.replicate n.toNat x).get ⟨i,hi⟩)]
          rw [hlen] at hi
          unfold cellsAt
          rw [hrow]
          simp only [List.get_eq_getElem,List.getElem_replicate,List.drop_replicate,List.take_replicate]
          rw [show min 1 (n.toNat-(0+i*1))=1 by omega]
          rfl
  · cases ho
theorem C_repeat:Contract Tryz.prog 104 ⟨[(.slice (.int .i64),false),(.int .i64,false)],[.slice (.int .i64)],true,G_repeat⟩:=
  con_repeat (enters_of Tryz.func104 (by kernel_rfl) rfl) rep_calls
end Go.V.W
namespace Go.V.W
open Go.Proofs
theorem C_q6q:Contract Tryz.prog 104 S_q6q:=C_repeat
end Go.V.W
namespace Go.V.W
open Go.Proofs
theorem containsAny_any (c:List UInt8):∀l:List UInt8,Lib.containsAny l c=l.any fun b=>c.contains b:=by
 intro l
 induction l with
 | nil=>simp [Lib.containsAny,Lib.indexAny]
 | cons b l ih=>
  unfold Lib.containsAny at ih |-
  unfold Lib.indexAny
  rw [List.any_cons,<- ih]
  by_cases hb:c.contains b=true
  ·have hb':b∈c:=by simpa using hb
   simp [hb']
  ·simp only [Bool.not_eq_true] at hb
   rw [hb]
   simp only [Bool.false_eq_true,if_false,Bool.false_or]
   have:=Lib.indexAny_ge c l
   by_cases he:Lib.indexAny l c = -1
   ·simp [he]
   ·have e1:(Lib.indexAny l c == -1)=false:=by simpa using he
    rw [e1]
    simp only [Bool.false_eq_true,if_false]
    have e2:(0<=Lib.indexAny l c):=by omega
    have e3:(0<=Lib.indexAny l c+1):=by omega
    simp [e2,e3]
end Go.V.W
namespace Go.V.W
open Go.Proofs
def specB (a b:ByteArray):Bool := !seq_ a (⟨#[]⟩:ByteArray)&&((a.data.toList.all (fun b=>printed1 b && !(b.toNat==35))&&decide ((a.size:Int)<=160))&&(!(a.data.toList.any (fun b=>((b.toNat:Int)==64)))&&(b.data.toList.all (fun b=>printed1 b && !(b.toNat==35))&&decide ((b.size:Int)<=200))))
def implB (a b:ByteArray):Bool:=((decide ((a.size:Int)>=1)&&decide ((a.size:Int)<=160))&&(printedB a && !Lib.containsAny a.data.toList [35,64]))&&(decide ((b.size:Int)<=200)&&(printedB b && !Lib.containsAny b.data.toList [35]))
theorem all_not (l:List UInt8) (p q:UInt8->Bool):l.all (fun b=>p b && !q b)=(l.all p && !l.any q):=by
 induction l with
 | nil=>rfl
 | cons b l ih=>
  simp only [List.all_cons,List.any_cons,ih]
  cases p b<;>cases q b<;>cases l.all p<;>cases l.any q<;>rfl
theorem any_or (l:List UInt8) (p q:UInt8->Bool):l.any (fun b=>p b||q b)=(l.any p||l.any q):=by
 induction l with
 | nil=>rfl
 | cons b l ih=>
  simp only [List.any_cons,ih]
  cases p b<;>cases q b<;>cases l.any p<;>cases l.any q<;>rfl
theorem has35 (l:List UInt8):Lib.containsAny l [35]=l.any (fun b=>b.toNat==35):=by
 rw [containsAny_any]
 congr 1
 funext b
 simp only [List.contains_cons,List.contains_nil,Bool.or_false]
 rw [Bool.eq_iff_iff]
 simp only [beq_iff_eq]
 exact ⟨fun h=>by rw [h];rfl,fun h=>UInt8.toNat_inj.1 h⟩
theorem has3564 (l:List UInt8):Lib.containsAny l [35,64]=(l.any (fun b=>b.toNat==35)||l.any (fun b=>((b.toNat:Int)==64))):=by
 rw [containsAny_any,<- any_or]
 congr 1
 funext b
 simp only [List.contains_cons,List.contains_nil,Bool.or_false]
 rw [Bool.eq_iff_iff]
 simp only [Bool.or_eq_true,beq_iff_eq]
 constructor
 ·rintro (h | h)
  ·left;rw [h];rfl
  ·right;rw [h];rfl
 ·rintro (h | h)
  ·left;exact UInt8.toNat_inj.1 h
  ·right
   have h64:b.toNat=64:=by omega
   exact UInt8.toNat_inj.1 (by rw [h64];rfl)
theorem empty_size (a:ByteArray):seq_ a (⟨#[]⟩:ByteArray) = !decide ((a.size:Int)>=1):=by
 unfold seq_
 have h1:a.toList=a.data.toList:=Lib.toList_data a
 have h2:(⟨#[]⟩:ByteArray).toList=[]:=Lib.toList_data _
 have h3:a.data.toList.length=a.size:=by simp
 rw [h1,h2]
 cases hl:a.data.toList with
 | nil=>
  rw [hl] at h3
  simp only [List.length_nil] at h3
  simp [<- h3]
 | cons x l=>
  rw [hl] at h3
  simp only [List.length_cons] at h3
  have:decide ((a.size:Int)>=1)=true:=by simp;omega
  rw [this]
  rfl
theorem same (a b:ByteArray):specB a b=implB a b:=by
 unfold specB implB
 rw [empty_size,all_not,all_not,has35,has3564]
 unfold printedB
 cases decide ((a.size:Int)>=1)<;>cases a.data.toList.all printed1<;>cases a.data.toList.any (fun b=>b.toNat==35)<;>cases a.data.toList.any (fun b=>((b.toNat:Int)==64))<;>cases decide ((a.size:Int)<=160)<;>cases decide ((b.size:Int)<=200)<;>cases b.data.toList.all printed1<;>cases b.data.toList.any (fun b=>b.toNat==35)<;>rfl
end Go.V.W
namespace Go.V.W
open Go.Proofs
theorem lim_max {n:Nat} (h:n<=lim):n<=maxLen:=by unfold lim at h;unfold maxLen;omega
end Go.V.W
namespace Go.V.W
open Go.Proofs
def allB (p:Nat->Bool):Nat->Nat->Bool
 | 0,_=>true
 | m+1,i=>p i&&allB p m (i+1)
theorem allB_iff {p:Nat->Bool}:∀{m i:Nat},allB p m i=true ↔ ∀j,i<=j->j<i+m->p j=true:=by
 intro m
 induction m with
 | zero=>intro i;simp only [allB,true_iff];intro j h1 h2;omega
 | succ m ih=>
  intro i
  simp only [allB,Bool.and_eq_true,ih]
  constructor
  ·rintro ⟨h1,h2⟩ j h3 h4
   by_cases e:j=i
   ·subst e;exact h1
   ·exact h2 j (by omega) (by omega)
  ·intro h
   exact ⟨h i (Nat.le_refl _) (by omega),fun j h1 h2=>h j (by omega) (by omega)⟩
theorem loop_all {H O:Type} {L:Nat->H->Option O} {r:(H->Option O)->H->Option O} (hL:∀k d,L (k+1) d=r (L k) d) {n:Nat} {mk:Nat->H} {p:Nat->Bool} {o f:O}
  (hr:∀back i,i<n->r back (mk i)=if p i=true then back (mk (i+1)) else some o) (hf:∀back,r back (mk n)=some f) :
  ∀k i,i<=n->n<=i+k->L (k+1) (mk i)=some (if allB p (n-i) i=true then f else o):=by
 intro k
 induction k with
 | zero=>
  intro i h1 h2
  have e:i=n:=by omega
  subst e
  rw [hL,hf,Nat.sub_self]
  rfl
 | succ k ih=>
  intro i h1 h2
  by_cases h:i<n
  ·rw [hL,hr _ i h,show n-i=(n-(i+1))+1 by omega]
   simp only [allB]
   by_cases hp:p i=true
   ·simp only [hp,if_true,Bool.true_and]
    exact ih (i+1) (by omega) (by omega)
   ·simp only [Bool.not_eq_true] at hp
    simp only [hp,Bool.false_eq_true,if_false,Bool.false_and]
  ·have e:i=n:=by omega
   subst e
   rw [hL,hf,Nat.sub_self]
   rfl
theorem wrap_down {i:Nat} (h:0<i) (hn:i<=maxLen):IntKind.wrap .i64 ((i:Int)-1)=((i-1:Nat):Int):=by
 unfold maxLen at hn
 rw [Go.IntWalk.i64_in _ (by omega)]
 omega
theorem lt_dec {i n:Nat} (h:i<n):decide ((i:Int)<(n:Int))=true:=by simp;omega
theorem lt_not (n:Nat):decide ((n:Int)<(n:Int))=false:=by simp
theorem pos_dec {i:Nat}:decide ((i:Int)>(0:Int))=decide (0<i):=by simp
theorem bool_eq_iff {a b:Bool} (h:a=true↔b=true):a=b:=by cases a<;>cases b<;>simp_all
theorem all_at {e:Kd} (l:List e.den) (q:e.den->Bool):allB (fun i=>q (at_ e l i)) l.length 0=l.all q:=by
 apply bool_eq_iff
 rw [allB_iff,List.all_eq_true]
 constructor
 ·intro h x hx
  obtain ⟨i,hi,rfl⟩:=List.getElem_of_mem hx
  have:=h i (by omega) (by omega)
  rw [at_get hi] at this
  exact this
 ·intro h j _ hj
  have hj:j<l.length:=by omega
  rw [at_get hj]
  exact h _ (List.getElem_mem hj)
theorem risingB_iff:∀l:List Int,risingB l=true ↔ ∀j,0<j->j<l.length->at_ I l (j-1)<at_ I l j:=by
 intro l
 induction l with
 | nil=>simp only [risingB,true_iff];intro j _ h;exact absurd h (by simp)
 | cons a l ih=>
  cases l with
  | nil=>simp only [risingB,true_iff];intro j h1 h2;simp only [List.length_cons,List.length_nil] at h2;omega
  | cons b l=>
   simp only [risingB,Bool.and_eq_true,ih,decide_eq_true_eq]
   constructor
   ·rintro ⟨h1,h2⟩ j h3 h4
    by_cases e:j=1
    ·subst e;exact h1
    ·have:=h2 (j-1) (by omega) (by simp only [List.length_cons] at h4 |-;omega)
     obtain ⟨k,rfl⟩:∃k,j=k+2:=⟨j-2,by omega⟩
     exact this
   ·intro h
    refine ⟨h 1 (by omega) (by simp),fun j h1 h2 => ?_⟩
    have:=h (j+1) (by omega) (by simp only [List.length_cons] at h2 |-;omega)
    obtain ⟨k,rfl⟩:∃k,j=k+1:=⟨j-1,by omega⟩
    exact this
theorem risingE_iff:∀l:List E,risingE l=true ↔ ∀j,0<j->j<l.length->lessE (at_ K_Piiq l (j-1)) (at_ K_Piiq l j)=true:=by
 intro l
 induction l with
 | nil=>simp only [risingE,true_iff];intro j _ h;exact absurd h (by simp)
 | cons a l ih=>
  cases l with
  | nil=>simp only [risingE,true_iff];intro j h1 h2;simp only [List.length_cons,List.length_nil] at h2;omega
  | cons b l=>
   simp only [risingE,Bool.and_eq_true,ih]
   constructor
   ·rintro ⟨h1,h2⟩ j h3 h4
    by_cases e:j=1
    ·subst e;exact h1
    ·have:=h2 (j-1) (by omega) (by simp only [List.length_cons] at h4 |-;omega)
     obtain ⟨k,rfl⟩:∃k,j=k+2:=⟨j-2,by omega⟩
     exact this
   ·intro h
    refine ⟨h 1 (by omega) (by simp),fun j h1 h2 => ?_⟩
    have:=h (j+1) (by omega) (by simp only [List.length_cons] at h2 |-;omega)
    obtain ⟨k,rfl⟩:∃k,j=k+1:=⟨j-1,by omega⟩
    exact this
theorem l1In_eq (x lo hi:Int) (u:Unit):g_spec_l1In (x,lo,hi,u)=(inB lo hi x,()):=by
 unfold g_spec_l1In inB
 by_cases h:lo<=x<;>simp [h]
theorem within_eq (x lo hi:Int) (u:Unit):g_q92q (x,lo,hi,u)=(inB lo hi x,()):=by
 unfold g_q92q inB
 by_cases h:lo<=x<;>simp [h]
theorem l2Before_eq (a b:E) (u:Unit):g_q53q (a,b,u)=(lessE a b,()):=by
 obtain ⟨a1,a2,_⟩:=a
 obtain ⟨b1,b2,_⟩:=b
 unfold g_q53q lessE
 by_cases h:a1<b1
 ·simp [h]
 ·by_cases h2:a1=b1<;>simp [h,h2]
theorem cmpI_eq (a b:Int) (u:Unit):g_q41q (a,b,u)=(if a<b then -1 else if b<a then 1 else 0,()):=by
 unfold g_q41q g_q59q
 by_cases h:a<b
 ·simp [h]
 ·by_cases h2:b<a<;>simp [h,h2]
theorem l1Rising_lim (d) (r) (h:G_l1Rising d=some r):∃N,F_q58q N d=some r:=by
 obtain ⟨l,lo,hi,_⟩:=d
 unfold G_l1Rising at h
 split at h
 ·rename_i hl
  have hl:l.length<=lim:=of_decide_eq_true hl
  have hmx:=lim_max hl
  have h:=Option.some.inj h
  subst h
  refine ⟨l.length+1,?_⟩
  unfold F_q58q
  have:=loop_all (L:=q58q_l0 (l.length+1)) (r:=q58q_l0_r (l.length+1)) (fun _ _=>rfl) (n:=l.length) (mk:=fun i=>(l,lo,hi,(i:Int),())) (p:=fun i=>inB lo hi (at_ I l i)&&(!decide (0<i)||decide (at_ I l (i-1)<at_ I l i))) (o:=.inl (false,())) (f:=.inr (.inl ()))
   (by
    intro back i hi'
    unfold q58q_l0_r
    simp only [lt_dec hi',if_true,idxIn_nat hi',Int.toNat_natCast,wrap_up hi' hmx,l1In_eq,pos_dec]
    cases hb:inB lo hi (at_ I l i) with
    | false=>simp only [Bool.not_false,if_true,Bool.false_and,Bool.false_eq_true,if_false]
    | true=>
     simp only [Bool.not_true,Bool.false_eq_true,if_false,Bool.true_and]
     by_cases h0:0<i
     ·have h1:i-1<l.length:=by omega
      simp only [h0,decide_true,if_true,wrap_down h0 (show i<=maxLen by omega),idxIn_nat h1,Int.toNat_natCast,Bool.not_true,Bool.false_or]
      by_cases hc:at_ I l (i-1)<at_ I l i
      ·have hc':¬(at_ I l (i-1)>=at_ I l i):=Int.not_le.2 hc
       simp only [hc,hc',decide_true,decide_false,if_true,Bool.false_eq_true,if_false]
      ·have hc':(at_ I l (i-1)>=at_ I l i):=Int.not_lt.1 hc
       simp only [hc,hc',decide_true,decide_false,if_true,Bool.false_eq_true,if_false]
     ·simp only [h0,decide_false,Bool.false_eq_true,if_false,Bool.not_false,Bool.true_or,if_true])
   (by intro back;unfold q58q_l0_r;simp only [lt_not,Bool.false_eq_true,if_false]) l.length 0 (by omega) (by omega)
  simp only [Int.natCast_zero] at this
  simp only [this,Nat.sub_zero]
  have e:allB (fun i=>inB lo hi (at_ I l i)&&(!decide (0<i)||decide (at_ I l (i-1)<at_ I l i))) l.length 0=(l.all (inB lo hi)&&risingB l):=by
   rw [<- all_at (e:=I) l (inB lo hi)]
   apply bool_eq_iff
   rw [Bool.and_eq_true,allB_iff,allB_iff,risingB_iff]
   simp only [Bool.and_eq_true,Bool.or_eq_true,Bool.not_eq_true',decide_eq_true_eq,decide_eq_false_iff_not]
   constructor
   ·intro h
    exact ⟨fun j h1 h2=>(h j h1 h2).1,fun j h1 h2=>((h j (by omega) (by omega)).2).resolve_left (by omega)⟩
   ·rintro ⟨h1,h2⟩ j h3 h4
    refine ⟨h1 j h3 h4,?_⟩
    by_cases h0:0<j
    ·exact .inr (h2 j h0 (by omega))
    ·exact .inl h0
  simp only [e]
  cases (l.all (inB lo hi)&&risingB l)<;>rfl
 ·cases h
theorem increasing_lim (d) (r) (h:G_increasing d=some r):∃N,F_q33q N d=some r:=by
 obtain ⟨l,_⟩:=d
 unfold G_increasing at h
 split at h
 ·rename_i hl
  have hl:l.length<=lim:=of_decide_eq_true hl
  have hmx:=lim_max hl
  have h:=Option.some.inj h
  subst h
  refine ⟨l.length+1,?_⟩
  unfold F_q33q
  by_cases hz:l.length=0
  ·have:l=[]:=List.length_eq_zero_iff.1 hz
   subst this
   rfl
  ·have:=loop_all (L:=fun k d=>q33q_l0 (l.length+1) k d) (r:=q33q_l0_r (l.length+1)) (fun _ _=>rfl) (n:=l.length-1) (mk:=fun i=>(l,((i+1:Nat):Int),())) (p:=fun i=>decide (at_ I l i<at_ I l (i+1))) (o:=.inl (false,())) (f:=.inr (.inl ()))
    (by
     intro back i hi
     have h1:i+1<l.length:=by omega
     have h2:i<l.length:=by omega
     unfold q33q_l0_r
     simp only [lt_dec h1,if_true,wrap_down (show 0<i+1 by omega) (show i+1<=maxLen by omega),idxIn_nat h1,wrap_up h1 hmx,Nat.add_sub_cancel,idxIn_nat h2,Int.toNat_natCast]
     by_cases hc:at_ I l i<at_ I l (i+1)
     ·have hc':¬(at_ I l i>=at_ I l (i+1)):=Int.not_le.2 hc
      simp only [hc,hc',decide_true,decide_false,if_true,Bool.false_eq_true,if_false]
     ·have hc':(at_ I l i>=at_ I l (i+1)):=Int.not_lt.1 hc
      simp only [hc,hc',decide_true,decide_false,if_true,Bool.false_eq_true,if_false])
    (by
     intro back
     unfold q33q_l0_r
     have e:l.length-1+1=l.length:=by omega
     simp only [e,lt_not,Bool.false_eq_true,if_false]) l.length 0 (by omega) (by omega)
   simp only [Nat.zero_add,Int.natCast_one] at this
   simp only [this,Nat.sub_zero]
   have e:allB (fun i=>decide (at_ I l i<at_ I l (i+1))) (l.length-1) 0=risingB l:=by
    apply bool_eq_iff
    rw [allB_iff,risingB_iff]
    simp only [decide_eq_true_eq]
    constructor
    ·intro h j h1 h2
     have:=h (j-1) (by omega) (by omega)
     rwa [Nat.sub_add_cancel h1] at this
    ·intro h j h1 h2
     exact h (j+1) (by omega) (by omega)
   simp only [e]
   cases risingB l<;>rfl
 ·cases h
theorem allWithin_lim (d) (r) (h:G_allWithin d=some r):∃N,F_q49q N d=some r:=by
 obtain ⟨l,lo,hi,_⟩:=d
 unfold G_allWithin at h
 split at h
 ·rename_i hl
  have hl:l.length<=lim:=of_decide_eq_true hl
  have hmx:=lim_max hl
  have h:=Option.some.inj h
  subst h
  refine ⟨l.length+1,?_⟩
  unfold F_q49q
  have:=loop_all (L:=q49q_l0 (l.length+1)) (r:=q49q_l0_r (l.length+1)) (fun _ _=>rfl) (n:=l.length) (mk:=fun i=>(lo,hi,l,(l.length:Int),(i:Int),())) (p:=fun i=>inB lo hi (at_ I l i)) (o:=.inl (false,())) (f:=.inr (.inl ()))
   (by
    intro back i hi'
    unfold q49q_l0_r
    simp only [lt_dec hi',if_true,idxIn_nat hi',Int.toNat_natCast,wrap_up hi' hmx,within_eq]
    cases hb:inB lo hi (at_ I l i)<;>rfl)
   (by intro back;unfold q49q_l0_r;simp only [lt_not,Bool.false_eq_true,if_false]) l.length 0 (by omega) (by omega)
  simp only [Int.natCast_zero] at this
  simp only [this,Nat.sub_zero,all_at (e:=I) l (inB lo hi)]
  cases (l.all (inB lo hi))<;>rfl
 ·cases h
def cmpW:List Int->List Int->Option Int
 | [],_=>none
 | _::_,[]=>some 1
 | a::l,b::m=>if a<b then some (-1) else if b<a then some 1 else cmpW l m
theorem cmpL_W:∀l m:List Int,cmpL l m=match cmpW l m with
  | some r=>r
  | none=>if l.length<m.length then -1 else 0:=by
 intro l
 induction l with
 | nil=>intro m;cases m<;>simp [cmpL,cmpW]
 | cons a l ih=>
  intro m
  cases m with
  | nil=>simp [cmpL,cmpW]
  | cons b m=>
   simp only [cmpL,cmpW]
   by_cases ha:a<b
   ·simp [ha]
   ·by_cases hb:b<a
    ·simp [ha,hb]
    ·simp only [ha,hb,if_false,ih m,List.length_cons,Nat.add_lt_add_iff_right]
theorem compare_l0 (N:Nat) (l m:List Int) (hl:l.length<=lim) (hm:m.length<=lim):∀n i,l.length<=i+n->i<=l.length->i<=m.length->q5q_l0 N (n+1) (l,m,l,(l.length:Int),(i:Int),()) = 
  match cmpW (l.drop i) (m.drop i) with
  | some r=>some (.inl (r,()))
  | none=>some (.inr (.inl (l,m,()))):=by
 have hmx:=lim_max hl
 intro n
 induction n with
 | zero=>
  intro i h1 h2 h3
  have e:i=l.length:=by omega
  subst e
  rw [List.drop_of_length_le (Nat.le_refl l.length)]
  simp [q5q_l0,q5q_l0_r,cmpW]
 | succ n ih=>
  intro i h1 h2 h3
  by_cases hi:i<l.length
  ·show q5q_l0_r N (q5q_l0 N (n+1)) (l,m,l,(l.length:Int),(i:Int),())=_
   unfold q5q_l0_r
   simp only [lt_dec hi,if_true,idxIn_nat hi,Int.toNat_natCast,wrap_up hi hmx]
   rw [List.drop_eq_getElem_cons hi]
   by_cases hi':i<m.length
   ·have hge:decide ((i:Int)>=(m.length:Int))=false:=by simp;omega
    rw [List.drop_eq_getElem_cons hi']
    simp only [hge,Bool.false_eq_true,if_false,idxIn_nat hi',if_true,cmpI_eq,at_get (e:=I) hi,at_get (e:=I) (l:=m) hi',List.get_eq_getElem,cmpW]
    by_cases ha:l[i]<m[i]
    ·simp [ha]
    ·by_cases hb:m[i]<l[i]
     ·simp [ha,hb]
     ·simp only [ha,hb,if_false,bne_self_eq_false,Bool.false_eq_true]
      exact ih (i+1) (by omega) (by omega) (by omega)
   ·have hge:decide ((i:Int)>=(m.length:Int))=true:=by simp;omega
    rw [List.drop_of_length_le (Nat.le_of_not_lt hi')]
    simp only [hge,if_true,cmpW]
  ·have e:i=l.length:=by omega
   subst e
   rw [List.drop_of_length_le (Nat.le_refl l.length)]
   simp [q5q_l0,q5q_l0_r,cmpW]
theorem compare_lim (d) (r) (h:G_compare d=some r):∃N,F_q5q N d=some r:=by
 obtain ⟨l,m,_⟩:=d
 unfold G_compare at h
 split at h
 ·rename_i hl
  simp only [Bool.and_eq_true] at hl
  have hm:m.length<=lim:=of_decide_eq_true hl.2
  have hl:l.length<=lim:=of_decide_eq_true hl.1
  have h:=Option.some.inj h
  subst h
  refine ⟨l.length+1,?_⟩
  unfold F_q5q
  have:=compare_l0 (l.length+1) l m hl hm l.length 0 (by omega) (by omega) (by omega)
  simp only [Int.natCast_zero,List.drop_zero] at this
  simp only [this,cmpL_W]
  cases cmpW l m with
  | some r=>rfl
  | none=>
   by_cases hlt:l.length<m.length
   ·have:decide ((l.length:Int)<(m.length:Int))=true:=by simp;omega
    simp only [Option.bind_some,this,if_true,hlt]
   ·have:decide ((l.length:Int)<(m.length:Int))=false:=by simp;omega
    simp only [Option.bind_some,this,Bool.false_eq_true,if_false,hlt]
 ·cases h
theorem graph_allB (n:Int) (l:List E):allB (fun i=>edgeB n (at_ K_Piiq l i)&&(!decide (0<i)||lessE (at_ K_Piiq l (i-1)) (at_ K_Piiq l i))) l.length 0=(l.all (edgeB n)&&risingE l):=by
 rw [<- all_at (e:=K_Piiq) l (edgeB n)]
 apply bool_eq_iff
 rw [Bool.and_eq_true,allB_iff,allB_iff,risingE_iff]
 simp only [Bool.and_eq_true,Bool.or_eq_true,Bool.not_eq_true',decide_eq_false_iff_not]
 constructor
 ·intro h
  exact ⟨fun j h1 h2=>(h j h1 h2).1,fun j h1 h2=>((h j (by omega) (by omega)).2).resolve_left (by omega)⟩
 ·rintro ⟨h1,h2⟩ j h3 h4
  refine ⟨h1 j h3 h4,?_⟩
  by_cases h0:0<j
  ·exact .inr (h2 j h0 (by omega))
  ·exact .inl h0
theorem cmp2 (a b:E):decide (cmpL [a.1,a.2.1] [b.1,b.2.1]>=0) = !lessE a b:=by
 obtain ⟨a1,a2,_⟩:=a
 obtain ⟨b1,b2,_⟩:=b
 simp only [cmpL,lessE]
 by_cases h1:a1<b1
 ·simp [h1]
 ·by_cases h2:b1<a1
  ·have:¬a1=b1:=by omega
   simp [h1,h2,this]
  ·have e:a1=b1:=by omega
   subst e
   by_cases h3:a2<b2
   ·simp [h3]
   ·by_cases h4:b2<a2<;>simp [h3,h4]
theorem edge_eq (n a b:Int):(inB 0 (n-1) a&&inB 0 (n-1) b&&decide (a<b))=(decide (0<=a)&&decide (a<b)&&decide (b<n)):=by
 apply bool_eq_iff
 simp only [inB,Bool.and_eq_true,decide_eq_true_eq]
 omega
theorem okL2 (a b:Int):okL [a,b]=true:=decide_eq_true (show 2<=lim by unfold lim;omega)
theorem IsGraph_lim (d) (r) (h:G_graph d=some r):∃N,F_q71q N d=some r:=by
 obtain ⟨⟨n,l,u⟩,_⟩:=d
 unfold G_graph at h
 split at h
 ·rename_i hl
  have hl:l.length<=lim:=of_decide_eq_true hl
  have hmx:=lim_max hl
  have h:=Option.some.inj h
  subst h
  refine ⟨l.length+1,?_⟩
  unfold F_q71q
  simp only [within_eq,graphB]
  cases hn:inB 0 8 n with
  | false=>
   simp only [inB] at hn
   simp only [Bool.not_false,if_true,hn,Bool.false_and]
  | true=>
   have hn':=hn
   simp only [inB] at hn'
   simp only [Bool.not_true,Bool.false_eq_true,if_false,hn',Bool.true_and]
   have:=loop_all (L:=q71q_l0 (l.length+1)) (r:=q71q_l0_r (l.length+1)) (fun _ _=>rfl) (n:=l.length) (mk:=fun i=>((n,l,u),l,(l.length:Int),(i:Int),())) (p:=fun i=>edgeB n (at_ K_Piiq l i)&&(!decide (0<i)||lessE (at_ K_Piiq l (i-1)) (at_ K_Piiq l i))) (o:=.inl (false,())) (f:=.inr (.inl ()))
    (by
     intro back i hi
     unfold q71q_l0_r
     simp only [lt_dec hi,if_true,idxIn_nat hi,Int.toNat_natCast,wrap_up hi hmx,pos_dec]
     by_cases c1:(at_ K_Piiq l i).1<0
     ·have c1':¬(0<=(at_ K_Piiq l i).1):=Int.not_le.2 c1
      simp only [c1,decide_true,if_true,edgeB,c1',decide_false,Bool.false_and,Bool.false_eq_true,if_false]
     ·have c1':(0<=(at_ K_Piiq l i).1):=Int.not_lt.1 c1
      by_cases c2:(at_ K_Piiq l i).1<(at_ K_Piiq l i).2.1
      ·have c2':¬((at_ K_Piiq l i).1>=(at_ K_Piiq l i).2.1):=Int.not_le.2 c2
       by_cases c3:(at_ K_Piiq l i).2.1<n
       ·have c3':¬((at_ K_Piiq l i).2.1>=n):=Int.not_le.2 c3
        by_cases h0:0<i
        ·have h1:i-1<l.length:=by omega
         simp only [c1,c1',c2,c2',c3,c3',edgeB,decide_true,decide_false,if_true,if_false,Bool.false_eq_true,Bool.true_and,h0,wrap_down h0 (show i<=maxLen by omega),idxIn_nat h1,Int.toNat_natCast,Bool.not_true,Bool.false_or,G_compare,okL2,Option.bind_some,cmp2]
         cases lessE (at_ K_Piiq l (i-1)) (at_ K_Piiq l i)<;>rfl
        ·simp only [c1,c1',c2,c2',c3,c3',edgeB,decide_true,decide_false,if_true,if_false,Bool.false_eq_true,Bool.true_and,h0,Bool.not_false,Bool.true_or]
       ·have c3':((at_ K_Piiq l i).2.1>=n):=Int.not_lt.1 c3
        simp only [c1,c1',c2,c2',c3,c3',edgeB,decide_true,decide_false,if_true,if_false,Bool.false_eq_true,Bool.and_false,Bool.false_and]
      ·have c2':((at_ K_Piiq l i).1>=(at_ K_Piiq l i).2.1):=Int.not_lt.1 c2
       simp only [c1,c1',c2,c2',edgeB,decide_true,decide_false,if_true,if_false,Bool.false_eq_true,Bool.and_false,Bool.false_and])
    (by intro back;unfold q71q_l0_r;simp only [lt_not,Bool.false_eq_true,if_false]) l.length 0 (by omega) (by omega)
   simp only [Int.natCast_zero] at this
   simp only [this,Nat.sub_zero,graph_allB]
   cases (l.all (edgeB n)&&risingE l)<;>rfl
 ·cases h
theorem l2Good_lim (d) (r) (h:G_graph d=some r):∃N,F_q94q N d=some r:=by
 obtain ⟨⟨n,l,u⟩,_⟩:=d
 unfold G_graph at h
 split at h
 ·rename_i hl
  have hl:l.length<=lim:=of_decide_eq_true hl
  have hmx:=lim_max hl
  have h:=Option.some.inj h
  subst h
  refine ⟨l.length+1,?_⟩
  unfold F_q94q
  have:=loop_all (L:=q94q_l0 (l.length+1)) (r:=q94q_l0_r (l.length+1)) (fun _ _=>rfl) (n:=l.length) (mk:=fun i=>((n,l,u),(i:Int),())) (p:=fun i=>(inB 0 (IntKind.wrap .i64 (n-1)) (at_ K_Piiq l i).1&&inB 0 (IntKind.wrap .i64 (n-1)) (at_ K_Piiq l i).2.1&&decide ((at_ K_Piiq l i).1<(at_ K_Piiq l i).2.1))&&(!decide (0<i)||lessE (at_ K_Piiq l (i-1)) (at_ K_Piiq l i))) (o:=.inl (false,())) (f:=.inr (.inl ((n,l,u),())))
    (by
     intro back i hi
     unfold q94q_l0_r
     simp only [lt_dec hi,if_true,idxIn_nat hi,Int.toNat_natCast,wrap_up hi hmx,pos_dec,l1In_eq,l2Before_eq]
     cases c1:inB 0 (IntKind.wrap .i64 (n-1)) (at_ K_Piiq l i).1 with
     | false=>rfl
     | true=>
      cases c2:inB 0 (IntKind.wrap .i64 (n-1)) (at_ K_Piiq l i).2.1 with
      | false=>rfl
      | true=>
       by_cases c3:(at_ K_Piiq l i).1<(at_ K_Piiq l i).2.1
       ·have c3':¬((at_ K_Piiq l i).1>=(at_ K_Piiq l i).2.1):=Int.not_le.2 c3
        by_cases h0:0<i
        ·have h1:i-1<l.length:=by omega
         simp only [c3,c3',decide_true,decide_false,if_true,if_false,Bool.false_eq_true,Bool.true_and,h0,wrap_down h0 (show i<=maxLen by omega),idxIn_nat h1,Int.toNat_natCast,Bool.not_true,Bool.false_or]
         cases lessE (at_ K_Piiq l (i-1)) (at_ K_Piiq l i)<;>rfl
        ·simp only [c3,c3',decide_true,decide_false,if_true,if_false,Bool.false_eq_true,Bool.true_and,h0,Bool.not_false,Bool.true_or,Bool.not_true]
       ·have c3':((at_ K_Piiq l i).1>=(at_ K_Piiq l i).2.1):=Int.not_lt.1 c3
        simp only [c3,c3',decide_true,decide_false,if_true,if_false,Bool.false_eq_true,Bool.true_and,Bool.false_and,Bool.not_true])
    (by intro back;unfold q94q_l0_r;simp only [lt_not,Bool.false_eq_true,if_false]) l.length 0 (by omega) (by omega)
  simp only [Int.natCast_zero] at this
  simp only [this,Nat.sub_zero,graphB]
  cases hn:inB 0 8 n with
  | false=>
   have hn':=hn
   simp only [inB] at hn'
   simp only [hn',Bool.false_and]
   split<;>simp [l1In_eq,hn]
  | true=>
   have hn':=hn
   simp only [inB] at hn'
   simp only [hn',Bool.true_and]
   simp only [Bool.and_eq_true,decide_eq_true_eq] at hn'
   have hw:IntKind.wrap .i64 (n-1)=n-1:=wrap_in _ (by omega) (by omega)
   have hp:(fun i=>(inB 0 (IntKind.wrap .i64 (n-1)) (at_ K_Piiq l i).1&&inB 0 (IntKind.wrap .i64 (n-1)) (at_ K_Piiq l i).2.1&&decide ((at_ K_Piiq l i).1<(at_ K_Piiq l i).2.1))&&(!decide (0<i)||lessE (at_ K_Piiq l (i-1)) (at_ K_Piiq l i)))=(fun i=>edgeB n (at_ K_Piiq l i)&&(!decide (0<i)||lessE (at_ K_Piiq l (i-1)) (at_ K_Piiq l i))):=by
    funext i
    congr 1
    rw [hw]
    exact edge_eq n _ _
   simp only [hp,graph_allB]
   cases (l.all (edgeB n)&&risingE l)<;>simp [l1In_eq,hn]
 ·cases h
end Go.V.W
namespace Go.V.W
open Go.Proofs
theorem okL_of {α:Type} {l:List α} (h:l.length<=1048576):okL l=true:=decide_eq_true (by unfold lim;omega)
theorem graphB_n {n:Int} {l:List E} {u:Unit} (h:graphB (n,l,u)=true):0<=n/\n<=8:=by
 unfold graphB at h
 simp only [Bool.and_eq_true,decide_eq_true_eq] at h
 exact ⟨h.1.1.1,h.1.1.2⟩
theorem specW (n:Int) (l:List E) (v:Unit) (p q:Int) (m:List Int) (t:Int) (u w:Unit) (hl:okL l=true) (hm:okL m=true):F_q32q 0 (((n,l,v),p,q,m,t,u),w)=some (workB ((n,l,v),p,q,m,t,u),()):=by
 unfold F_q32q F_q75q workB F_spec_l2Set G_l1Rising G_graph g_q80q
 simp only [hl,hm,if_true,Option.bind_some,l1In_eq]
 cases hg:graphB (n,l,v) with
 | false=>rfl
 | true=>
  have:=graphB_n hg
  have hw:IntKind.wrap .i64 (n-1)=n-1:=wrap_in _ (by omega) (by omega)
  simp only [hw,if_true,Bool.true_and]
  cases inB (-1) (n-1) p<;>cases inB (-1) (n-1) q<;>cases (m.all (inB 0 (n-1))&&risingB m)<;>simp
theorem implW (n:Int) (l:List E) (v:Unit) (p q:Int) (m:List Int) (t:Int) (u w:Unit) (hl:okL l=true) (hm:okL m=true):F_q38q 0 (((n,l,v),p,q,m,t,u),w)=some (workB ((n,l,v),p,q,m,t,u),()):=by
 unfold F_q38q F_impl_isSet F_q61q workB G_allWithin G_increasing G_graph
 simp only [hl,hm,if_true,Option.bind_some,within_eq]
 cases hg:graphB (n,l,v) with
 | false=>rfl
 | true=>
  have:=graphB_n hg
  have hw:IntKind.wrap .i64 (n-1)=n-1:=wrap_in _ (by omega) (by omega)
  simp only [hw,if_true,Bool.true_and,Option.bind_some]
  cases inB (-1) (n-1) p<;>cases inB (-1) (n-1) q<;>cases m.all (inB 0 (n-1))<;>cases risingB m<;>simp
end Go.V.W
namespace Go.V.W
open Go.Proofs
theorem cloneA2_lim (d) (r) (h:G_toIntA2S d=some r):∃N,F_q4q N d=some r:=by
 obtain ⟨l,_⟩:=d
 unfold G_toIntA2S at h
 split at h
 ·rename_i hl
  have hl:l.length<=lim:=of_decide_eq_true hl
  have h:=Option.some.inj h
  subst h
  refine ⟨0,?_⟩
  unfold F_q4q
  have h1:decide (List.length ([]:List E)+l.length<=lim)=true:=by simp [hl]
  simp only [h1,if_true,List.nil_append]
  split
  ·rename_i h0
   have:l=[]:=List.length_eq_zero_iff.1 (of_decide_eq_true h0)
   subst this
   simp [both]
  ·rfl
 ·cases h
end Go.V.W
namespace Go.V.W
open Go.Proofs
def newW (n:Int) (l:List E) (v:Unit):Wk×Bool×Unit:=if graphB (n,l,v)=true then (((n,l,()),-1,-1,[],0,()),true,()) else (((0,[],()),0,0,[],0,()),false,())
theorem okL_nil {α:Type}:okL ([]:List α)=true:=decide_eq_true (by simp)
theorem okL_lim {α:Type} {l:List α} (h:okL l=true):l.length<=lim:=of_decide_eq_true h
theorem specNew (n:Int) (l:List E) (v w:Unit) (hl:okL l=true):F_q26q 0 ((n,l,v),w)=some (newW n l v):=by
 unfold F_q26q
 have h1:=specW n l v (-1) (-1) [] 0 () () hl okL_nil
 unfold F_q32q at h1
 rw [Option.bind_eq_some_iff] at h1
 obtain ⟨⟨b,u⟩,h2,h3⟩:=h1
 simp only [Option.some.injEq,Prod.mk.injEq,and_true] at h3
 subst h3
 have hlim:decide (List.length ([]:List E)+l.length<=lim)=true:=by have:=okL_lim hl;simp [this]
 have hlim2:decide (List.length ([]:List Int)+List.length ([]:List Int)<=lim)=true:=by simp
 simp only [h2,Option.bind_some]
 have hb:workB ((n,l,v),-1,-1,[],0,())=graphB (n,l,v):=by
  unfold workB
  cases hg:graphB (n,l,v) with
  | false=>rfl
  | true=>
   have:=graphB_n hg
   have e:inB (-1) (n-1) (-1)=true:=by unfold inB;simp;omega
   simp only [e,List.all_nil,risingB,Bool.and_self,Bool.true_and]
   decide
 rw [hb]
 unfold newW
 cases hg:graphB (n,l,v) with
 | false=>rfl
 | true=>
  simp only [Bool.not_true,Bool.false_eq_true,if_false,if_true]
  unfold F_q88q F_spec_l1Own
  simp only [hlim,hlim2,if_true,Option.bind_some,List.nil_append]
theorem implNew (n:Int) (l:List E) (v w:Unit) (hl:okL l=true):F_q20q 0 ((n,l,v),w)=some (newW n l v):=by
 unfold F_q20q G_graph G_toIntA2S newW
 simp only [hl,if_true,Option.bind_some]
 cases hg:graphB (n,l,v)<;>rfl
end Go.V.W
namespace Go.V.W
open Go.Proofs
theorem all_at_of {e:Kd} {l:List e.den} {q:e.den->Bool} (h:l.all q=true) {i:Nat} (hi:i<l.length):q (at_ e l i)=true:=by
 rw [at_get hi]
 exact List.all_eq_true.1 h _ (List.get_mem l ⟨i,hi⟩)
theorem loop_idx {H O:Type} {L:Nat->H->Option O} {r:(H->Option O)->H->Option O} (hL:∀k d,L (k+1) d=r (L k) d) {e:Kd} (l:List e.den) {mk:Nat->H} {q:e.den->Bool} {o:Nat->O} {f:O}
  (hr:∀back i,i<l.length->r back (mk i)=if q (at_ e l i)=true then some (o i) else back (mk (i+1))) (hf:∀back,r back (mk l.length)=some f) :
  ∀k i,i<=l.length->l.length<=i+k->L (k+1) (mk i)=some (match idxN q (l.drop i) i with | some j=>o j | none=>f):=by
 intro k
 induction k with
 | zero=>
  intro i h1 h2
  have e:i=l.length:=by omega
  subst e
  rw [hL,hf,List.drop_of_length_le (Nat.le_refl _)]
  rfl
 | succ k ih=>
  intro i h1 h2
  by_cases h:i<l.length
  ·rw [hL,hr _ i h,List.drop_eq_getElem_cons h]
   simp only [idxN]
   have e:at_ e l i=l[i]:=at_get h
   rw [e]
   by_cases hq:q l[i]=true
   ·simp only [hq,if_true]
   ·simp only [hq,if_false]
    exact ih (i+1) (by omega) (by omega)
  ·have e:i=l.length:=by omega
   subst e
   rw [hL,hf,List.drop_of_length_le (Nat.le_refl _)]
   rfl
theorem idxI_ge {α:Type} (q:α->Bool):∀(l:List α) (i:Nat),decide (idxI (idxN q l i)>=0)=l.any q:=by
 intro l
 induction l with
 | nil=>intro i;rfl
 | cons x l ih=>
  intro i
  simp only [idxN,List.any_cons]
  by_cases h:q x=true
  ·simp [h,idxI]
  ·have h':q x=false:=by simpa using h
   simp only [h,if_false,h',Bool.false_or,ih]
   exact ih (i+1)
theorem okLL_small {l:List (List Int)} (h1:l.length<=1048576) (h2:l.all (fun x=>decide (x.length<=1048576))=true):okLL l=true:=by
 unfold okLL
 rw [Bool.and_eq_true]
 exact ⟨okL_of h1,List.all_eq_true.2 fun x hx=>okL_of (of_decide_eq_true (List.all_eq_true.1 h2 x hx))⟩
end Go.V.W
namespace Go.V.W
open Go.Proofs
theorem edge_nat {n:Nat} {e:E} (h:edgeB (n:Int) e=true):∃a b:Nat,a<b/\b<n/\e=((a:Int),(b:Int),()):=by
 obtain ⟨h1,h2,h3,h4⟩:=edgeB_nat h
 exact ⟨_,_,h1,h2,by rw [<- h3,<- h4]⟩
theorem toI_zero (n:Nat):List.replicate n (0:Int)=toI (List.replicate n 0):=by simp [toI]
theorem nonneg_dec (y:Nat):decide (0<=(y:Int))=true:=by simp
theorem netOf_l0 (N:Nat) (n:Nat) (hn:n<=8) (z:Nt) (u:Unit) (es:List E) (hl:es.length<=lim) (he:es.all (edgeB (n:Int))=true):∀k j (ms:List Nat),okN n ms->es.length<=j+k->j<=es.length ->
  impl_netOf_l0 N (k+1) (z,(toI ms,u),es,(es.length:Int),(j:Int),())=some (.inl (z,(toI ((es.drop j).foldl addN ms),u),())):=by
 intro k
 induction k with
 | zero=>
  intro j ms hm h1 h2
  have e:j=es.length:=by omega
  subst e
  rw [List.drop_of_length_le (Nat.le_refl _)]
  simp [impl_netOf_l0,impl_netOf_l0_r]
 | succ k ih=>
  intro j ms hm h1 h2
  by_cases hj:j<es.length
  ·have hee:edgeB (n:Int) (at_ K_Piiq es j)=true:=all_at_of (e:=K_Piiq) he hj
   have hat:at_ K_Piiq es j=es[j]:=at_get (e:=K_Piiq) hj
   obtain ⟨a,b,hab,hb,hx⟩:=edge_nat hee
   have k1:=addN_ok hn hm hee
   have ha8:a<8:=by omega
   have hb8:b<8:=by omega
   have o1:=orN_ok hm (show a<n by omega) hb8
   show impl_netOf_l0_r N (impl_netOf_l0 N (k+1)) (z,(toI ms,u),es,(es.length:Int),(j:Int),())=_
   unfold impl_netOf_l0_r
   have i1:idxIn (a:Int) ms.length=true:=idxIn_nat (by rw [hm.1];omega)
   have i2:idxIn (b:Int) ms.length=true:=idxIn_nat (by rw [hm.1];omega)
   have p1:=pow_small hb8
   have p2:=pow_small ha8
   simp only [lt_dec hj,if_true,idxIn_nat hj,Int.toNat_natCast,wrap_up hj (lim_max hl),hx,toI_len,i1,i2,nonneg_dec,shl_one hb8,shl_one ha8,at_toI,bits_or (hm.2 a) p1,toI_set,List.length_set]
   have hb2:(ms.set a (ms.getD a 0|||2 ^ b)).getD b 0<256:=o1.2 b
   simp only [bits_or hb2 p2,toI_set]
   rw [List.drop_eq_getElem_cons hj,List.foldl_cons,<- hat,hx]
   have hadd:addN ms ((a:Int),(b:Int),())=(ms.set a (ms.getD a 0|||2 ^ b)).set b ((ms.set a (ms.getD a 0|||2 ^ b)).getD b 0|||2 ^ a):=by
    simp only [addN,orN,Int.toNat_natCast]
   rw [hx] at k1
   rw [hadd] at k1 |-
   exact ih (j+1) _ k1 (by omega) (by omega)
  ·have e:j=es.length:=by omega
   subst e
   rw [List.drop_of_length_le (Nat.le_refl _)]
   simp [impl_netOf_l0,impl_netOf_l0_r]
theorem netOf_lim (d) (r) (h:G_netOf d=some r):∃N,F_impl_netOf N d=some r:=by
 obtain ⟨⟨n,es,u⟩,w⟩:=d
 unfold G_netOf at h
 split at h
 ·rename_i hc
  simp only [Bool.and_eq_true,decide_eq_true_eq] at hc
  obtain ⟨⟨⟨h0,h8⟩,hl⟩,he⟩:=hc
  have h:=Option.some.inj h
  subst h
  obtain ⟨m,rfl⟩:∃m:Nat,n=(m:Int):=⟨n.toNat,by omega⟩
  have hm8:m<=8:=by omega
  refine ⟨es.length+1,?_⟩
  unfold F_impl_netOf
  have hc:(decide (0<=(m:Int))&&decide ((m:Int)<=(m:Int))&&decide ((m:Int)<=(lim:Int)))=true:=by
   have a1:(m:Int)<=(lim:Int):=by unfold lim;omega
   simp only [a1,nonneg_dec,decide_true,Bool.and_self,Int.le_refl]
  have:=netOf_l0 (es.length+1) m hm8 (([]:List Int),()) () es (okL_lim hl) he es.length 0 _ (okN_zero m) (by omega) (by omega)
  simp only [Int.natCast_zero,List.drop_zero] at this
  simp only [hc,if_true,Int.toNat_natCast,toI_zero,this,Option.bind_some]
  rfl
 ·cases h
theorem l1Has_lim (d) (r) (h:G_l1Has d=some r):∃N,F_spec_l1Has N d=some r:=by
 obtain ⟨l,x,_⟩:=d
 unfold G_l1Has at h
 split at h
 ·rename_i hl
  have hl:l.length<=lim:=okL_lim hl
  have h:=Option.some.inj h
  subst h
  refine ⟨l.length+1,?_⟩
  unfold F_spec_l1Has
  have:=loop_idx (L:=spec_l1Has_l0 (l.length+1)) (r:=spec_l1Has_l0_r (l.length+1)) (fun _ _=>rfl) (e:=I) l (mk:=fun i=>(l,x,(i:Int),())) (q:=fun y=>y==x) (o:=fun _=>.inl (true,())) (f:=.inr (.inl ()))
   (by
    intro back i hi
    unfold spec_l1Has_l0_r
    simp only [lt_dec hi,if_true,idxIn_nat hi,Int.toNat_natCast,wrap_up hi (lim_max hl)])
   (by intro back;unfold spec_l1Has_l0_r;simp only [lt_not,Bool.false_eq_true,if_false]) l.length 0 (by omega) (by omega)
  simp only [Int.natCast_zero,List.drop_zero] at this
  have hge:=idxI_ge (fun y=>y==x) l 0
  simp only [this,Option.bind_some,<- hge]
  cases idxN (fun y=>y==x) l 0 with
  | none=>rfl
  | some j=>simp [idxI]
 ·cases h
theorem inB_iff {lo hi x:Int}:inB lo hi x=true↔lo<=x/\x<=hi:=by simp [inB]
theorem graphB_edges {n:Int} {l:List E} {u:Unit} (h:graphB (n,l,u)=true):l.all (edgeB n)=true/\risingE l=true:=by
 unfold graphB at h
 simp only [Bool.and_eq_true] at h
 exact ⟨h.1.2,h.2⟩
end Go.V.W
namespace Go.V.W
open Go.Proofs
theorem smallN_nat {l:List Int} (h:smallN l=true):l=toI (fromI l)/\okN l.length (fromI l)/\l.length<=8:=by
 unfold smallN at h
 simp only [Bool.and_eq_true,decide_eq_true_eq,List.all_eq_true] at h
 refine ⟨?_,⟨by simp [fromI],fun x => ?_⟩,h.1⟩
 ·unfold toI fromI
  rw [List.map_map]
  have:∀m∈l,((fun m:Nat=>(m:Int))∘Int.toNat) m=m:=fun m hm=>by
   have:=h.2 m hm
   simp only [Function.comp]
   omega
  exact (List.map_congr_left this).trans (List.map_id' l) |>.symm
 ·unfold fromI
  simp only [List.getD_eq_getElem?_getD,List.getElem?_map]
  cases hx:l[x]? with
  | none=>simp
  | some m=>
   have:=h.2 m (List.mem_of_getElem? hx)
   simp only [Option.map_some,Option.getD_some]
   omega
theorem hasV (ms:List Nat) (n:Nat) (hm:okN n ms) (hn:n<=8) (u v w z:Unit) (x y:Nat) (hx:x<n) (hy:y<n):FV_q63q ((x:Int),(y:Int),(((toI ms,u),v),w),z)=some (hasN ms x y,()):=by
 unfold FV_q63q F_q63q
 have i1:idxIn (x:Int) ms.length=true:=idxIn_nat (by rw [hm.1];exact hx)
 simp only [toI_len,i1,if_true,nonneg_dec,Int.toNat_natCast,at_toI,has_bit (hm.2 x) (show y<8 by omega)]
 rfl
theorem rowE_len {p:Nat->Nat->Bool} {x:Nat}:∀{m y:Nat},(rowE p x m y).length<=m:=by
 intro m
 induction m with
 | zero=>intro y;simp [rowE]
 | succ m ih=>
  intro y
  unfold rowE
  split
  ·have:=ih (y:=y+1);simp;omega
  ·have:=ih (y:=y+1);omega
theorem graphBy_l2 (N:Nat) (ms:List Nat) (n:Nat) (hm:okN n ms) (hn:n<=8) (u v w:Unit) (z:Gr) (n':Int) (x:Nat) (hx:x<n) (s10 s11:Int):∀k y f (A:List E),y+k=n->k<f->A.length+k<=1000 ->
  q3q_l2 N f ((n:Int),(((toI ms,u),v),w),z,(n',A,()),(x:Int),(y:Int),s10,s11,())=some (.inl ((n:Int),(((toI ms,u),v),w),z,(n',A++rowE (hasN ms) x k y,()),s10,s11,())):=by
 intro k
 induction k with
 | zero=>
  intro y f A h1 h2 h3
  obtain ⟨f,rfl⟩:∃m,f=m+1:=⟨f-1,by omega⟩
  have e:y=n:=by omega
  subst e
  simp [q3q_l2,q3q_l2_r,rowE]
 | succ k ih=>
  intro y f A h1 h2 h3
  obtain ⟨f,rfl⟩:∃m,f=m+1:=⟨f-1,by omega⟩
  have hy:y<n:=by omega
  show q3q_l2_r N (q3q_l2 N f) ((n:Int),(((toI ms,u),v),w),z,(n',A,()),(x:Int),(y:Int),s10,s11,())=_
  unfold q3q_l2_r
  have hw:IntKind.wrap .i64 ((y:Int)+1)=((y+1:Nat):Int):=by
   rw [wrap_in _ (by omega) (by omega)]
   rfl
  have hle:decide (A.length+List.length [(((x:Int),(y:Int),()):E)]<=lim)=true:=by
   unfold lim
   simp
   omega
  simp only [lt_dec hy,if_true,hasV ms n hm hn u v w () x y hx hy,Option.bind_some,hle,hw]
  unfold rowE
  by_cases hh:hasN ms x y=true
  ·rw [if_pos hh,if_pos hh,ih (y+1) f _ (by omega) (by omega) (by simp;omega)]
   simp
  ·rw [if_neg hh,if_neg hh]
   exact ih (y+1) f A (by omega) (by omega) (by omega)
theorem graphBy_l0 (N:Nat) (hN:9<=N) (ms:List Nat) (n:Nat) (hm:okN n ms) (hn:n<=8) (u v w:Unit) (z:Gr) (n':Int):∀k x f (A:List E),x+k=n->k<f->A.length+10*k<=900 ->
  q3q_l0 N f ((n:Int),(((toI ms,u),v),w),z,(n',A,()),(n:Int),(x:Int),())=some (.inl (z,(n',A++allE (hasN ms) n k x,()),())):=by
 intro k
 induction k with
 | zero=>
  intro x f A h1 h2 h3
  obtain ⟨f,rfl⟩:∃m,f=m+1:=⟨f-1,by omega⟩
  have e:x=n:=by omega
  subst e
  simp [q3q_l0,q3q_l0_r,allE]
 | succ k ih=>
  intro x f A h1 h2 h3
  obtain ⟨f,rfl⟩:∃m,f=m+1:=⟨f-1,by omega⟩
  have hx:x<n:=by omega
  show q3q_l0_r N (q3q_l0 N f) ((n:Int),(((toI ms,u),v),w),z,(n',A,()),(n:Int),(x:Int),())=_
  unfold q3q_l0_r
  have hw:IntKind.wrap .i64 ((x:Int)+1)=((x+1:Nat):Int):=by
   rw [wrap_in _ (by omega) (by omega)]
   rfl
  have hin:=graphBy_l2 N ms n hm hn u v w z n' x hx (n:Int) (x:Int) (n-(x+1)) (x+1) N A (by omega) (by omega) (by omega)
  simp only [lt_dec hx,if_true,hw,hin,Option.bind_some]
  have:=rowE_len (p:=hasN ms) (x:=x) (m:=n-(x+1)) (y:=x+1)
  rw [ih (x+1) f _ (by omega) (by omega) (by simp;omega)]
  simp [allE]
theorem graphBy135_lim (d) (r) (h:G_graphBy135 d=some r):∃N,F_q3q N d=some r:=by
 obtain ⟨n',⟨⟨⟨l,u⟩,v⟩,w⟩,q⟩:=d
 unfold G_graphBy135 at h
 split at h
 ·rename_i hc
  simp only [Bool.and_eq_true,decide_eq_true_eq] at hc
  obtain ⟨h1,h2⟩:=hc
  obtain ⟨e,hm,h8⟩:=smallN_nat h1
  have h:=Option.some.inj h
  subst h
  have h2:n'=(l.length:Int):=h2
  subst h2
  refine ⟨20,?_⟩
  unfold F_q3q
  have:=graphBy_l0 20 (by omega) (fromI l) l.length hm h8 u v w (0,[],()) (l.length:Int) l.length 0 20 [] (by omega) (by omega) (by simp;omega)
  rw [<- e] at this
  simp only [Int.natCast_zero,List.nil_append] at this
  simp only [this,Option.bind_some,Int.toNat_natCast]
 ·cases h
end Go.V.W
namespace Go.V.W
theorem setF_congr {p q:Nat->Bool}:∀{k x:Nat},(∀y,x<=y->y<x+k->p y=q y)->setF p k x=setF q k x:=by
 intro k
 induction k with
 | zero=>intro x _;rfl
 | succ k ih=>
  intro x h
  simp only [setF,h x (Nat.le_refl _) (by omega),ih (x:=x+1) fun y h1 h2=>h y (by omega) (by omega)]
theorem setF_mem {p:Nat->Bool}:∀{k x:Nat} {z:Int},z∈setF p k x ↔ ∃y:Nat,x<=y/\y<x+k/\p y=true/\z=(y:Int):=by
 intro k
 induction k with
 | zero=>intro x z;simp only [setF,List.not_mem_nil,false_iff];rintro ⟨y,h1,h2,_⟩;omega
 | succ k ih=>
  intro x z
  unfold setF
  by_cases h:p x=true
  ·rw [if_pos h,List.mem_cons,ih]
   constructor
   ·rintro (rfl | ⟨y,h1,h2,h3,h4⟩)
    ·exact ⟨x,Nat.le_refl _,by omega,h,rfl⟩
    ·exact ⟨y,by omega,by omega,h3,h4⟩
   ·rintro ⟨y,h1,h2,h3,h4⟩
    by_cases e:y=x
    ·subst e;exact .inl h4
    ·exact .inr ⟨y,by omega,by omega,h3,h4⟩
  ·rw [if_neg h,ih]
   constructor
   ·rintro ⟨y,h1,h2,h3,h4⟩
    exact ⟨y,by omega,by omega,h3,h4⟩
   ·rintro ⟨y,h1,h2,h3,h4⟩
    by_cases e:y=x
    ·subst e;exact absurd h3 h
    ·exact ⟨y,by omega,by omega,h3,h4⟩
theorem setF_len {p:Nat->Bool}:∀{k x:Nat},(setF p k x).length<=k:=by
 intro k
 induction k with
 | zero=>intro x;simp [setF]
 | succ k ih=>
  intro x
  unfold setF
  split
  ·have:=ih (x:=x+1);simp;omega
  ·have:=ih (x:=x+1);omega
theorem putL_low {p:Nat->Bool} {z:Nat}:∀{k y:Nat},z<y->putL (z:Int) (setF p k y)=(z:Int)::setF p k y:=by
 intro k
 induction k with
 | zero=>intro y _;rfl
 | succ k ih=>
  intro y h
  unfold setF
  split
  ·have h1:¬(y:Int)<(z:Int):=by omega
   have h2:¬(y:Int)=(z:Int):=by omega
   simp only [putL,h1,h2,if_false]
  ·exact ih (by omega)
theorem putL_set {p:Nat->Bool} {z:Nat}:∀{k x:Nat},x<=z->z<x+k->putL (z:Int) (setF p k x)=setF (fun y=>p y||decide (y=z)) k x:=by
 intro k
 induction k with
 | zero=>intro x h1 h2;omega
 | succ k ih=>
  intro x h1 h2
  by_cases e:x=z
  ·subst e
   have hc:setF (fun y=>p y||decide (y=x)) k (x+1)=setF p k (x+1):=setF_congr fun y h1 h2=>by
    have:¬y=x:=by omega
    simp [this]
   by_cases hp:p x=true
   ·simp only [setF,hp,if_true,decide_true,Bool.or_self,hc,putL]
    have:¬(x:Int)<(x:Int):=by omega
    simp only [this,if_false,if_true]
   ·have hp':p x=false:=by simpa using hp
    simp only [setF,hp',Bool.false_eq_true,if_false,decide_true,Bool.or_true,if_true,hc]
    exact putL_low (by omega)
  ·have hd:decide (x=z)=false:=by simp [e]
   have hlt:(x:Int)<(z:Int):=by omega
   by_cases hp:p x=true
   ·simp only [setF,hp,if_true,hd,Bool.or_false,putL,hlt,ih (x:=x+1) (by omega) (by omega)]
   ·have hp':p x=false:=by simpa using hp
    simp only [setF,hp',hd,Bool.or_false,Bool.false_eq_true,if_false,ih (x:=x+1) (by omega) (by omega)]
theorem any_setF {p:Nat->Bool} {n y:Nat} (hy:y<n):(setF p n 0).any (fun z=>z==(y:Int))=p y:=by
 apply Bool.eq_iff_iff.2
 rw [List.any_eq_true]
 constructor
 ·rintro ⟨z,hz,h⟩
  obtain ⟨u,_,h2,h3,rfl⟩:=setF_mem.1 hz
  have:(u:Int)=(y:Int):=by simpa using h
  have:u=y:=by omega
  subst this
  exact h3
 ·intro h
  exact ⟨(y:Int),setF_mem.2 ⟨y,Nat.zero_le _,by omega,h,rfl⟩,by simp⟩
theorem ballL_set {n:Nat} {es:List E} {x:Nat} (hx:x<n):ballL n es (x:Int)=setF (fun y=>nearI es (x:Int) (y:Int)||decide (y=x)) n 0:=by
 unfold ballL
 exact putL_set (Nat.zero_le _) (by omega)
theorem setF_nat {p:Nat->Bool} {n:Nat}:∀z∈setF p n 0,∃y:Nat,y<n/\z=(y:Int):=by
 intro z hz
 obtain ⟨y,_,h2,_,h4⟩:=setF_mem.1 hz
 exact ⟨y,by omega,h4⟩
theorem setF_empty {n x:Nat}:setF (fun _=>false) n x=[]:=by
 induction n generalizing x with
 | zero=>rfl
 | succ n ih=>simp [setF,ih]
def isM (n:Nat) (m:Nat) (p:Nat->Bool):Prop:=m<256 /\ ∀y,m.testBit y=(decide (y<n)&&p y)
theorem isE_near (es:List E) {n:Nat} (h:es.all (edgeB (n:Int))=true) (x y:Nat):es.any (fun e=>isE e x y)=nearI es (x:Int) (y:Int):=by
 unfold nearI
 apply Bool.eq_iff_iff.2
 simp only [List.any_eq_true,isE,Bool.or_eq_true,Bool.and_eq_true,decide_eq_true_eq,beq_iff_eq]
 constructor
 ·rintro ⟨e,he,h1⟩
  obtain ⟨k1,k2,k3,k4⟩:=edgeB_nat (List.all_eq_true.1 h e he)
  exact ⟨e,he,by omega⟩
 ·rintro ⟨e,he,h1⟩
  obtain ⟨k1,k2,k3,k4⟩:=edgeB_nat (List.all_eq_true.1 h e he)
  exact ⟨e,he,by omega⟩
theorem near_lt {es:List E} {n:Nat} (h:es.all (edgeB (n:Int))=true) {x y:Nat} (hn:nearI es (x:Int) (y:Int)=true):y<n:=by
 unfold nearI at hn
 simp only [List.any_eq_true,Bool.or_eq_true,Bool.and_eq_true,beq_iff_eq] at hn
 obtain ⟨e,he,h1⟩:=hn
 obtain ⟨k1,k2,k3,k4⟩:=edgeB_nat (List.all_eq_true.1 h e he)
 omega
theorem one_isM {n x:Nat} (hn:n<=8) (hx:x<n):isM n (2 ^ x) (fun y=>decide ((y:Int)=(x:Int))):=by
 refine ⟨pow_small (by omega),fun y => ?_⟩
 rw [Nat.testBit_two_pow]
 apply Bool.eq_iff_iff.2
 simp only [Bool.and_eq_true,decide_eq_true_eq]
 omega
theorem setF_split {p:Nat->Bool}:∀(a b x:Nat),setF p (a+b) x=setF p a x++setF p b (x+a):=by
 intro a
 induction a with
 | zero=>intro b x;simp [setF]
 | succ a ih=>
  intro b x
  rw [show a+1+b=(a+b)+1 by omega]
  simp only [setF,ih,show x+1+a=x+(a+1) by omega]
  split<;>simp
theorem setF_mask {n m:Nat} {p:Nat->Bool} (hn:n<=8) (hm:isM n m p):setF (fun y=>m.testBit y) 8 0=setF p n 0:=by
 rw [show 8=n+(8-n) by omega,setF_split]
 have h1:setF (fun y=>m.testBit y) n 0=setF p n 0:=setF_congr fun y _ h=>by
  rw [hm.2 y]
  have:y<n:=by omega
  simp [this]
 have h2:setF (fun y=>m.testBit y) (8-n) (0+n)=[]:=by
  rw [<- setF_empty (n:=8-n) (x:=0+n)]
  exact setF_congr fun y h _=>by
   rw [hm.2 y]
   have:¬y<n:=by omega
   simp [this]
 rw [h1,h2,List.append_nil]
end Go.V.W
namespace Go.V.W
open Go.Proofs
theorem l2Near_lim (d) (r) (h:G_l2Near d=some r):∃N,F_q100q N d=some r:=by
 obtain ⟨g,a,b,_⟩:=d
 unfold G_l2Near at h
 split at h
 ·rename_i hl
  have hl:g.2.1.length<=lim:=okL_lim hl
  have h:=Option.some.inj h
  subst h
  refine ⟨g.2.1.length+1,?_⟩
  unfold F_q100q
  have:=loop_idx (L:=q100q_l0 (g.2.1.length+1)) (r:=q100q_l0_r (g.2.1.length+1)) (fun _ _=>rfl) (e:=K_Piiq) g.2.1 (mk:=fun i=>(a,b,g,(i:Int),())) (q:=fun e=>(e.1==a&&e.2.1==b)||(e.1==b&&e.2.1==a)) (o:=fun _=>.inl (true,())) (f:=.inr (.inl ()))
   (by
    intro back i hi
    unfold q100q_l0_r
    simp only [lt_dec hi,if_true,idxIn_nat hi,Int.toNat_natCast,wrap_up hi (lim_max hl)]
    rcases Bool.eq_false_or_eq_true ((at_ K_Piiq g.2.1 i).1==a) with c1 | c1<;>rcases Bool.eq_false_or_eq_true ((at_ K_Piiq g.2.1 i).2.1==b) with c2 | c2<;>rcases Bool.eq_false_or_eq_true ((at_ K_Piiq g.2.1 i).1==b) with c3 | c3<;>rcases Bool.eq_false_or_eq_true ((at_ K_Piiq g.2.1 i).2.1==a) with c4 | c4 <;>
     simp only [c1,c2,c3,c4,if_true,if_false,Bool.false_eq_true,Bool.and_true,Bool.and_false,Bool.or_true,Bool.or_false,Bool.true_or,Bool.or_self,Bool.and_self])
   (by intro back;unfold q100q_l0_r;simp only [lt_not,Bool.false_eq_true,if_false]) g.2.1.length 0 (by omega) (by omega)
  simp only [Int.natCast_zero,List.drop_zero] at this
  have hge:=idxI_ge (fun e:E=>(e.1==a&&e.2.1==b)||(e.1==b&&e.2.1==a)) g.2.1 0
  simp only [this,Option.bind_some,nearI,<- hge]
  cases idxN (fun e:E=>(e.1==a&&e.2.1==b)||(e.1==b&&e.2.1==a)) g.2.1 0 with
  | none=>rfl
  | some j=>simp [idxI]
 ·cases h
theorem l2Neighbors_l0 (N:Nat) (g:Gr) (x:Int) (n:Nat) (hN:g.1=(n:Int)) (hn:n<=8) (ho:okL g.2.1=true):∀(k y f:Nat) (A:List Int),y+k=n->k<f->A.length+k<=1000 ->
  q23q_l0 N f (x,g,A,(y:Int),())=some (.inl (A++setF (fun y=>nearI g.2.1 x (y:Int)) k y,())):=by
 intro k
 induction k with
 | zero=>
  intro y f A h1 h2 h3
  obtain ⟨f,rfl⟩:∃m,f=m+1:=⟨f-1,by omega⟩
  have e:y=n:=by omega
  subst e
  simp [q23q_l0,q23q_l0_r,setF,hN]
 | succ k ih=>
  intro y f A h1 h2 h3
  obtain ⟨f,rfl⟩:∃m,f=m+1:=⟨f-1,by omega⟩
  have hy:y<n:=by omega
  show q23q_l0_r N (q23q_l0 N f) (x,g,A,(y:Int),())=_
  unfold q23q_l0_r
  have hw:IntKind.wrap .i64 ((y:Int)+1)=((y+1:Nat):Int):=by
   rw [wrap_in _ (by omega) (by omega)]
   rfl
  have hle:decide (A.length+List.length [(y:Int)]<=lim)=true:=by
   unfold lim
   simp
   omega
  simp only [hN,lt_dec hy,if_true,G_l2Near,ho,Option.bind_some,hle,hw]
  unfold setF
  by_cases hh:nearI g.2.1 x (y:Int)=true
  ·rw [if_pos hh,if_pos hh,ih (y+1) f _ (by omega) (by omega) (by simp;omega)]
   simp
  ·rw [if_neg hh,if_neg hh]
   exact ih (y+1) f A (by omega) (by omega) (by omega)
theorem l2Neighbors_lim (d) (r) (h:G_l2Neighbors d=some r):∃N,F_q23q N d=some r:=by
 obtain ⟨g,x,_⟩:=d
 unfold G_l2Neighbors at h
 split at h
 ·rename_i hc
  simp only [Bool.and_eq_true,decide_eq_true_eq] at hc
  obtain ⟨⟨h1,h2⟩,h3⟩:=hc
  have h:=Option.some.inj h
  subst h
  refine ⟨20,?_⟩
  unfold F_q23q
  have:=l2Neighbors_l0 20 g x g.1.toNat (by omega) (by omega) h1 g.1.toNat 0 20 [] (by omega) (by omega) (by simp;omega)
  simp only [Int.natCast_zero,List.nil_append] at this
  simp only [this,Option.bind_some]
 ·cases h
def lowN (x:Int):List Int->Nat
 | []=>0
 | a::l=>if a<x then lowN x l+1 else 0
theorem lowN_le (x:Int):∀l,lowN x l<=l.length:=by
 intro l
 induction l with
 | nil=>simp [lowN]
 | cons a l ih=>simp only [lowN];split<;>simp;omega
theorem putL_low' (x:Int):∀l:List Int,putL x l=if h:lowN x l<l.length then (if l[lowN x l]=x then l else l.take (lowN x l)++[x]++l.drop (lowN x l)) else l++[x]:=by
 intro l
 induction l with
 | nil=>rfl
 | cons a l ih=>
  simp only [putL,lowN]
  by_cases c:a<x
  ·simp only [c,if_true,ih,List.length_cons,Nat.add_lt_add_iff_right,List.getElem_cons_succ,List.take_succ_cons,List.drop_succ_cons]
   split
   ·split<;>simp
   ·simp
  ·by_cases c2:a=x
   ·simp [c,c2]
   ·simp [c,c2]
theorem l1PutW_l0 (N:Nat) (l:List Int) (x:Int) (hl:l.length<=1000):∀(k i f:Nat),i+k=l.length->k<f->q79q_l0 N f (l,x,(i:Int),())=some (.inl (l,x,((i+lowN x (l.drop i):Nat):Int),())):=by
 have hmx:l.length<=maxLen:=by unfold maxLen;omega
 intro k
 induction k with
 | zero=>
  intro i f h1 h2
  obtain ⟨f,rfl⟩:∃m,f=m+1:=⟨f-1,by omega⟩
  have e:i=l.length:=by omega
  subst e
  rw [List.drop_of_length_le (Nat.le_refl _)]
  simp [q79q_l0,q79q_l0_r,lowN]
 | succ k ih=>
  intro i f h1 h2
  obtain ⟨f,rfl⟩:∃m,f=m+1:=⟨f-1,by omega⟩
  have hi:i<l.length:=by omega
  show q79q_l0_r N (q79q_l0 N f) (l,x,(i:Int),())=_
  unfold q79q_l0_r
  have e:at_ I l i=l[i]:=at_get (e:=I) hi
  rw [List.drop_eq_getElem_cons hi]
  simp only [lt_dec hi,if_true,idxIn_nat hi,Int.toNat_natCast,wrap_up hi hmx,e,lowN]
  by_cases c:l[i]<x
  ·simp only [c,decide_true,if_true]
   rw [ih (i+1) f (by omega) (by omega)]
   congr 5
   omega
  ·simp only [c,decide_false,Bool.false_eq_true,if_false,Nat.add_zero]
theorem l1PutW_lim (d) (r) (h:G_l1PutW d=some r):∃N,F_q79q N d=some r:=by
 obtain ⟨l,x,_⟩:=d
 unfold G_l1PutW at h
 split at h
 ·rename_i hl
  have hl:l.length<=1000:=of_decide_eq_true hl
  have h:=Option.some.inj h
  subst h
  refine ⟨l.length+1,?_⟩
  unfold F_q79q
  have:=l1PutW_l0 (l.length+1) l x hl l.length 0 (l.length+1) (by omega) (by omega)
  simp only [Int.natCast_zero,List.drop_zero,Nat.zero_add] at this
  have hk:=lowN_le x l
  generalize hkk:lowN x l=k at this hk
  simp only [this,Option.bind_some,putL_low',hkk]
  have hL:(lim:Int)=1099511627776:=rfl
  have c0:(decide (0<=(0:Int))&&decide ((0:Int)<=(k:Int))&&decide ((k:Int)<=(l.length:Int)))=true:=by simp;omega
  have c1:decide (List.length ([]:List Int)+List.length (sub_ l (0:Int) (k:Int))<=lim)=true:=by unfold lim sub_;simp;omega
  have c2:decide (List.length (([]:List Int)++sub_ l (0:Int) (k:Int))+List.length [x]<=lim)=true:=by unfold lim sub_;simp;omega
  have c3:(decide (0<=(k:Int))&&decide ((k:Int)<=(l.length:Int))&&decide ((l.length:Int)<=(l.length:Int)))=true:=by simp;omega
  have c4:decide (List.length (([]:List Int)++sub_ l (0:Int) (k:Int)++[x])+List.length (sub_ l (k:Int) (l.length:Int))<=lim)=true:=by unfold lim sub_;simp;omega
  have e1:sub_ l (0:Int) (k:Int)=l.take k:=by simp [sub_]
  have e2:sub_ l (k:Int) (l.length:Int)=l.drop k:=by simp [sub_]
  by_cases hlt:k<l.length
  ·have e:at_ I l k=l[k]:=at_get (e:=I) hlt
   simp only [lt_dec hlt,if_true,idxIn_nat hlt,Int.toNat_natCast,e,hlt,dite_true,c0,c1,c2,c3,c4]
   by_cases c:l[k]=x
   ·simp [c]
   ·have c':(l[k]==x)=false:=by simpa using c
    simp only [c',c,Bool.false_eq_true,if_false,e1,e2,List.nil_append]
  ·have hlt':decide ((k:Int)<(l.length:Int))=false:=by simp;omega
   have ek:k=l.length:=by omega
   simp only [hlt',Bool.false_eq_true,if_false,c0,c1,c2,c3,c4,if_true,hlt,dite_false,e1,e2,List.nil_append]
   subst ek
   simp
   unfold lim
   omega
 ·cases h
theorem l1PutN_l0 (N:Nat) (l:List Int) (x:Int) (hl:l.length<=1000):∀(k i f:Nat),i+k=l.length->k<f->q67q_l0 N f (l,x,(i:Int),())=some (.inl (l,x,((i+lowN x (l.drop i):Nat):Int),())):=by
 have hmx:l.length<=maxLen:=by unfold maxLen;omega
 intro k
 induction k with
 | zero=>
  intro i f h1 h2
  obtain ⟨f,rfl⟩:∃m,f=m+1:=⟨f-1,by omega⟩
  have e:i=l.length:=by omega
  subst e
  rw [List.drop_of_length_le (Nat.le_refl _)]
  simp [q67q_l0,q67q_l0_r,lowN]
 | succ k ih=>
  intro i f h1 h2
  obtain ⟨f,rfl⟩:∃m,f=m+1:=⟨f-1,by omega⟩
  have hi:i<l.length:=by omega
  show q67q_l0_r N (q67q_l0 N f) (l,x,(i:Int),())=_
  unfold q67q_l0_r
  have e:at_ I l i=l[i]:=at_get (e:=I) hi
  rw [List.drop_eq_getElem_cons hi]
  simp only [lt_dec hi,if_true,idxIn_nat hi,Int.toNat_natCast,wrap_up hi hmx,e,lowN]
  by_cases c:l[i]<x
  ·simp only [c,decide_true,if_true]
   rw [ih (i+1) f (by omega) (by omega)]
   congr 5
   omega
  ·simp only [c,decide_false,Bool.false_eq_true,if_false,Nat.add_zero]
theorem l1PutN_lim (d) (r) (h:G_l1PutN d=some r):∃N,F_q67q N d=some r:=by
 obtain ⟨l,x,_⟩:=d
 unfold G_l1PutN at h
 split at h
 ·rename_i hl
  rw [Bool.and_eq_true] at hl
  obtain ⟨hl,hno⟩:=hl
  have hl:l.length<=1000:=of_decide_eq_true hl
  have hno:∀y∈l,¬y=x:=fun y hy hyx=>by
   have:(l.any fun y=>y==x)=true:=List.any_eq_true.2 ⟨y,hy,by simp [hyx]⟩
   simp [this] at hno
  have h:=Option.some.inj h
  subst h
  refine ⟨l.length+1,?_⟩
  unfold F_q67q
  have:=l1PutN_l0 (l.length+1) l x hl l.length 0 (l.length+1) (by omega) (by omega)
  simp only [Int.natCast_zero,List.drop_zero,Nat.zero_add] at this
  have hk:=lowN_le x l
  generalize hkk:lowN x l=k at this hk
  simp only [this,Option.bind_some,putL_low',hkk]
  have hL:(lim:Int)=1099511627776:=rfl
  have c0:(decide (0<=(0:Int))&&decide ((0:Int)<=(k:Int))&&decide ((k:Int)<=(l.length:Int)))=true:=by simp;omega
  have c1:decide (List.length ([]:List Int)+List.length (sub_ l (0:Int) (k:Int))<=lim)=true:=by unfold lim sub_;simp;omega
  have c2:decide (List.length (([]:List Int)++sub_ l (0:Int) (k:Int))+List.length [x]<=lim)=true:=by unfold lim sub_;simp;omega
  have c3:(decide (0<=(k:Int))&&decide ((k:Int)<=(l.length:Int))&&decide ((l.length:Int)<=(l.length:Int)))=true:=by simp;omega
  have c4:decide (List.length (([]:List Int)++sub_ l (0:Int) (k:Int)++[x])+List.length (sub_ l (k:Int) (l.length:Int))<=lim)=true:=by unfold lim sub_;simp;omega
  have e1:sub_ l (0:Int) (k:Int)=l.take k:=by simp [sub_]
  have e2:sub_ l (k:Int) (l.length:Int)=l.drop k:=by simp [sub_]
  by_cases hlt:k<l.length
  ·have e:at_ I l k=l[k]:=at_get (e:=I) hlt
   simp only [lt_dec hlt,if_true,idxIn_nat hlt,Int.toNat_natCast,e,hlt,dite_true,c0,c1,c2,c3,c4]
   by_cases c:l[k]=x
   ·exact absurd c (hno _ (List.getElem_mem hlt))
   ·have c':(l[k]==x)=false:=by simpa using c
    simp only [c',c,Bool.false_eq_true,if_false,e1,e2,List.nil_append]
  ·have hlt':decide ((k:Int)<(l.length:Int))=false:=by simp;omega
   have ek:k=l.length:=by omega
   simp only [hlt',Bool.false_eq_true,if_false,c0,c1,c2,c3,c4,if_true,hlt,dite_false,e1,e2,List.nil_append]
   subst ek
   simp
   unfold lim
   omega
 ·cases h
theorem putL_len (x:Int):∀l:List Int,(putL x l).length<=l.length+1:=by
 intro l
 induction l with
 | nil=>simp [putL]
 | cons a l ih=>
  simp only [putL]
  split
  ·simp;omega
  ·split<;>simp
theorem shr_bit {m y:Nat} (hm:m<256) (h:y<8):(bits .and .i64 (shr .i64 (m:Int) (y:Int)) 1==(1:Int))=m.testBit y:=has_bit hm h
theorem setOf_l0 (N:Nat) (s:Nat) (hs:s<256):∀(k x f:Nat) (A:List Int),x+k=8->k<f->A.length+k<=100 ->
  impl_setOf_l0 N f ((s:Int),A,(x:Int),())=some (.inl (A++setF (fun y=>s.testBit y) k x,())):=by
 intro k
 induction k with
 | zero=>
  intro x f A h1 h2 h3
  obtain ⟨f,rfl⟩:∃m,f=m+1:=⟨f-1,by omega⟩
  have e:x=8:=by omega
  subst e
  have:shr .i64 (s:Int) ((8:Nat):Int)=0:=by
   unfold shr
   have e:min ((8:Nat):Int).toNat IntKind.i64.bits=8:=by decide
   rw [e,Int.fdiv_eq_ediv_of_nonneg _ (by decide)]
   omega
  show impl_setOf_l0_r N (impl_setOf_l0 N f) ((s:Int),A,((8:Nat):Int),())=_
  unfold impl_setOf_l0_r
  have h8:decide (0<=((8:Nat):Int))=true:=by decide
  have hz:((0:Int) != 0)=false:=by decide
  simp only [h8,if_true,this,hz,Bool.false_eq_true,if_false,setF,List.append_nil]
 | succ k ih=>
  intro x f A h1 h2 h3
  obtain ⟨f,rfl⟩:∃m,f=m+1:=⟨f-1,by omega⟩
  have hx:x<8:=by omega
  show impl_setOf_l0_r N (impl_setOf_l0 N f) ((s:Int),A,(x:Int),())=_
  unfold impl_setOf_l0_r
  have hw:IntKind.wrap .i64 ((x:Int)+1)=((x+1:Nat):Int):=by
   rw [wrap_in _ (by omega) (by omega)]
   rfl
  have hle:decide (A.length+List.length [(x:Int)]<=lim)=true:=by
   unfold lim
   simp
   omega
  simp only [nonneg_dec,if_true,shr_bit hs hx,hle,hw]
  by_cases hz:s>>>x=0
  ·have e1:(shr .i64 (s:Int) (x:Int) != (0:Int))=false:=by rw [shr_nat hx,hz];decide
   simp only [e1,Bool.false_eq_true,if_false]
   have e2:setF (fun y=>s.testBit y) (k+1) x=[]:=by
    rw [<- setF_empty (n:=k+1) (x:=x)]
    refine setF_congr fun y h _ => ?_
    have:s<2 ^ x:=by
     rw [Nat.shiftRight_eq_div_pow] at hz
     exact (Nat.div_eq_zero_iff_lt (Nat.two_pow_pos x)).1 hz
    exact Nat.testBit_lt_two_pow (Nat.lt_of_lt_of_le this (Nat.pow_le_pow_right (by omega) h))
   rw [e2,List.append_nil]
  ·have e1:(shr .i64 (s:Int) (x:Int) != (0:Int))=true:=by
    rw [shr_nat hx]
    have:((s>>>x:Nat):Int)≠0:=fun e=>hz (by exact_mod_cast e)
    simpa using this
   simp only [e1,if_true]
   unfold setF
   by_cases hb:s.testBit x=true
   ·rw [if_pos hb,if_pos hb,ih (x+1) f _ (by omega) (by omega) (by simp;omega)]
    simp
   ·rw [if_neg hb,if_neg hb]
    exact ih (x+1) f A (by omega) (by omega) (by omega)
theorem setOf_lim (d) (r) (h:G_setOf d=some r):∃N,F_impl_setOf N d=some r:=by
 obtain ⟨s,_⟩:=d
 unfold G_setOf at h
 split at h
 ·rename_i hc
  simp only [Bool.and_eq_true,decide_eq_true_eq] at hc
  have h:=Option.some.inj h
  subst h
  refine ⟨20,?_⟩
  unfold F_impl_setOf
  have:=setOf_l0 20 s.toNat (by omega) 8 0 20 [] (by omega) (by omega) (by simp)
  rw [show ((s.toNat:Nat):Int)=s by omega] at this
  simp only [Int.natCast_zero,List.nil_append] at this
  simp only [this,Option.bind_some]
 ·cases h
end Go.V.W
namespace Go.V.W
open Go.Proofs
theorem small_toI {n:Nat} {ms:List Nat} (hok:okN n ms) (hn:n<=8):smallN (toI ms)=true:=by
 unfold smallN
 simp only [toI_len,hok.1,Bool.and_eq_true,decide_eq_true_eq,List.all_eq_true]
 refine ⟨hn,fun m hm => ?_⟩
 unfold toI at hm
 obtain ⟨x,hx,rfl⟩:=List.mem_map.1 hm
 obtain ⟨i,hi,rfl⟩:=List.getElem_of_mem hx
 have:=hok.2 i
 simp only [List.getD_eq_getElem?_getD,List.getElem?_eq_getElem hi,Option.getD_some] at this
 omega
end Go.V.W
namespace Go.V.W
open Go.Proofs
theorem at_some {l:List Int} {j:Nat} {v:Int} (h:l[j]? = some v):at_ I l j=v/\j<l.length:=by
 have hj:j<l.length:=by
  rcases Nat.lt_or_ge j l.length with h' | h'
  ·exact h'
  ·rw [List.getElem?_eq_none h'] at h
   cases h
 refine ⟨?_,hj⟩
 have e:at_ I l j=l[j]:=at_get (e:=I) hj
 rw [e]
 rw [List.getElem?_eq_getElem hj] at h
 exact Option.some.inj h
theorem ball_eq (g:Gr) (n:Nat) (hg:g.1=(n:Int)) (hn:n<=8) (ho:okL g.2.1=true) (z:Int):F_q86q 0 (g,z,())=some (ballL n g.2.1 z,()):=by
 first
  | unfold F_q86q G_l2Neighbors G_l1PutW
  | unfold F_q86q G_l2Neighbors G_l1Put
 have a2:okS1 (setF (fun y=>nearI g.2.1 z (y:Int)) n 0)=true:=by
  have:=setF_len (p:=fun y=>nearI g.2.1 z (y:Int)) (k:=n) (x:=0)
  exact decide_eq_true (by omega)
 have a3:(okL g.2.1&&decide (0<=(n:Int))&&decide ((n:Int)<=8))=true:=by
  rw [ho]
  simp
  omega
 simp only [hg,a3,if_true,Int.toNat_natCast,Option.bind_some,a2,ballL]
end Go.V.W
namespace Go.V.W
theorem tabL_len (n:Nat) (f:Nat->Nat->Int):(tabL n f).length=n:=by simp [tabL]
theorem tabL_row {n c:Nat} (f:Nat->Nat->Int) (h:c<n):(tabL n f)[c]? = some ((List.range n).map fun r=>f c r):=by
 unfold tabL
 rw [List.getElem?_map,List.getElem?_range h]
 rfl
theorem rowR_get {n r:Nat} (g:Nat->Int) (h:r<n):((List.range n).map g)[r]? = some (g r):=by
 rw [List.getElem?_map,List.getElem?_range h]
 rfl
theorem tab2_tabL {n c r:Nat} (f:Nat->Nat->Int) (hc:c<n) (hr:r<n):tab2 (tabL n f) (c:Int) (r:Int)=f c r:=by
 unfold tab2
 simp only [Int.toNat_natCast,List.getD_eq_getElem?_getD,tabL_row f hc,Option.getD_some,rowR_get _ hr]
theorem tabL_congr {n:Nat} {f g:Nat->Nat->Int} (h:∀c r,c<n->r<n->f c r=g c r):tabL n f=tabL n g:=by
 unfold tabL
 refine List.map_congr_left fun c hc=>List.map_congr_left fun r hr=>h c r (List.mem_range.1 hc) (List.mem_range.1 hr)
theorem worst_congr {f g:Int->Int}:∀{l:List Int} {m:Int},(∀x∈l,f x=g x)->worstL f l m=worstL g l m:=by
 intro l
 induction l with
 | nil=>intro m _;rfl
 | cons b bs ih=>
  intro m h
  simp only [worstL,h b (by simp)]
  rw [ih fun x hx=>h x (by simp [hx])]
theorem worst_spec (f:Int->Int):∀(l:List Int) (m:Int),(∃x∈l,f x<0)/\worstL f l m = -1\/(∀x∈l,0<=f x/\f x<=worstL f l m)/\m<=worstL f l m/\(worstL f l m=m \/ ∃x∈l,worstL f l m=f x):=by
 intro l
 induction l with
 | nil=>intro m;exact .inr ⟨fun x hx=>by simp at hx,Int.le_refl _,.inl rfl⟩
 | cons b bs ih=>
  intro m
  simp only [worstL]
  by_cases hb:f b<0
  ·rw [if_pos hb]
   exact .inl ⟨⟨b,by simp,hb⟩,rfl⟩
  ·rw [if_neg hb]
   rcases ih (if m<f b then f b else m) with ⟨⟨x,hx,h1⟩,h2⟩ | ⟨h1,h2,h3⟩
   ·exact .inl ⟨⟨x,by simp [hx],h1⟩,h2⟩
   ·have hge:m<=(if m<f b then f b else m)/\f b<=(if m<f b then f b else m):=by split<;>omega
    refine .inr ⟨fun x hx => ?_,by omega,?_⟩
    ·rcases List.mem_cons.1 hx with rfl | hx
     ·omega
     ·exact h1 x hx
    ·rcases h3 with h3 | ⟨x,hx,h3⟩
     ·by_cases hm:m<f b
      ·rw [if_pos hm] at h3 |-
       exact .inr ⟨b,by simp,h3⟩
      ·rw [if_neg hm] at h3 |-
       exact .inl h3
     ·exact .inr ⟨x,by simp [hx],h3⟩
theorem best_spec (g:Int->Int):∀(l:List Int) (b:Int),(bestL g l b=b \/ ∃x∈l,0<=g x/\bestL g l b=g x)/\((∃x∈l,0<=g x)->0<=bestL g l b):=by
 intro l
 induction l with
 | nil=>intro b;exact ⟨.inl rfl,fun ⟨x,hx,_⟩=>by simp at hx⟩
 | cons x xs ih=>
  intro b
  simp only [bestL]
  by_cases h:g x>=0/\(b<0\/g x<b)
  ·rw [if_pos h]
   obtain ⟨h1,h2⟩:=ih (g x)
   refine ⟨?_,fun _ => ?_⟩
   ·rcases h1 with h1 | ⟨y,hy,h3,h4⟩
    ·exact .inr ⟨x,by simp,h.1,h1⟩
    ·exact .inr ⟨y,by simp [hy],h3,h4⟩
   ·rcases h1 with h1 | ⟨y,hy,h3,h4⟩<;>omega
  ·rw [if_neg h]
   obtain ⟨h1,h2⟩:=ih b
   refine ⟨?_,fun ⟨y,hy,h3⟩ => ?_⟩
   ·rcases h1 with h1 | ⟨y,hy,h3,h4⟩
    ·exact .inl h1
    ·exact .inr ⟨y,by simp [hy],h3,h4⟩
   ·rcases List.mem_cons.1 hy with rfl | hy
    ·have:0<=b:=by omega
     rcases h1 with h1 | ⟨z,hz,h4,h5⟩<;>omega
    ·exact h2 ⟨y,hy,h3⟩
def okBall (n:Nat) (ball:Int->List Int):Prop := ∀x:Nat,x<n -> ∀z∈ball (x:Int),∃y:Nat,y<n/\z=(y:Int)
structure InvT (n:Nat) (ball:Int->List Int) (t:Nat) (f:Nat->Nat->Int):Prop where
 pos:1<=t
 low:∀c r,c<n->r<n -> -1<=f c r
 high:∀c r,c<n->r<n->f c r<(t:Int)
 none:∀c r,c<n->r<n->f c r<0 -> ∀b∈ball (c:Int),¬(0<=afterT ball (tabL n f) b (r:Int)/\afterT ball (tabL n f) b (r:Int)<(t:Int)-1)
theorem after_high {n:Nat} {ball:Int->List Int} (hb:okBall n ball) {t:Nat} {f:Nat->Nat->Int} (hI:InvT n ball t f) {c r:Nat} (hc:c<n) (hr:r<n) {b:Int} (hbm:b∈ball (c:Int)):afterT ball (tabL n f) b (r:Int)<=(t:Int)-1:=by
 have hp:=hI.pos
 unfold afterT
 split
 ·omega
 ·obtain ⟨b',hb1,rfl⟩:=hb c hc b hbm
  rcases worst_spec (tab2 (tabL n f) (b':Int)) (ball (r:Int)) 0 with ⟨_,h⟩ | ⟨_,_,h | ⟨x,hx,h⟩⟩
  ·omega
  ·omega
  ·obtain ⟨y,hy,rfl⟩:=hb r hr x hx
   rw [tab2_tabL f hb1 hy] at h
   have:=hI.high b' y hb1 hy
   omega
theorem best_round {n:Nat} {ball:Int->List Int} (hb:okBall n ball) {t:Nat} {f:Nat->Nat->Int} (hI:InvT n ball t f) {c r:Nat} (hc:c<n) (hr:r<n) (hf:f c r<0) :
  (canF n ball f c r=true/\bestL (fun b=>afterT ball (tabL n f) b (r:Int)) (ball (c:Int)) (-1)=(t:Int)-1)\/(canF n ball f c r=false/\bestL (fun b=>afterT ball (tabL n f) b (r:Int)) (ball (c:Int)) (-1) = -1):=by
 have hp:=hI.pos
 obtain ⟨h1,h2⟩:=best_spec (fun b=>afterT ball (tabL n f) b (r:Int)) (ball (c:Int)) (-1)
 have hcan:canF n ball f c r=(ball (c:Int)).any fun b=>decide (0<=afterT ball (tabL n f) b (r:Int)):=by
  unfold canF
  simp [hf]
 by_cases h:∃x∈ball (c:Int),0<=afterT ball (tabL n f) x (r:Int)
 ·refine .inl ⟨?_,?_⟩
  ·rw [hcan,List.any_eq_true]
   obtain ⟨x,hx,h3⟩:=h
   exact ⟨x,hx,decide_eq_true h3⟩
  ·have h3:=h2 h
   rcases h1 with h1 | ⟨x,hx,h4,h5⟩
   ·omega
   ·have h6:=hI.none c r hc hr hf x hx
    have h7:=after_high hb hI hc hr hx
    have h5':bestL (fun b=>afterT ball (tabL n f) b (r:Int)) (ball (c:Int)) (-1)=afterT ball (tabL n f) x (r:Int):=h5
    omega
 ·refine .inr ⟨?_,?_⟩
  ·rw [hcan]
   cases ha:(ball (c:Int)).any fun b=>decide (0<=afterT ball (tabL n f) b (r:Int)) with
   | false=>rfl
   | true=>
    rw [List.any_eq_true] at ha
    obtain ⟨x,hx,h3⟩:=ha
    exact absurd ⟨x,hx,of_decide_eq_true h3⟩ h
  ·rcases h1 with h1 | ⟨x,hx,h4,h5⟩
   ·exact h1
   ·exact absurd ⟨x,hx,h4⟩ h
theorem InvT.next {n:Nat} {ball:Int->List Int} (hb:okBall n ball) {t:Nat} {f:Nat->Nat->Int} (hI:InvT n ball t f):InvT n ball (t+1) (stepF n ball (t:Int) f):=by
 have hp:=hI.pos
 refine ⟨by omega,fun c r hc hr => ?_,fun c r hc hr => ?_,fun c r hc hr hf b hbm => ?_⟩
 ·unfold stepF
  split
  ·omega
  ·exact hI.low c r hc hr
 ·unfold stepF
  split
  ·omega
  ·have:=hI.high c r hc hr;omega
 ·rintro ⟨h1,h2⟩
  have hst:stepF n ball (t:Int) f c r=f c r/\canF n ball f c r=false:=by
   unfold stepF at hf |-
   by_cases hcan:canF n ball f c r=true
   ·rw [if_pos hcan] at hf;omega
   ·rw [if_neg hcan]
    exact ⟨rfl,by simpa using hcan⟩
  rw [hst.1] at hf
  have hno:∀b∈ball (c:Int),¬0<=afterT ball (tabL n f) b (r:Int):=by
   intro b hbm h
   have:=hst.2
   unfold canF at this
   simp only [hf,decide_true,Bool.true_and] at this
   have ht:((ball (c:Int)).any fun b=>decide (0<=afterT ball (tabL n f) b (r:Int)))=true:=List.any_eq_true.2 ⟨b,hbm,decide_eq_true h⟩
   rw [ht] at this
   cases this
  refine hno b hbm ?_
  unfold afterT at h1 h2 |-
  by_cases hbr:b=(r:Int)
  ·rw [if_pos hbr]
   exact Int.le_refl _
  ·rw [if_neg hbr] at h1 h2 |-
   obtain ⟨b',hb1,rfl⟩:=hb c hc b hbm
   rcases worst_spec (tab2 (tabL n (stepF n ball (t:Int) f)) (b':Int)) (ball (r:Int)) 0 with ⟨_,h⟩ | ⟨hall,_,_⟩
   ·omega
   ·have e:worstL (tab2 (tabL n f) (b':Int)) (ball (r:Int)) 0=worstL (tab2 (tabL n (stepF n ball (t:Int) f)) (b':Int)) (ball (r:Int)) 0:=by
     refine worst_congr fun x hx => ?_
     obtain ⟨y,hy,rfl⟩:=hb r hr x hx
     have:=hall (y:Int) hx
     rw [tab2_tabL _ hb1 hy] at this
     rw [tab2_tabL _ hb1 hy,tab2_tabL _ hb1 hy]
     by_cases hcan:canF n ball f b' y=true
     ·have e:stepF n ball (t:Int) f b' y=(t:Int):=if_pos hcan
      rw [e] at this
      omega
     ·exact (if_neg hcan).symm
    rw [e]
    exact h1
theorem InvT.start (n:Nat) (ball:Int->List Int):InvT n ball 1 startF:=by
 refine ⟨Nat.le_refl _,fun c r _ _ => ?_,fun c r _ _ => ?_,fun c r _ _ _ b _ h => ?_⟩
 ·unfold startF;split<;>omega
 ·unfold startF;split<;>omega
 ·omega
def negs (n:Nat) (f:Nat->Nat->Int):Nat:=(List.range (n*n)).countP fun i=>decide (f (i / n) (i % n)<0)
theorem countP_lt {α:Type} {p q:α->Bool}:∀{l:List α},(∀x∈l,q x=true->p x=true)->l.countP q<=l.countP p/\((∃x∈l,p x=true/\q x=false)->l.countP q<l.countP p):=by
 intro l
 induction l with
 | nil=>intro _;exact ⟨Nat.le_refl _,fun ⟨x,hx,_⟩=>by simp at hx⟩
 | cons a l ih=>
  intro h
  obtain ⟨h1,h2⟩:=ih fun x hx=>h x (by simp [hx])
  have ha:=h a (by simp)
  simp only [List.countP_cons]
  cases hq:q a with
  | true=>
   rw [ha hq]
   refine ⟨by simp;exact h1,fun ⟨x,hx,h3,h4⟩ => ?_⟩
   rcases List.mem_cons.1 hx with rfl | hx
   ·rw [hq] at h4;cases h4
   ·have:=h2 ⟨x,hx,h3,h4⟩
    simp
    exact this
  | false=>
   cases hp:p a with
   | true=>refine ⟨by simp;omega,fun _=>by simp;omega⟩
   | false=>
    refine ⟨by simpa using h1,fun ⟨x,hx,h3,h4⟩ => ?_⟩
    rcases List.mem_cons.1 hx with rfl | hx
    ·rw [hp] at h3;cases h3
    ·simpa using h2 ⟨x,hx,h3,h4⟩
theorem anyF_spec {n:Nat} {p:Nat->Nat->Bool}:anyF n p=true ↔ ∃c r,c<n/\r<n/\p c r=true:=by
 unfold anyF
 simp only [List.any_eq_true,List.mem_range]
 constructor
 ·rintro ⟨c,hc,r,hr,h⟩
  exact ⟨c,r,hc,hr,h⟩
 ·rintro ⟨c,r,hc,hr,h⟩
  exact ⟨c,hc,r,hr,h⟩
theorem negs_step {n:Nat} {ball:Int->List Int} {t:Int} (ht:0<=t) {f:Nat->Nat->Int} (h:anyF n (canF n ball f)=true):negs n (stepF n ball t f)<negs n f:=by
 obtain ⟨c,r,hc,hr,hcan⟩:=anyF_spec.1 h
 have hsub:=countP_lt (p:=fun i=>decide (f (i / n) (i % n)<0)) (q:=fun i=>decide (stepF n ball t f (i / n) (i % n)<0)) (l:=List.range (n*n)) (fun i _ hi=>by
  have hi:=of_decide_eq_true hi
  unfold stepF at hi
  split at hi
  ·omega
  ·exact decide_eq_true hi)
 refine hsub.2 ⟨c*n+r,?_,?_,?_⟩
 ·rw [List.mem_range]
  have:(c+1)*n<=n*n:=Nat.mul_le_mul_right _ hc
  rw [Nat.succ_mul] at this
  omega
 all_goals
  have e1:(c*n+r) / n=c:=by
   rw [Nat.mul_comm,Nat.mul_add_div (by omega),Nat.div_eq_of_lt hr]
   omega
  have e2:(c*n+r) % n=r:=by
   rw [Nat.mul_comm,Nat.mul_add_mod,Nat.mod_eq_of_lt hr]
  rw [e1,e2]
 ·unfold canF at hcan
  simp only [Bool.and_eq_true] at hcan
  exact hcan.1
 ·unfold stepF
  rw [if_pos hcan]
  simpa using ht
theorem negs_le (n:Nat) (f:Nat->Nat->Int):negs n f<=n*n:=by
 unfold negs
 have:=List.countP_le_length (p:=fun i=>decide (f (i / n) (i % n)<0)) (l:=List.range (n*n))
 simpa using this
end Go.V.W
