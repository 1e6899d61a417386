/- What the law FnOneCop leans on, part 5: an interpreter of the model as plain data, its soundness, the functions as it tells them, and their laws. -/
import Derived.Test.YtnieoolfkakmdaaGreatProg
import Derived.Test.YtnieoolfkakmdaaGreatVD
set_option linter.unusedVariables false
set_option linter.unusedSimpArgs false
set_option maxRecDepth 100000
namespace Go.V.W
open Go.Proofs
abbrev I:Kd:=.int .i64
abbrev K_Su8:Kd:=.slice (.int .u8)
abbrev K_Pu64q:Kd:=.pair (.int .u64) .unit
abbrev K_Piu64q:Kd:=.pair I K_Pu64q
abbrev K_PSu8iu64q:Kd:=.pair K_Su8 K_Piu64q
abbrev K_BPSu8iu64q:Kd:=.bx K_PSu8iu64q
abbrev K_Piq:Kd:=.pair I .unit
abbrev K_Piiq:Kd:=.pair I K_Piq
abbrev K_SPiiq:Kd:=.slice K_Piiq
abbrev K_PSPiiqq:Kd:=.pair K_SPiiq .unit
abbrev K_PiSPiiqq:Kd:=.pair I K_PSPiiqq
abbrev K_Si:Kd:=.slice I
abbrev K_PSiq:Kd:=.pair K_Si .unit
abbrev K_Bi:Kd:=.bx I
abbrev K_BPSiq:Kd:=.bx K_PSiq
abbrev K_SSi:Kd:=.slice K_Si
abbrev K_BSSi:Kd:=.bx K_SSi
abbrev K_PBSSiq:Kd:=.pair K_BSSi .unit
abbrev K_PBPSiqBSSiq:Kd:=.pair K_BPSiq K_PBSSiq
abbrev K_PBiBPSiqBSSiq:Kd:=.pair K_Bi K_PBPSiqBSSiq
abbrev K_F_q20q_qPBiBPSiqBSSiq:Kd:=.clo 244 .unit K_PBiBPSiqBSSiq
abbrev K_F_q8q_qq:Kd:=.clo 199 .unit .unit
abbrev K_F_slices_Equal_Sint_int_qq:Kd:=.clo 204 .unit .unit
abbrev K_Zi:Kd:=.ssl I
abbrev K_PZiq:Kd:=.pair K_Zi .unit
abbrev K_ZSi:Kd:=.ssl K_Si
abbrev K_PSSiq:Kd:=.pair K_SSi .unit
abbrev K_PSSiSSiq:Kd:=.pair K_SSi K_PSSiq
abbrev K_PZSiSSiSSiq:Kd:=.pair K_ZSi K_PSSiSSiq
abbrev K_PPZiqZSiSSiSSiq:Kd:=.pair K_PZiq K_PZSiSSiSSiq
abbrev K_BPPZiqZSiSSiSSiq:Kd:=.bx K_PPZiqZSiSSiSSiq
abbrev K_BBPPZiqZSiSSiSSiq:Kd:=.bx K_BPPZiqZSiSSiSSiq
abbrev K_PBiq:Kd:=.pair K_Bi .unit
abbrev K_PBBPPZiqZSiSSiSSiqBiq:Kd:=.pair K_BBPPZiqZSiSSiSSiq K_PBiq
abbrev K_F_q17q_qPBBPPZiqZSiSSiSSiqBiq:Kd:=.clo 243 .unit K_PBBPPZiqZSiSSiSSiqBiq
def tks:List (Nat×Kd):=[(3,I),(4,.bool),(5,(.int .u8)),(22,K_Su8),(24,K_SPiiq),(26,K_PiSPiiqq),(27,K_SSi),(36,K_Si),(52,K_Piiq),(94,(.int .u64)),(96,K_PSu8iu64q),(107,K_PSiq),(118,K_PPZiqZSiSSiSSiq),(192,(.int .u64))]
def ars:List (Nat×Nat):=[(52,3)]
noncomputable def Γ_laws_vBig:Ctx:={ tk:=assoc tks,ar:=assoc ars,fs:=assoc [] }
noncomputable def F_laws_vBig (N:Nat) (d:List Int×Unit):Option (Bool×Unit):=
 let a0:=d.1
 some ((decide ((List.length a0:Int)>(65536:Int)),()))
noncomputable def g_laws_vBig (d:List Int×Unit):Bool×Unit:=
 let a0:=d.1
 ((decide ((List.length a0:Int)>(65536:Int)),()))
theorem F_laws_vBig_tot (N:Nat) (d):F_laws_vBig N d=some (g_laws_vBig d):=by
 unfold F_laws_vBig g_laws_vBig
 first
  | rfl
  | (dsimp only; (repeat' split)<;>rfl)
noncomputable def S_laws_vBig:FSig:=⟨[(K_Su8,false)],[.bool],true,(fun d=>some (g_laws_vBig d))⟩
noncomputable def Γ_q44q:Ctx:={ tk:=assoc tks,ar:=assoc ars,fs:=assoc [],lent:=fun t=>Nat.beq t 0 }
noncomputable def F_q44q (N:Nat) (d:(List Int×Int×Int×Unit)×Unit):Option (Int×(List Int×Int×Int×Unit)×Unit):=
 let a0:=d.1
 if (decide (a0.2.1<(List.length a0.1:Int)))=true then
  if (idxIn a0.2.1 (List.length a0.1))=true then
  let x1:=IntKind.wrap .i64 (at_ (.int .u8) a0.1 a0.2.1.toNat)
  let x2:=IntKind.wrap .i64 (a0.2.1+(1:Int))
  let x3:=IntKind.wrap .u64 (a0.2.2.1*(6364136223846793005:Int))
  let x4:=IntKind.wrap .u64 (x3+IntKind.wrap .u64 x1)
  let x5:=IntKind.wrap .u64 (x4+(462197:Int))
  if (decide (x2<=(List.length a0.1:Int)))=true then
   some ((x1,((a0.1,(x2,(x5,a0.2.2.2))),())))
  else
   if (decide (0<=(40:Int)))=true then
   let x6:=bits .and .u64 (shr .u64 x5 (40:Int)) (255:Int)
   some ((IntKind.wrap .i64 x6,((a0.1,(x2,(x5,a0.2.2.2))),())))
   else none
  else none
 else
  let x7:=IntKind.wrap .i64 (a0.2.1+(1:Int))
  let x8:=IntKind.wrap .u64 (a0.2.2.1*(6364136223846793005:Int))
  let x9:=IntKind.wrap .u64 (x8+IntKind.wrap .u64 (0:Int))
  let x10:=IntKind.wrap .u64 (x9+(462197:Int))
  if (decide (x7<=(List.length a0.1:Int)))=true then
   some (((0:Int),((a0.1,(x7,(x10,a0.2.2.2))),())))
  else
   if (decide (0<=(40:Int)))=true then
   let x11:=bits .and .u64 (shr .u64 x10 (40:Int)) (255:Int)
   some ((IntKind.wrap .i64 x11,((a0.1,(x7,(x10,a0.2.2.2))),())))
   else none
noncomputable def S_q44q:FSig:=⟨[(K_BPSu8iu64q,true)],[I],true,(F_q44q 0)⟩
noncomputable def Γ_q39q:Ctx:={ tk:=assoc tks,ar:=assoc ars,fs:=assoc [(187,S_q44q)],lent:=fun t=>Nat.beq t 0 }
noncomputable def F_q39q (N:Nat) (d:(List Int×Int×Int×Unit)×Int×Unit):Option (Int×(List Int×Int×Int×Unit)×Unit):=
 let a0:=d.1
 let a1:=d.2.1
 if (decide (a1<=(1:Int)))=true then
  some (((0:Int),(a0,())))
 else
  ((F_q44q 0) (a0,())).bind fun r1=>
  if (decide (a1>(200:Int)))=true then
   let x2:=IntKind.wrap .i64 (r1.1*(256:Int))
   ((F_q44q 0) (r1.2.1,())).bind fun r3=>
   let x4:=IntKind.wrap .i64 (x2+r3.1)
   if (a1 != 0)=true then
   some ((x4.tmod a1,(r3.2.1,())))
   else none
  else
   if (a1 != 0)=true then
   some ((r1.1.tmod a1,(r1.2.1,())))
   else none
noncomputable def S_q39q:FSig:=⟨[(K_BPSu8iu64q,true),(I,false)],[I],true,(F_q39q 0)⟩
noncomputable def Γ_q49q:Ctx:={ tk:=assoc tks,ar:=assoc ars,fs:=assoc [(91,S_q39q)],lent:=fun t=>Nat.beq t 0 }
noncomputable def F_q49q (N:Nat) (d:(List Int×Int×Int×Unit)×Int×Unit):Option (Bool×(List Int×Int×Int×Unit)×Unit):=
 let a0:=d.1
 let a1:=d.2.1
 ((F_q39q 0) ((a0,(a1,())))).bind fun r1=>
 some ((r1.1==(0:Int),(r1.2.1,())))
noncomputable def S_q49q:FSig:=⟨[(K_BPSu8iu64q,true),(I,false)],[.bool],true,(F_q49q 0)⟩
noncomputable def Γ_q80q:Ctx:={ tk:=assoc tks,ar:=assoc ars,fs:=assoc [] }
abbrev q80q_l0_H:=Int×Int×(Int×(List (Int×Int×Unit))×Unit)×Int×Unit
abbrev q80q_l0_O:=(Bool×Unit)⊕Unit⊕Empty
def q80q_l0_h:Form:=[(1,.v I),(2,.v I),(3,.box K_PiSPiiqq 0),(7,.v I)]
def q80q_l0_o:Outs:=[(.ret,[(6,.v .bool)]),(.normal,[])]
noncomputable def q80q_l0_r (N:Nat) (back:q80q_l0_H->Option q80q_l0_O) (d:q80q_l0_H):Option q80q_l0_O:=
 let s1:=d.1
 let s2:=d.2.1
 let s3:=d.2.2.1
 let s7:=d.2.2.2.1
 if (decide (s7<(List.length s3.2.1:Int)))=true then
  if (idxIn s7 (List.length s3.2.1))=true then
  if ((at_ K_Piiq s3.2.1 s7.toNat).1==s1)=true then
   if ((at_ K_Piiq s3.2.1 s7.toNat).2.1==s2)=true then
    some (.inl (true,()))
   else
    if ((at_ K_Piiq s3.2.1 s7.toNat).1==s2)=true then
     if ((at_ K_Piiq s3.2.1 s7.toNat).2.1==s1)=true then
      some (.inl (true,()))
     else
      let x8:=IntKind.wrap .i64 (s7+(1:Int))
      back ((s1,(s2,(s3,(x8,())))))
    else
     let x9:=IntKind.wrap .i64 (s7+(1:Int))
     back ((s1,(s2,(s3,(x9,())))))
  else
   if ((at_ K_Piiq s3.2.1 s7.toNat).1==s2)=true then
    if ((at_ K_Piiq s3.2.1 s7.toNat).2.1==s1)=true then
     some (.inl (true,()))
    else
     let x10:=IntKind.wrap .i64 (s7+(1:Int))
     back ((s1,(s2,(s3,(x10,())))))
   else
    let x11:=IntKind.wrap .i64 (s7+(1:Int))
    back ((s1,(s2,(s3,(x11,())))))
  else none
 else
  some (.inr (.inl ()))
noncomputable def q80q_l0 (N:Nat):Nat->q80q_l0_H->Option q80q_l0_O
 | 0,_=>none
 | k+1,d=>q80q_l0_r N (q80q_l0 N k) d
noncomputable def F_q80q (N:Nat) (d:(Int×(List (Int×Int×Unit))×Unit)×Int×Int×Unit):Option (Bool×Unit):=
 let a0:=d.1
 let a1:=d.2.1
 let a2:=d.2.2.1
 (q80q_l0 N N ((a1,(a2,(a0,((0:Int),())))))).bind fun o5=>match o5 with
 | .inl d6=>
  some (d6.1,())
 | .inr (.inl d7)=>
  some (false,())
noncomputable def S_q80q:FSig:=⟨[(K_PiSPiiqq,false),(I,false),(I,false)],[.bool],true,(G_l2Near)⟩
noncomputable def Γ_q32q:Ctx:={ tk:=assoc tks,ar:=assoc ars,fs:=assoc [(240,S_q80q)] }
abbrev q32q_l0_H:=Int×(Int×(List (Int×Int×Unit))×Unit)×List Int×Int×Unit
abbrev q32q_l0_O:=(List Int×Unit)⊕Empty
def q32q_l0_h:Form:=[(1,.v I),(2,.box K_PiSPiiqq 0),(5,.own K_Si 99),(6,.v I)]
def q32q_l0_o:Outs:=[(.normal,[(5,.own K_Si 99)])]
noncomputable def q32q_l0_r (N:Nat) (back:q32q_l0_H->Option q32q_l0_O) (d:q32q_l0_H):Option q32q_l0_O:=
 let s1:=d.1
 let s2:=d.2.1
 let s5:=d.2.2.1
 let s6:=d.2.2.2.1
 if (decide (s6<s2.1))=true then
  (G_l2Near ((s2,(s1,(s6,()))))).bind fun r6=>
  if (r6.1)=true then
   if (decide (List.length s5+List.length ([s6])<=lim))=true then
   let x7:=IntKind.wrap .i64 (s6+(1:Int))
   back ((s1,(s2,(s5++([s6]),(x7,())))))
   else none
  else
   let x8:=IntKind.wrap .i64 (s6+(1:Int))
   back ((s1,(s2,(s5,(x8,())))))
 else
  some (.inl (s5,()))
noncomputable def q32q_l0 (N:Nat):Nat->q32q_l0_H->Option q32q_l0_O
 | 0,_=>none
 | k+1,d=>q32q_l0_r N (q32q_l0 N k) d
noncomputable def F_q32q (N:Nat) (d:(Int×(List (Int×Int×Unit))×Unit)×Int×Unit):Option (List Int×Unit):=
 let a0:=d.1
 let a1:=d.2.1
 (q32q_l0 N N ((a1,(a0,(([]:List Int),((0:Int),())))))).bind fun o4=>match o4 with
 | .inl d5=>
  some (d5.1,())
noncomputable def S_q32q:FSig:=⟨[(K_PiSPiiqq,false),(I,false)],[K_Si],true,(G_l2Neighbors)⟩
noncomputable def Γ_q70q:Ctx:={ tk:=assoc tks,ar:=assoc ars,fs:=assoc [],cs:=assoc [],gs:=assoc [],eqt:=inL [],md:={ gone:=[0],deep:=[] },cut:=fun t=>bif Nat.beq t 33 then 1 else 0 }
abbrev q70q_l0_H:=List Int×Int×Int×Unit
abbrev q70q_l0_O:=(List Int×Int×Int×Unit)⊕Empty
def q70q_l0_h:Form:=[(0,.own K_Si 1),(1,.v I),(5,.v I)]
def q70q_l0_o:Outs:=[(.normal,[(0,.own K_Si 1),(1,.v I),(5,.v I)])]
noncomputable def q70q_l0_r (N:Nat) (back:q70q_l0_H->Option q70q_l0_O) (d:q70q_l0_H):Option q70q_l0_O:=
 let s0:=d.1
 let s1:=d.2.1
 let s5:=d.2.2.1
 if (decide (s5<(List.length s0:Int)))=true then
  if (idxIn s5 (List.length s0))=true then
  if (decide (at_ I s0 s5.toNat<s1))=true then
   let x8:=IntKind.wrap .i64 (s5+(1:Int))
   back ((s0,(s1,(x8,()))))
  else
   some (.inl ((s0,(s1,(s5,())))))
  else none
 else
  some (.inl ((s0,(s1,(s5,())))))
noncomputable def q70q_l0 (N:Nat):Nat->q70q_l0_H->Option q70q_l0_O
 | 0,_=>none
 | k+1,d=>q70q_l0_r N (q70q_l0 N k) d
noncomputable def F_q70q (N:Nat) (d:List Int×Int×Unit):Option (List Int×List Int×Unit):=
 let a0:=d.1
 let a1:=d.2.1
 (q70q_l0 N N ((a0,(a1,((0:Int),()))))).bind fun o2=>match o2 with
 | .inl d3=>
  if (decide (d3.2.2.1<(List.length d3.1:Int)))=true then
   if (idxIn d3.2.2.1 (List.length d3.1))=true then
   if (at_ I d3.1 d3.2.2.1.toNat==d3.2.1)=true then
    some ((d3.1,(([]:List Int),())))
   else
    if ((decide (0<=(0:Int))&&decide ((0:Int)<=d3.2.2.1)&&decide (d3.2.2.1<=(List.length d3.1:Int))))=true then
    if (decide (List.length ([]:List Int)+List.length (sub_ d3.1 (0:Int) d3.2.2.1)<=lim))=true then
    let x4:=([]:List Int)++(sub_ d3.1 (0:Int) d3.2.2.1)
    if (decide (List.length x4+List.length ([d3.2.1])<=lim))=true then
    if ((decide (0<=d3.2.2.1)&&decide (d3.2.2.1<=(List.length d3.1:Int))&&decide ((List.length d3.1:Int)<=(List.length d3.1:Int))))=true then
    let x5:=sub_ d3.1 d3.2.2.1 (List.length d3.1:Int)
    if (decide (List.length (x4++([d3.2.1]))+List.length x5<=lim))=true then
    some (((x4++([d3.2.1]))++x5,(([]:List Int),())))
    else none
    else none
    else none
    else none
    else none
   else none
  else
   if ((decide (0<=(0:Int))&&decide ((0:Int)<=d3.2.2.1)&&decide (d3.2.2.1<=(List.length d3.1:Int))))=true then
   if (decide (List.length ([]:List Int)+List.length (sub_ d3.1 (0:Int) d3.2.2.1)<=lim))=true then
   let x6:=([]:List Int)++(sub_ d3.1 (0:Int) d3.2.2.1)
   if (decide (List.length x6+List.length ([d3.2.1])<=lim))=true then
   if ((decide (0<=d3.2.2.1)&&decide (d3.2.2.1<=(List.length d3.1:Int))&&decide ((List.length d3.1:Int)<=(List.length d3.1:Int))))=true then
   let x7:=sub_ d3.1 d3.2.2.1 (List.length d3.1:Int)
   if (decide (List.length (x6++([d3.2.1]))+List.length x7<=lim))=true then
   some (((x6++([d3.2.1]))++x7,(([]:List Int),())))
   else none
   else none
   else none
   else none
   else none
noncomputable def S_q70q:FSig:=⟨[(K_Si,true),(I,false)],[K_Si],true,(G_l1PutW)⟩
noncomputable def Γ_q71q:Ctx:={ tk:=assoc tks,ar:=assoc ars,fs:=assoc [(208,S_q32q)],cs:=assoc [],gs:=assoc [(92,(S_q70q,{ gone:=[0],deep:=[] }))],eqt:=inL [],md:=md0 }
noncomputable def F_q71q (N:Nat) (d:(Int×(List (Int×Int×Unit))×Unit)×Int×Unit):Option (List Int×Unit):=
 let a0:=d.1
 let a1:=d.2.1
 (G_l2Neighbors ((a0,(a1,())))).bind fun r1=>
 (G_l1PutW ((r1.1,(a1,())))).bind fun r2=>
 some (r2.1,())
noncomputable def S_q71q:FSig:=⟨[(K_PiSPiiqq,false),(I,false)],[K_Si],true,(F_q71q 0)⟩
noncomputable def Γ_q53q:Ctx:={ tk:=assoc tks,ar:=assoc ars,fs:=assoc [] }
noncomputable def F_q53q (N:Nat) (d:(Int×Int×Unit)×(Int×Int×Unit)×Unit):Option (Bool×Unit):=
 let a0:=d.1
 let a1:=d.2.1
 if (decide (a0.1<a1.1))=true then
  some (true,())
 else
  if (a0.1==a1.1)=true then
   some (decide (a0.2.1<a1.2.1),())
  else
   some (false,())
noncomputable def g_q53q (d:(Int×Int×Unit)×(Int×Int×Unit)×Unit):Bool×Unit:=
 let a0:=d.1
 let a1:=d.2.1
 if (decide (a0.1<a1.1))=true then
  (true,())
 else
  if (a0.1==a1.1)=true then
   (decide (a0.2.1<a1.2.1),())
  else
   (false,())
theorem F_q53q_tot (N:Nat) (d):F_q53q N d=some (g_q53q d):=by
 unfold F_q53q g_q53q
 first
  | rfl
  | (dsimp only; (repeat' split)<;>rfl)
noncomputable def S_q53q:FSig:=⟨[(K_Piiq,false),(K_Piiq,false)],[.bool],true,(fun d=>some (g_q53q d))⟩
noncomputable def Γ_spec_l2Put:Ctx:={ tk:=assoc tks,ar:=assoc ars,fs:=assoc [(200,S_q53q)] }
abbrev spec_l2Put_l0_H:=(List (Int×Int×Unit))×(Int×Int×Unit)×Int×Unit
abbrev spec_l2Put_l0_O:=((List (Int×Int×Unit))×(Int×Int×Unit)×Int×Unit)⊕Empty
def spec_l2Put_l0_h:Form:=[(0,.v K_SPiiq),(3,.box K_Piiq 99),(5,.v I)]
def spec_l2Put_l0_o:Outs:=[(.normal,[(0,.v K_SPiiq),(3,.box K_Piiq 99),(5,.v I)])]
noncomputable def spec_l2Put_l0_r (N:Nat) (back:spec_l2Put_l0_H->Option spec_l2Put_l0_O) (d:spec_l2Put_l0_H):Option spec_l2Put_l0_O:=
 let s0:=d.1
 let s3:=d.2.1
 let s5:=d.2.2.1
 if (decide (s5<(List.length s0:Int)))=true then
  if (idxIn s5 (List.length s0))=true then
  let r7:=g_q53q ((at_ K_Piiq s0 s5.toNat,(s3,())))
  if (r7.1)=true then
   let x8:=IntKind.wrap .i64 (s5+(1:Int))
   back ((s0,(s3,(x8,()))))
  else
   some (.inl ((s0,(s3,(s5,())))))
  else none
 else
  some (.inl ((s0,(s3,(s5,())))))
noncomputable def spec_l2Put_l0 (N:Nat):Nat->spec_l2Put_l0_H->Option spec_l2Put_l0_O
 | 0,_=>none
 | k+1,d=>spec_l2Put_l0_r N (spec_l2Put_l0 N k) d
noncomputable def F_spec_l2Put (N:Nat) (d:(List (Int×Int×Unit))×(Int×Int×Unit)×Unit):Option ((List (Int×Int×Unit))×Unit):=
 let a0:=d.1
 let a1:=d.2.1
 (spec_l2Put_l0 N N ((a0,(a1,((0:Int),()))))).bind fun o3=>match o3 with
 | .inl d4=>
  if ((decide (0<=(0:Int))&&decide ((0:Int)<=d4.2.2.1)&&decide (d4.2.2.1<=(List.length d4.1:Int))))=true then
  if (decide (List.length ([]:List (Int×Int×Unit))+List.length (sub_ d4.1 (0:Int) d4.2.2.1)<=lim))=true then
  let x5:=([]:List (Int×Int×Unit))++(sub_ d4.1 (0:Int) d4.2.2.1)
  if (decide (List.length x5+List.length ([d4.2.1])<=lim))=true then
  if ((decide (0<=d4.2.2.1)&&decide (d4.2.2.1<=(List.length d4.1:Int))&&decide ((List.length d4.1:Int)<=(List.length d4.1:Int))))=true then
  let x6:=sub_ d4.1 d4.2.2.1 (List.length d4.1:Int)
  if (decide (List.length (x5++([d4.2.1]))+List.length x6<=lim))=true then
  some (((x5++([d4.2.1]))++x6,()))
  else none
  else none
  else none
  else none
  else none
noncomputable def S_spec_l2Put:FSig:=⟨[(K_SPiiq,false),(K_Piiq,false)],[K_SPiiq],true,(G_l2Put)⟩
noncomputable def Γ_q35q:Ctx:={ tk:=assoc tks,ar:=assoc ars,fs:=assoc [(91,S_q39q)],lent:=fun t=>Nat.beq t 0 }
noncomputable def F_q35q (N:Nat) (d:(List Int×Int×Int×Unit)×List Int×Unit):Option (Int×(List Int×Int×Int×Unit)×Unit):=
 let a0:=d.1
 let a1:=d.2.1
 ((F_q39q 0) ((a0,((List.length a1:Int),())))).bind fun r1=>
 if (idxIn r1.1 (List.length a1))=true then
 some ((at_ I a1 r1.1.toNat,(r1.2.1,())))
 else none
noncomputable def S_q35q:FSig:=⟨[(K_BPSu8iu64q,true),(K_Si,false)],[I],true,(F_q35q 0)⟩
noncomputable def Γ_q26q:Ctx:={ tk:=assoc tks,ar:=assoc ars,fs:=assoc [(91,S_q39q),(133,S_q35q)],lent:=fun t=>Nat.beq t 0,cs:=assoc [],gs:=assoc [],eqt:=inL [],md:={ gone:=[1],deep:=[] } }
noncomputable def F_q26q (N:Nat) (d:(List Int×Int×Int×Unit)×(Int×(List (Int×Int×Unit))×Unit)×Unit):Option ((Int×(List (Int×Int×Unit))×Unit)×(List Int×Int×Int×Unit)×(Int×(List (Int×Int×Unit))×Unit)×Unit):=
 let a0:=d.1
 let a1:=d.2.1
 ((F_q39q 0) ((a0,((50:Int),())))).bind fun r1=>
 if (r1.1==(0:Int))=true then
  ((F_q35q 0) ((r1.2.1,([(-1:Int),(8:Int),(9:Int),(0:Int),(4611686018427387904:Int)],())))).bind fun r2=>
  some (((r2.1,a1.2),(r2.2.1,(((0:Int),(([]:List (Int×Int×Unit)),())),()))))
 else
  if (r1.1==(1:Int))=true then
   ((F_q39q 0) ((r1.2.1,((4:Int),())))).bind fun r3=>
   ((F_q39q 0) ((r3.2.1,((9:Int),())))).bind fun r4=>
   let x5:=IntKind.wrap .i64 (r4.1-(1:Int))
   if (decide (List.length a1.2.1+List.length ([(r3.1,(x5,()))])<=lim))=true then
   let x6:=a1.2.1++([(r3.1,(x5,()))])
   some (((a1.1,(x6,a1.2.2)),(r4.2.1,(((0:Int),(([]:List (Int×Int×Unit)),())),()))))
   else none
  else
   if (r1.1==(2:Int))=true then
    if (decide ((List.length a1.2.1:Int)>(0:Int)))=true then
     ((F_q39q 0) ((r1.2.1,((List.length a1.2.1:Int),())))).bind fun r7=>
     if (idxIn r7.1 (List.length a1.2.1))=true then
     if (decide (List.length a1.2.1+List.length ([at_ K_Piiq a1.2.1 r7.1.toNat])<=lim))=true then
     let x8:=a1.2.1++([at_ K_Piiq a1.2.1 r7.1.toNat])
     some (((a1.1,(x8,a1.2.2)),(r7.2.1,(((0:Int),(([]:List (Int×Int×Unit)),())),()))))
     else none
     else none
    else
     some ((a1,(r1.2.1,(((0:Int),(([]:List (Int×Int×Unit)),())),()))))
   else
    some ((a1,(r1.2.1,(((0:Int),(([]:List (Int×Int×Unit)),())),()))))
noncomputable def S_q26q:FSig:=⟨[(K_BPSu8iu64q,true),(K_PiSPiiqq,true)],[K_PiSPiiqq],true,(F_q26q 0)⟩
noncomputable def Γ_q46q:Ctx:={ tk:=assoc tks,ar:=assoc ars,fs:=assoc [(89,S_q49q),(91,S_q39q),(124,S_q71q),(186,S_spec_l2Put)],lent:=fun t=>Nat.beq t 0,cs:=assoc [],gs:=assoc [(241,(S_q26q,{ gone:=[1],deep:=[] }))],eqt:=inL [],md:=md0 }
abbrev q46q_l2_H:=(List Int×Int×Int×Unit)×(Int×(List (Int×Int×Unit))×Unit)×(Int×(List (Int×Int×Unit))×Unit)×Int×Int×List Int×Int×Unit
abbrev q46q_l2_O:=((List Int×Int×Int×Unit)×(Int×(List (Int×Int×Unit))×Unit)×(Int×(List (Int×Int×Unit))×Unit)×Int×Unit)⊕Empty
def q46q_l2_h:Form:=[(0,.box K_PSu8iu64q 0),(4,.box K_PiSPiiqq 99),(5,.box K_PiSPiiqq 99),(6,.v I),(7,.v I),(8,.own K_Si 99),(9,.v I)]
def q46q_l2_o:Outs:=[(.normal,[(0,.box K_PSu8iu64q 0),(4,.box K_PiSPiiqq 99),(5,.box K_PiSPiiqq 99),(6,.v I)])]
noncomputable def q46q_l2_r (N:Nat) (back:q46q_l2_H->Option q46q_l2_O) (d:q46q_l2_H):Option q46q_l2_O:=
 let s0:=d.1
 let s4:=d.2.1
 let s5:=d.2.2.1
 let s6:=d.2.2.2.1
 let s7:=d.2.2.2.2.1
 let s8:=d.2.2.2.2.2.1
 let s9:=d.2.2.2.2.2.2.1
 if (decide (s9<(List.length s8:Int)))=true then
  if (idxIn s9 (List.length s8))=true then
  if (decide (at_ I s8 s9.toNat<s6))=true then
   if (idxIn s9 (List.length s8))=true then
   if (at_ I s8 s9.toNat==s7)=true then
    if (idxIn s9 (List.length s8))=true then
    (G_l2Put ((s5.2.1,((at_ I s8 s9.toNat,(s6,())),())))).bind fun r31=>
    let x32:=IntKind.wrap .i64 (s9+(1:Int))
    back ((s0,(s4,((s5.1,(r31.1,s5.2.2)),(s6,(s7,(s8,(x32,()))))))))
    else none
   else
    ((F_q49q 0) ((s0,((2:Int),())))).bind fun r33=>
    if (r33.1)=true then
     if (idxIn s9 (List.length s8))=true then
     (G_l2Put ((s5.2.1,((at_ I s8 s9.toNat,(s6,())),())))).bind fun r34=>
     let x35:=IntKind.wrap .i64 (s9+(1:Int))
     back ((r33.2.1,(s4,((s5.1,(r34.1,s5.2.2)),(s6,(s7,(s8,(x35,()))))))))
     else none
    else
     let x36:=IntKind.wrap .i64 (s9+(1:Int))
     back ((r33.2.1,(s4,(s5,(s6,(s7,(s8,(x36,()))))))))
   else none
  else
   let x37:=IntKind.wrap .i64 (s9+(1:Int))
   back ((s0,(s4,(s5,(s6,(s7,(s8,(x37,()))))))))
  else none
 else
  some (.inl ((s0,(s4,(s5,(s6,()))))))
noncomputable def q46q_l2 (N:Nat):Nat->q46q_l2_H->Option q46q_l2_O
 | 0,_=>none
 | k+1,d=>q46q_l2_r N (q46q_l2 N k) d
abbrev q46q_l0_H:=(List Int×Int×Int×Unit)×(Int×(List (Int×Int×Unit))×Unit)×(Int×(List (Int×Int×Unit))×Unit)×Int×Unit
abbrev q46q_l0_O:=((List Int×Int×Int×Unit)×(Int×(List (Int×Int×Unit))×Unit)×(Int×(List (Int×Int×Unit))×Unit)×Unit)⊕Empty
def q46q_l0_h:Form:=[(0,.box K_PSu8iu64q 0),(4,.box K_PiSPiiqq 99),(5,.box K_PiSPiiqq 99),(6,.v I)]
def q46q_l0_o:Outs:=[(.normal,[(0,.box K_PSu8iu64q 0),(4,.box K_PiSPiiqq 99),(5,.box K_PiSPiiqq 99)])]
noncomputable def q46q_l0_r (N:Nat) (back:q46q_l0_H->Option q46q_l0_O) (d:q46q_l0_H):Option q46q_l0_O:=
 let s0:=d.1
 let s4:=d.2.1
 let s5:=d.2.2.1
 let s6:=d.2.2.2.1
 if (decide (s6<s5.1))=true then
  ((F_q39q 0) ((s0,(s6,())))).bind fun r19=>
  ((F_q71q 0) ((s5,(r19.1,())))).bind fun r20=>
  (q46q_l2 N N ((r19.2.1,(s4,(s5,(s6,(r19.1,(r20.1,((0:Int),()))))))))).bind fun o28=>match o28 with
  | .inl d29=>
   let x30:=IntKind.wrap .i64 (d29.2.2.2.1+(1:Int))
   back ((d29.1,(d29.2.1,(d29.2.2.1,(x30,())))))
 else
  some (.inl ((s0,(s4,(s5,())))))
noncomputable def q46q_l0 (N:Nat):Nat->q46q_l0_H->Option q46q_l0_O
 | 0,_=>none
 | k+1,d=>q46q_l0_r N (q46q_l0 N k) d
noncomputable def F_q46q (N:Nat) (d:(List Int×Int×Int×Unit)×Int×Unit):Option ((Int×(List (Int×Int×Unit))×Unit)×(List Int×Int×Int×Unit)×Unit):=
 let a0:=d.1
 let a1:=d.2.1
 ((F_q39q 0) ((a0,(a1,())))).bind fun r1=>
 let x2:=IntKind.wrap .i64 ((1:Int)+r1.1)
 (q46q_l0 N N ((r1.2.1,(((0:Int),(([]:List (Int×Int×Unit)),())),((x2,(([]:List (Int×Int×Unit)),())),((1:Int),())))))).bind fun o15=>match o15 with
 | .inl d16=>
  ((F_q49q 0) ((d16.1,((6:Int),())))).bind fun r17=>
  if (r17.1)=true then
   ((F_q26q 0) ((r17.2.1,(d16.2.2.1,())))).bind fun r18=>
   some ((r18.1,(r18.2.1,())))
  else
   some ((d16.2.2.1,(r17.2.1,())))
noncomputable def S_q46q:FSig:=⟨[(K_BPSu8iu64q,true),(I,false)],[K_PiSPiiqq],true,(pickF F_q46q P_someG)⟩
noncomputable def Γ_q61q:Ctx:={ tk:=assoc tks,ar:=assoc ars,fs:=assoc [] }
noncomputable def F_q61q (N:Nat) (d:Int×Int×Unit):Option (Int×Unit):=
 let a0:=d.1
 let a1:=d.2.1
 if (decide (a0<a1))=true then
  some (a0,())
 else
  some (a1,())
noncomputable def g_q61q (d:Int×Int×Unit):Int×Unit:=
 let a0:=d.1
 let a1:=d.2.1
 if (decide (a0<a1))=true then
  (a0,())
 else
  (a1,())
theorem F_q61q_tot (N:Nat) (d):F_q61q N d=some (g_q61q d):=by
 unfold F_q61q g_q61q
 first
  | rfl
  | (dsimp only; (repeat' split)<;>rfl)
noncomputable def S_q61q:FSig:=⟨[(I,false),(I,false)],[I],true,(fun d=>some (g_q61q d))⟩
noncomputable def Γ_q76q:Ctx:={ tk:=assoc tks,ar:=assoc ars,fs:=assoc [] }
abbrev q76q_l0_H:=Int×(Int×(List (Int×Int×Unit))×Unit)×(Int×(List (Int×Int×Unit))×Unit)×Int×Unit
abbrev q76q_l0_O:=((Int×(List (Int×Int×Unit))×Unit)×(Int×(List (Int×Int×Unit))×Unit)×Unit)⊕Empty
def q76q_l0_h:Form:=[(0,.v I),(2,.box K_PiSPiiqq 99),(3,.box K_PiSPiiqq 99),(4,.v I)]
def q76q_l0_o:Outs:=[(.normal,[(2,.box K_PiSPiiqq 99),(3,.box K_PiSPiiqq 99)])]
noncomputable def q76q_l0_r (N:Nat) (back:q76q_l0_H->Option q76q_l0_O) (d:q76q_l0_H):Option q76q_l0_O:=
 let s0:=d.1
 let s2:=d.2.1
 let s3:=d.2.2.1
 let s4:=d.2.2.2.1
 let x6:=IntKind.wrap .i64 (s4+(1:Int))
 if (decide (x6<s0))=true then
  let x7:=IntKind.wrap .i64 (s4+(1:Int))
  if (decide (List.length s3.2.1+List.length ([(s4,(x7,()))])<=lim))=true then
  let x8:=IntKind.wrap .i64 (s4+(1:Int))
  back ((s0,(s2,((s3.1,(s3.2.1++([(s4,(x7,()))]),s3.2.2)),(x8,())))))
  else none
 else
  some (.inl ((s2,(s3,()))))
noncomputable def q76q_l0 (N:Nat):Nat->q76q_l0_H->Option q76q_l0_O
 | 0,_=>none
 | k+1,d=>q76q_l0_r N (q76q_l0 N k) d
noncomputable def F_q76q (N:Nat) (d:Int×Unit):Option ((Int×(List (Int×Int×Unit))×Unit)×Unit):=
 let a0:=d.1
 (q76q_l0 N N ((a0,(((0:Int),(([]:List (Int×Int×Unit)),())),((a0,(([]:List (Int×Int×Unit)),())),((0:Int),())))))).bind fun o4=>match o4 with
 | .inl d5=>
  some (d5.2.1,())
noncomputable def S_q76q:FSig:=⟨[(I,false)],[K_PiSPiiqq],true,(pickF F_q76q P_path)⟩
noncomputable def Γ_q67q:Ctx:={ tk:=assoc tks,ar:=assoc ars,fs:=assoc [(185,S_q76q),(186,S_spec_l2Put)] }
noncomputable def F_q67q (N:Nat) (d:Int×Unit):Option ((Int×(List (Int×Int×Unit))×Unit)×Unit):=
 let a0:=d.1
 ((pickF F_q76q P_path) (a0,())).bind fun r1=>
 let x2:=IntKind.wrap .i64 (a0-(1:Int))
 (G_l2Put ((r1.1.2.1,(((0:Int),(x2,())),())))).bind fun r3=>
 some (((r1.1.1,(r3.1,r1.1.2.2)),()))
noncomputable def S_q67q:FSig:=⟨[(I,false)],[K_PiSPiiqq],true,(F_q67q 0)⟩
noncomputable def Γ_q38q:Ctx:={ tk:=assoc tks,ar:=assoc ars,fs:=assoc [] }
abbrev q38q_l2_H:=Int×(Int×(List (Int×Int×Unit))×Unit)×(Int×(List (Int×Int×Unit))×Unit)×Int×Int×Unit
abbrev q38q_l2_O:=(Int×(Int×(List (Int×Int×Unit))×Unit)×(Int×(List (Int×Int×Unit))×Unit)×Int×Unit)⊕Empty
def q38q_l2_h:Form:=[(0,.v I),(2,.box K_PiSPiiqq 99),(3,.box K_PiSPiiqq 99),(4,.v I),(5,.v I)]
def q38q_l2_o:Outs:=[(.normal,[(0,.v I),(2,.box K_PiSPiiqq 99),(3,.box K_PiSPiiqq 99),(4,.v I)])]
noncomputable def q38q_l2_r (N:Nat) (back:q38q_l2_H->Option q38q_l2_O) (d:q38q_l2_H):Option q38q_l2_O:=
 let s0:=d.1
 let s2:=d.2.1
 let s3:=d.2.2.1
 let s4:=d.2.2.2.1
 let s5:=d.2.2.2.2.1
 if (decide (s5<s0))=true then
  if (decide (List.length s3.2.1+List.length ([(s4,(s5,()))])<=lim))=true then
  let x13:=IntKind.wrap .i64 (s5+(1:Int))
  back ((s0,(s2,((s3.1,(s3.2.1++([(s4,(s5,()))]),s3.2.2)),(s4,(x13,()))))))
  else none
 else
  some (.inl ((s0,(s2,(s3,(s4,()))))))
noncomputable def q38q_l2 (N:Nat):Nat->q38q_l2_H->Option q38q_l2_O
 | 0,_=>none
 | k+1,d=>q38q_l2_r N (q38q_l2 N k) d
abbrev q38q_l0_H:=Int×(Int×(List (Int×Int×Unit))×Unit)×(Int×(List (Int×Int×Unit))×Unit)×Int×Unit
abbrev q38q_l0_O:=((Int×(List (Int×Int×Unit))×Unit)×(Int×(List (Int×Int×Unit))×Unit)×Unit)⊕Empty
def q38q_l0_h:Form:=[(0,.v I),(2,.box K_PiSPiiqq 99),(3,.box K_PiSPiiqq 99),(4,.v I)]
def q38q_l0_o:Outs:=[(.normal,[(2,.box K_PiSPiiqq 99),(3,.box K_PiSPiiqq 99)])]
noncomputable def q38q_l0_r (N:Nat) (back:q38q_l0_H->Option q38q_l0_O) (d:q38q_l0_H):Option q38q_l0_O:=
 let s0:=d.1
 let s2:=d.2.1
 let s3:=d.2.2.1
 let s4:=d.2.2.2.1
 if (decide (s4<s0))=true then
  let x8:=IntKind.wrap .i64 (s4+(1:Int))
  (q38q_l2 N N ((s0,(s2,(s3,(s4,(x8,()))))))).bind fun o10=>match o10 with
  | .inl d11=>
   let x12:=IntKind.wrap .i64 (d11.2.2.2.1+(1:Int))
   back ((d11.1,(d11.2.1,(d11.2.2.1,(x12,())))))
 else
  some (.inl ((s2,(s3,()))))
noncomputable def q38q_l0 (N:Nat):Nat->q38q_l0_H->Option q38q_l0_O
 | 0,_=>none
 | k+1,d=>q38q_l0_r N (q38q_l0 N k) d
noncomputable def F_q38q (N:Nat) (d:Int×Unit):Option ((Int×(List (Int×Int×Unit))×Unit)×Unit):=
 let a0:=d.1
 (q38q_l0 N N ((a0,(((0:Int),(([]:List (Int×Int×Unit)),())),((a0,(([]:List (Int×Int×Unit)),())),((0:Int),())))))).bind fun o6=>match o6 with
 | .inl d7=>
  some (d7.2.1,())
noncomputable def S_q38q:FSig:=⟨[(I,false)],[K_PiSPiiqq],true,(pickF F_q38q P_path)⟩
noncomputable def Γ_q77q:Ctx:={ tk:=assoc tks,ar:=assoc ars,fs:=assoc [] }
noncomputable def F_q77q (N:Nat) (d:Int×Int×Unit):Option (Int×Unit):=
 let a0:=d.1
 let a1:=d.2.1
 if (decide (a0>a1))=true then
  some (a0,())
 else
  some (a1,())
noncomputable def g_q77q (d:Int×Int×Unit):Int×Unit:=
 let a0:=d.1
 let a1:=d.2.1
 if (decide (a0>a1))=true then
  (a0,())
 else
  (a1,())
theorem F_q77q_tot (N:Nat) (d):F_q77q N d=some (g_q77q d):=by
 unfold F_q77q g_q77q
 first
  | rfl
  | (dsimp only; (repeat' split)<;>rfl)
noncomputable def S_q77q:FSig:=⟨[(I,false),(I,false)],[I],true,(fun d=>some (g_q77q d))⟩
noncomputable def Γ_q12q:Ctx:={ tk:=assoc tks,ar:=assoc ars,fs:=assoc [(89,S_q49q),(90,S_q67q),(91,S_q39q),(133,S_q35q),(185,S_q76q),(186,S_spec_l2Put),(201,S_q77q),(238,S_q61q),(239,S_q38q),(240,S_q80q)],lent:=fun t=>Nat.beq t 0,cs:=assoc [],gs:=assoc [(241,(S_q26q,{ gone:=[1],deep:=[] }))],eqt:=inL [],md:=md0 }
abbrev q12q_l3_H:=(List Int×Int×Int×Unit)×(Int×(List (Int×Int×Unit))×Unit)×Int×(Int×(List (Int×Int×Unit))×Unit)×Int×Bool×Int×Int×Unit
abbrev q12q_l3_O:=((List Int×Int×Int×Unit)×(Int×(List (Int×Int×Unit))×Unit)×Int×(Int×(List (Int×Int×Unit))×Unit)×Int×Bool×Int×Unit)⊕Empty
def q12q_l3_h:Form:=[(0,.box K_PSu8iu64q 0),(4,.box K_PiSPiiqq 99),(5,.v I),(6,.box K_PiSPiiqq 99),(7,.v I),(8,.v .bool),(9,.v I),(10,.v I)]
def q12q_l3_o:Outs:=[(.normal,[(0,.box K_PSu8iu64q 0),(4,.box K_PiSPiiqq 99),(5,.v I),(6,.box K_PiSPiiqq 99),(7,.v I),(8,.v .bool),(9,.v I)])]
noncomputable def q12q_l3_r (N:Nat) (back:q12q_l3_H->Option q12q_l3_O) (d:q12q_l3_H):Option q12q_l3_O:=
 let s0:=d.1
 let s4:=d.2.1
 let s5:=d.2.2.1
 let s6:=d.2.2.2.1
 let s7:=d.2.2.2.2.1
 let s8:=d.2.2.2.2.2.1
 let s9:=d.2.2.2.2.2.2.1
 let s10:=d.2.2.2.2.2.2.2.1
 if (decide (s10<s5))=true then
  ((F_q39q 0) ((s0,(s7,())))).bind fun r77=>
  if (r77.1==(0:Int))=true then
   (G_l2Put ((s6.2.1,((s9,(s10,())),())))).bind fun r78=>
   let x79:=IntKind.wrap .i64 (s10+(1:Int))
   back ((r77.2.1,(s4,(s5,((s6.1,(r78.1,s6.2.2)),(s7,(s8,(s9,(x79,())))))))))
  else
   let x80:=IntKind.wrap .i64 (s10+(1:Int))
   back ((r77.2.1,(s4,(s5,(s6,(s7,(s8,(s9,(x80,())))))))))
 else
  some (.inl ((s0,(s4,(s5,(s6,(s7,(s8,(s9,())))))))))
noncomputable def q12q_l3 (N:Nat):Nat->q12q_l3_H->Option q12q_l3_O
 | 0,_=>none
 | k+1,d=>q12q_l3_r N (q12q_l3 N k) d
abbrev q12q_l1_H:=(List Int×Int×Int×Unit)×(Int×(List (Int×Int×Unit))×Unit)×Int×(Int×(List (Int×Int×Unit))×Unit)×Int×Bool×Int×Unit
abbrev q12q_l1_O:=((List Int×Int×Int×Unit)×(Int×(List (Int×Int×Unit))×Unit)×(Int×(List (Int×Int×Unit))×Unit)×Unit)⊕Empty
def q12q_l1_h:Form:=[(0,.box K_PSu8iu64q 0),(4,.box K_PiSPiiqq 99),(5,.v I),(6,.box K_PiSPiiqq 99),(7,.v I),(8,.v .bool),(9,.v I)]
def q12q_l1_o:Outs:=[(.normal,[(0,.box K_PSu8iu64q 0),(4,.box K_PiSPiiqq 99),(6,.box K_PiSPiiqq 99)])]
noncomputable def q12q_l1_r (N:Nat) (back:q12q_l1_H->Option q12q_l1_O) (d:q12q_l1_H):Option q12q_l1_O:=
 let s0:=d.1
 let s4:=d.2.1
 let s5:=d.2.2.1
 let s6:=d.2.2.2.1
 let s7:=d.2.2.2.2.1
 let s8:=d.2.2.2.2.2.1
 let s9:=d.2.2.2.2.2.2.1
 if (decide (s9<s5))=true then
  let x62:=IntKind.wrap .i64 (s9+(1:Int))
  (q12q_l3 N N ((s0,(s4,(s5,(s6,(s7,(s8,(s9,(x62,())))))))))).bind fun o67=>match o67 with
  | .inl d68=>
   let r69:=g_q77q ((d68.2.2.2.2.2.2.1,((1:Int),())))
   ((F_q39q 0) ((d68.1,(r69.1,())))).bind fun r70=>
   if (decide (d68.2.2.2.2.2.2.1>(0:Int)))=true then
    if (!d68.2.2.2.2.2.1)=true then
     (G_l2Near ((d68.2.2.2.1,(d68.2.2.2.2.2.2.1,(r70.1,()))))).bind fun r71=>
     if (!r71.1)=true then
      (G_l2Put ((d68.2.2.2.1.2.1,((r70.1,(d68.2.2.2.2.2.2.1,())),())))).bind fun r72=>
      let x73:=IntKind.wrap .i64 (d68.2.2.2.2.2.2.1+(1:Int))
      back ((r70.2.1,(d68.2.1,(d68.2.2.1,((d68.2.2.2.1.1,(r72.1,d68.2.2.2.1.2.2)),(d68.2.2.2.2.1,(d68.2.2.2.2.2.1,(x73,()))))))))
     else
      let x74:=IntKind.wrap .i64 (d68.2.2.2.2.2.2.1+(1:Int))
      back ((r70.2.1,(d68.2.1,(d68.2.2.1,(d68.2.2.2.1,(d68.2.2.2.2.1,(d68.2.2.2.2.2.1,(x74,()))))))))
    else
     let x75:=IntKind.wrap .i64 (d68.2.2.2.2.2.2.1+(1:Int))
     back ((r70.2.1,(d68.2.1,(d68.2.2.1,(d68.2.2.2.1,(d68.2.2.2.2.1,(d68.2.2.2.2.2.1,(x75,()))))))))
   else
    let x76:=IntKind.wrap .i64 (d68.2.2.2.2.2.2.1+(1:Int))
    back ((r70.2.1,(d68.2.1,(d68.2.2.1,(d68.2.2.2.1,(d68.2.2.2.2.1,(d68.2.2.2.2.2.1,(x76,()))))))))
 else
  some (.inl ((s0,(s4,(s6,())))))
noncomputable def q12q_l1 (N:Nat):Nat->q12q_l1_H->Option q12q_l1_O
 | 0,_=>none
 | k+1,d=>q12q_l1_r N (q12q_l1 N k) d
noncomputable def F_q12q (N:Nat) (d:(List Int×Int×Int×Unit)×Int×Unit):Option ((Int×(List (Int×Int×Unit))×Unit)×(List Int×Int×Int×Unit)×Unit):=
 let a0:=d.1
 let a1:=d.2.1
 ((F_q35q 0) ((a0,([(4:Int),(5:Int),(3:Int),(6:Int),(2:Int),(1:Int),(0:Int)],())))).bind fun r1=>
 if (decide (a1>(6:Int)))=true then
  ((F_q49q 0) ((r1.2.1,((4:Int),())))).bind fun r2=>
  if (r2.1)=true then
   ((F_q39q 0) ((r2.2.1,((2:Int),())))).bind fun r3=>
   let x4:=IntKind.wrap .i64 ((7:Int)+r3.1)
   let r5:=g_q61q ((x4,(a1,())))
   ((F_q39q 0) ((r3.2.1,((8:Int),())))).bind fun r6=>
   if (r6.1==(0:Int))=true then
    ((pickF F_q76q P_path) (r5.1,())).bind fun r7=>
    ((F_q26q 0) ((r6.2.1,(r7.1,())))).bind fun r8=>
    some ((r8.1,(r8.2.1,())))
   else
    if (r6.1==(1:Int))=true then
     if (decide (r5.1>(2:Int)))=true then
      ((F_q67q 0) (r5.1,())).bind fun r9=>
      ((F_q26q 0) ((r6.2.1,(r9.1,())))).bind fun r10=>
      some ((r10.1,(r10.2.1,())))
     else
      ((F_q26q 0) ((r6.2.1,((r5.1,(([]:List (Int×Int×Unit)),())),())))).bind fun r11=>
      some ((r11.1,(r11.2.1,())))
    else
     if (r6.1==(2:Int))=true then
      ((pickF F_q38q P_path) (r5.1,())).bind fun r12=>
      ((F_q26q 0) ((r6.2.1,(r12.1,())))).bind fun r13=>
      some ((r13.1,(r13.2.1,())))
     else
      ((F_q35q 0) ((r6.2.1,([(3:Int),(4:Int),(6:Int)],())))).bind fun r14=>
      ((F_q49q 0) ((r14.2.1,((6:Int),())))).bind fun r15=>
      (q12q_l1 N N ((r15.2.1,(((0:Int),(([]:List (Int×Int×Unit)),())),(r5.1,((r5.1,(([]:List (Int×Int×Unit)),())),(r14.1,(r15.1,((0:Int),()))))))))).bind fun o31=>match o31 with
      | .inl d32=>
       ((F_q26q 0) ((d32.1,(d32.2.2.1,())))).bind fun r33=>
       some ((r33.1,(r33.2.1,())))
  else
   let r34:=g_q61q ((r1.1,(a1,())))
   ((F_q39q 0) ((r2.2.1,((8:Int),())))).bind fun r35=>
   if (r35.1==(0:Int))=true then
    ((pickF F_q76q P_path) (r34.1,())).bind fun r36=>
    ((F_q26q 0) ((r35.2.1,(r36.1,())))).bind fun r37=>
    some ((r37.1,(r37.2.1,())))
   else
    if (r35.1==(1:Int))=true then
     if (decide (r34.1>(2:Int)))=true then
      ((F_q67q 0) (r34.1,())).bind fun r38=>
      ((F_q26q 0) ((r35.2.1,(r38.1,())))).bind fun r39=>
      some ((r39.1,(r39.2.1,())))
     else
      ((F_q26q 0) ((r35.2.1,((r34.1,(([]:List (Int×Int×Unit)),())),())))).bind fun r40=>
      some ((r40.1,(r40.2.1,())))
    else
     if (r35.1==(2:Int))=true then
      ((pickF F_q38q P_path) (r34.1,())).bind fun r41=>
      ((F_q26q 0) ((r35.2.1,(r41.1,())))).bind fun r42=>
      some ((r42.1,(r42.2.1,())))
     else
      ((F_q35q 0) ((r35.2.1,([(3:Int),(4:Int),(6:Int)],())))).bind fun r43=>
      ((F_q49q 0) ((r43.2.1,((6:Int),())))).bind fun r44=>
      (q12q_l1 N N ((r44.2.1,(((0:Int),(([]:List (Int×Int×Unit)),())),(r34.1,((r34.1,(([]:List (Int×Int×Unit)),())),(r43.1,(r44.1,((0:Int),()))))))))).bind fun o45=>match o45 with
      | .inl d46=>
       ((F_q26q 0) ((d46.1,(d46.2.2.1,())))).bind fun r47=>
       some ((r47.1,(r47.2.1,())))
 else
  let r48:=g_q61q ((r1.1,(a1,())))
  ((F_q39q 0) ((r1.2.1,((8:Int),())))).bind fun r49=>
  if (r49.1==(0:Int))=true then
   ((pickF F_q76q P_path) (r48.1,())).bind fun r50=>
   ((F_q26q 0) ((r49.2.1,(r50.1,())))).bind fun r51=>
   some ((r51.1,(r51.2.1,())))
  else
   if (r49.1==(1:Int))=true then
    if (decide (r48.1>(2:Int)))=true then
     ((F_q67q 0) (r48.1,())).bind fun r52=>
     ((F_q26q 0) ((r49.2.1,(r52.1,())))).bind fun r53=>
     some ((r53.1,(r53.2.1,())))
    else
     ((F_q26q 0) ((r49.2.1,((r48.1,(([]:List (Int×Int×Unit)),())),())))).bind fun r54=>
     some ((r54.1,(r54.2.1,())))
   else
    if (r49.1==(2:Int))=true then
     ((pickF F_q38q P_path) (r48.1,())).bind fun r55=>
     ((F_q26q 0) ((r49.2.1,(r55.1,())))).bind fun r56=>
     some ((r56.1,(r56.2.1,())))
    else
     ((F_q35q 0) ((r49.2.1,([(3:Int),(4:Int),(6:Int)],())))).bind fun r57=>
     ((F_q49q 0) ((r57.2.1,((6:Int),())))).bind fun r58=>
     (q12q_l1 N N ((r58.2.1,(((0:Int),(([]:List (Int×Int×Unit)),())),(r48.1,((r48.1,(([]:List (Int×Int×Unit)),())),(r57.1,(r58.1,((0:Int),()))))))))).bind fun o59=>match o59 with
     | .inl d60=>
      ((F_q26q 0) ((d60.1,(d60.2.2.1,())))).bind fun r61=>
      some ((r61.1,(r61.2.1,())))
noncomputable def S_q12q:FSig:=⟨[(K_BPSu8iu64q,true),(I,false)],[K_PiSPiiqq],true,(pickF F_q12q P_someG)⟩
noncomputable def Γ_q28q:Ctx:={ tk:=assoc tks,ar:=assoc ars,fs:=assoc [(183,S_q12q)],lent:=fun t=>Nat.beq t 0 }
noncomputable def F_q28q (N:Nat) (d:(List Int×Int×Int×Unit)×Unit):Option ((Int×(List (Int×Int×Unit))×Unit)×(List Int×Int×Int×Unit)×Unit):=
 let a0:=d.1
 ((pickF F_q12q P_someG) ((a0,((6:Int),())))).bind fun r1=>
 some ((r1.1,(r1.2.1,())))
noncomputable def S_q28q:FSig:=⟨[(K_BPSu8iu64q,true)],[K_PiSPiiqq],true,(F_q28q 0)⟩
noncomputable def Γ_q23q:Ctx:={ tk:=assoc tks,ar:=assoc ars,fs:=assoc [(89,S_q49q),(193,S_q46q),(194,S_q28q)],lent:=fun t=>Nat.beq t 0 }
noncomputable def F_q23q (N:Nat) (d:(List Int×Int×Int×Unit)×Unit):Option ((Int×(List (Int×Int×Unit))×Unit)×(List Int×Int×Int×Unit)×Unit):=
 let a0:=d.1
 ((F_q49q 0) ((a0,((2:Int),())))).bind fun r1=>
 if (r1.1)=true then
  ((pickF F_q46q P_someG) ((r1.2.1,((6:Int),())))).bind fun r2=>
  some ((r2.1,(r2.2.1,())))
 else
  ((F_q28q 0) (r1.2.1,())).bind fun r3=>
  some ((r3.1,(r3.2.1,())))
noncomputable def S_q23q:FSig:=⟨[(K_BPSu8iu64q,true)],[K_PiSPiiqq],true,(F_q23q 0)⟩
noncomputable def Γ_q45q:Ctx:={ tk:=assoc tks,ar:=assoc ars,fs:=assoc [(89,S_q49q),(91,S_q39q),(133,S_q35q)],lent:=fun t=>Nat.beq t 0 }
noncomputable def F_q45q (N:Nat) (d:(List Int×Int×Int×Unit)×(Int×(List (Int×Int×Unit))×Unit)×Unit):Option (Int×(List Int×Int×Int×Unit)×Unit):=
 let a0:=d.1
 let a1:=d.2.1
 if (decide (a1.1<(1:Int)))=true then
  ((F_q35q 0) ((a0,([(-1:Int),(0:Int),(8:Int),(4611686018427387904:Int)],())))).bind fun r1=>
  some ((r1.1,(r1.2.1,())))
 else
  if (decide (a1.1>(8:Int)))=true then
   ((F_q35q 0) ((a0,([(-1:Int),(0:Int),(8:Int),(4611686018427387904:Int)],())))).bind fun r2=>
   some ((r2.1,(r2.2.1,())))
  else
   ((F_q49q 0) ((a0,((24:Int),())))).bind fun r3=>
   if (r3.1)=true then
    ((F_q35q 0) ((r3.2.1,([(-1:Int),(0:Int),(8:Int),(4611686018427387904:Int)],())))).bind fun r4=>
    some ((r4.1,(r4.2.1,())))
   else
    ((F_q39q 0) ((r3.2.1,(a1.1,())))).bind fun r5=>
    some ((r5.1,(r5.2.1,())))
noncomputable def S_q45q:FSig:=⟨[(K_BPSu8iu64q,true),(K_PiSPiiqq,false)],[I],true,(F_q45q 0)⟩
noncomputable def Γ_q31q:Ctx:={ tk:=assoc tks,ar:=assoc ars,fs:=assoc [(93,S_q45q),(105,S_q23q)],cs:=assoc [],gs:=assoc [],eqt:=inL [],md:=md0,ad:=fun t=>bif Nat.beq t 6 then 0 else 99 }
noncomputable def F_q31q (N:Nat) (d:List Int×Unit):Option ((Int×(List (Int×Int×Unit))×Unit)×Int×Int×Unit):=
 let a0:=d.1
 ((F_q23q 0) (((a0,((0:Int),((0:Int),()))),()))).bind fun r4=>
 ((F_q45q 0) ((r4.2.1,(r4.1,())))).bind fun r5=>
 ((F_q45q 0) ((r5.2.1,(r4.1,())))).bind fun r6=>
 some ((r4.1,(r5.1,(r6.1,()))))
noncomputable def S_q31q:FSig:=⟨[(K_Su8,false)],[K_PiSPiiqq,I,I],false,(F_q31q 0)⟩
noncomputable def Γ_q74q:Ctx:={ tk:=assoc tks,ar:=assoc ars,fs:=assoc [] }
noncomputable def F_q74q (N:Nat) (d:Int×Int×Int×Unit):Option (Bool×Unit):=
 let a0:=d.1
 let a1:=d.2.1
 let a2:=d.2.2.1
 if (decide (a0>=a1))=true then
  some (decide (a0<=a2),())
 else
  some (false,())
noncomputable def g_q74q (d:Int×Int×Int×Unit):Bool×Unit:=
 let a0:=d.1
 let a1:=d.2.1
 let a2:=d.2.2.1
 if (decide (a0>=a1))=true then
  (decide (a0<=a2),())
 else
  (false,())
theorem F_q74q_tot (N:Nat) (d):F_q74q N d=some (g_q74q d):=by
 unfold F_q74q g_q74q
 first
  | rfl
  | (dsimp only; (repeat' split)<;>rfl)
noncomputable def S_q74q:FSig:=⟨[(I,false),(I,false),(I,false)],[.bool],true,(fun d=>some (g_q74q d))⟩
noncomputable def Γ_q51q:Ctx:={ tk:=assoc tks,ar:=assoc ars,fs:=assoc [] }
noncomputable def F_q51q (N:Nat) (d:Int×Unit):Option (Bool×Unit):=
 let a0:=d.1
 some (a0 != a0,())
noncomputable def g_q51q (d:Int×Unit):Bool×Unit:=
 let a0:=d.1
 (a0 != a0,())
theorem F_q51q_tot (N:Nat) (d):F_q51q N d=some (g_q51q d):=by
 unfold F_q51q g_q51q
 first
  | rfl
  | (dsimp only; (repeat' split)<;>rfl)
noncomputable def S_q51q:FSig:=⟨[(I,false)],[.bool],true,(fun d=>some (g_q51q d))⟩
noncomputable def Γ_q41q:Ctx:={ tk:=assoc tks,ar:=assoc ars,fs:=assoc [(258,S_q51q)] }
noncomputable def F_q41q (N:Nat) (d:Int×Int×Unit):Option (Int×Unit):=
 let a0:=d.1
 let a1:=d.2.1
 let r1:=g_q51q (a0,())
 let r2:=g_q51q (a1,())
 if (r1.1)=true then
  if (r2.1)=true then
   some ((0:Int),())
  else
   some ((-1:Int),())
 else
  if (r2.1)=true then
   some ((1:Int),())
  else
   if (decide (a0<a1))=true then
    some ((-1:Int),())
   else
    if (decide (a0>a1))=true then
     some ((1:Int),())
    else
     some ((0:Int),())
noncomputable def g_q41q (d:Int×Int×Unit):Int×Unit:=
 let a0:=d.1
 let a1:=d.2.1
 let r1:=g_q51q (a0,())
 let r2:=g_q51q (a1,())
 if (r1.1)=true then
  if (r2.1)=true then
   ((0:Int),())
  else
   ((-1:Int),())
 else
  if (r2.1)=true then
   ((1:Int),())
  else
   if (decide (a0<a1))=true then
    ((-1:Int),())
   else
    if (decide (a0>a1))=true then
     ((1:Int),())
    else
     ((0:Int),())
theorem F_q41q_tot (N:Nat) (d):F_q41q N d=some (g_q41q d):=by
 unfold F_q41q g_q41q
 first
  | rfl
  | (dsimp only; (repeat' split)<;>rfl)
noncomputable def S_q41q:FSig:=⟨[(I,false),(I,false)],[I],true,(fun d=>some (g_q41q d))⟩
noncomputable def Γ_q8q:Ctx:={ tk:=assoc tks,ar:=assoc ars,fs:=assoc [(246,S_q41q)] }
abbrev q8q_l0_H:=List Int×List Int×List Int×Int×Int×Unit
abbrev q8q_l0_O:=(Int×Unit)⊕(List Int×List Int×Unit)⊕Empty
def q8q_l0_h:Form:=[(0,.v K_Si),(1,.v K_Si),(9,.v K_Si),(10,.v I),(11,.v I)]
def q8q_l0_o:Outs:=[(.ret,[(4,.v I)]),(.normal,[(0,.v K_Si),(1,.v K_Si)])]
noncomputable def q8q_l0_r (N:Nat) (back:q8q_l0_H->Option q8q_l0_O) (d:q8q_l0_H):Option q8q_l0_O:=
 let s0:=d.1
 let s1:=d.2.1
 let s9:=d.2.2.1
 let s10:=d.2.2.2.1
 let s11:=d.2.2.2.2.1
 if (decide (s11<s10))=true then
  if (idxIn s11 (List.length s9))=true then
  if (decide (s11>=(List.length s1:Int)))=true then
   some (.inl ((1:Int),()))
  else
   if (idxIn s11 (List.length s1))=true then
   let r6:=g_q41q ((at_ I s9 s11.toNat,(at_ I s1 s11.toNat,())))
   if (r6.1 != (0:Int))=true then
    some (.inl (r6.1,()))
   else
    let x7:=IntKind.wrap .i64 (s11+(1:Int))
    back ((s0,(s1,(s9,(s10,(x7,()))))))
   else none
  else none
 else
  some (.inr (.inl ((s0,(s1,())))))
noncomputable def q8q_l0 (N:Nat):Nat->q8q_l0_H->Option q8q_l0_O
 | 0,_=>none
 | k+1,d=>q8q_l0_r N (q8q_l0 N k) d
noncomputable def F_q8q (N:Nat) (d:List Int×List Int×Unit):Option (Int×Unit):=
 let a0:=d.1
 let a1:=d.2.1
 (q8q_l0 N N ((a0,(a1,(a0,((List.length a0:Int),((0:Int),()))))))).bind fun o3=>match o3 with
 | .inl d4=>
  some (d4.1,())
 | .inr (.inl d5)=>
  if (decide ((List.length d5.1:Int)<(List.length d5.2.1:Int)))=true then
   some ((-1:Int),())
  else
   some ((0:Int),())
noncomputable def S_q8q:FSig:=⟨[(K_Si,false),(K_Si,false)],[I],true,(G_compare)⟩
noncomputable def Γ_q60q:Ctx:={ tk:=assoc tks,ar:=assoc ars,fs:=assoc [(143,S_q74q),(199,S_q8q)] }
abbrev q60q_l0_H:=(Int×(List (Int×Int×Unit))×Unit)×(List (Int×Int×Unit))×Int×Int×Unit
abbrev q60q_l0_O:=(Bool×Unit)⊕Unit⊕Empty
def q60q_l0_h:Form:=[(1,.box K_PiSPiiqq 0),(10,.v K_SPiiq),(11,.v I),(12,.v I)]
def q60q_l0_o:Outs:=[(.ret,[(2,.v .bool)]),(.normal,[])]
noncomputable def q60q_l0_r (N:Nat) (back:q60q_l0_H->Option q60q_l0_O) (d:q60q_l0_H):Option q60q_l0_O:=
 let s1:=d.1
 let s10:=d.2.1
 let s11:=d.2.2.1
 let s12:=d.2.2.2.1
 if (decide (s12<s11))=true then
  if (idxIn s12 (List.length s10))=true then
  if (decide ((at_ K_Piiq s10 s12.toNat).1<(0:Int)))=true then
   some (.inl (false,()))
  else
   if (decide ((at_ K_Piiq s10 s12.toNat).1>=(at_ K_Piiq s10 s12.toNat).2.1))=true then
    some (.inl (false,()))
   else
    if (decide ((at_ K_Piiq s10 s12.toNat).2.1>=s1.1))=true then
     some (.inl (false,()))
    else
     if (decide (s12>(0:Int)))=true then
      let x9:=IntKind.wrap .i64 (s12-(1:Int))
      if (idxIn x9 (List.length s1.2.1))=true then
      (G_compare (([(at_ K_Piiq s1.2.1 x9.toNat).1,(at_ K_Piiq s1.2.1 x9.toNat).2.1],([(at_ K_Piiq s10 s12.toNat).1,(at_ K_Piiq s10 s12.toNat).2.1],())))).bind fun r10=>
      if (decide (r10.1>=(0:Int)))=true then
       some (.inl (false,()))
      else
       let x11:=IntKind.wrap .i64 (s12+(1:Int))
       back ((s1,(s10,(s11,(x11,())))))
      else none
     else
      let x12:=IntKind.wrap .i64 (s12+(1:Int))
      back ((s1,(s10,(s11,(x12,())))))
  else none
 else
  some (.inr (.inl ()))
noncomputable def q60q_l0 (N:Nat):Nat->q60q_l0_H->Option q60q_l0_O
 | 0,_=>none
 | k+1,d=>q60q_l0_r N (q60q_l0 N k) d
noncomputable def F_q60q (N:Nat) (d:(Int×(List (Int×Int×Unit))×Unit)×Unit):Option (Bool×Unit):=
 let a0:=d.1
 let r1:=g_q74q ((a0.1,((0:Int),((8:Int),()))))
 if (!r1.1)=true then
  some (false,())
 else
  (q60q_l0 N N ((a0,(a0.2.1,((List.length a0.2.1:Int),((0:Int),())))))).bind fun o6=>match o6 with
  | .inl d7=>
   some (d7.1,())
  | .inr (.inl d8)=>
   some (true,())
noncomputable def S_q60q:FSig:=⟨[(K_PiSPiiqq,false)],[.bool],true,(G_graph)⟩
noncomputable def Γ_q47q:Ctx:={ tk:=assoc tks,ar:=assoc ars,fs:=assoc [(143,S_q74q)] }
abbrev q47q_l0_H:=Int×Int×List Int×Int×Int×Unit
abbrev q47q_l0_O:=(Bool×Unit)⊕Unit⊕Empty
def q47q_l0_h:Form:=[(1,.v I),(2,.v I),(9,.v K_Si),(10,.v I),(11,.v I)]
def q47q_l0_o:Outs:=[(.ret,[(6,.v .bool)]),(.normal,[])]
noncomputable def q47q_l0_r (N:Nat) (back:q47q_l0_H->Option q47q_l0_O) (d:q47q_l0_H):Option q47q_l0_O:=
 let s1:=d.1
 let s2:=d.2.1
 let s9:=d.2.2.1
 let s10:=d.2.2.2.1
 let s11:=d.2.2.2.2.1
 if (decide (s11<s10))=true then
  if (idxIn s11 (List.length s9))=true then
  let r6:=g_q74q ((at_ I s9 s11.toNat,(s1,(s2,()))))
  if (!r6.1)=true then
   some (.inl (false,()))
  else
   let x7:=IntKind.wrap .i64 (s11+(1:Int))
   back ((s1,(s2,(s9,(s10,(x7,()))))))
  else none
 else
  some (.inr (.inl ()))
noncomputable def q47q_l0 (N:Nat):Nat->q47q_l0_H->Option q47q_l0_O
 | 0,_=>none
 | k+1,d=>q47q_l0_r N (q47q_l0 N k) d
noncomputable def F_q47q (N:Nat) (d:List Int×Int×Int×Unit):Option (Bool×Unit):=
 let a0:=d.1
 let a1:=d.2.1
 let a2:=d.2.2.1
 (q47q_l0 N N ((a1,(a2,(a0,((List.length a0:Int),((0:Int),()))))))).bind fun o3=>match o3 with
 | .inl d4=>
  some (d4.1,())
 | .inr (.inl d5)=>
  some (true,())
noncomputable def S_q47q:FSig:=⟨[(K_Si,false),(I,false),(I,false)],[.bool],true,(G_allWithin)⟩
noncomputable def Γ_q50q:Ctx:={ tk:=assoc tks,ar:=assoc ars,fs:=assoc [(114,S_q60q),(128,S_q47q)] }
noncomputable def F_q50q (N:Nat) (d:(Int×(List (Int×Int×Unit))×Unit)×List Int×Unit):Option (Bool×Unit):=
 let a0:=d.1
 let a1:=d.2.1
 (G_graph (a0,())).bind fun r1=>
 if (r1.1)=true then
  let x2:=IntKind.wrap .i64 (a0.1-(1:Int))
  (G_allWithin ((a1,((0:Int),(x2,()))))).bind fun r3=>
  some (r3.1,())
 else
  some (false,())
noncomputable def S_q50q:FSig:=⟨[(K_PiSPiiqq,false),(K_Si,false)],[.bool],true,(F_q50q 0)⟩
noncomputable def Γ_impl_netOf:Ctx:={ tk:=assoc tks,ar:=assoc ars,fs:=assoc [] }
abbrev impl_netOf_l0_H:=(List Int×Unit)×(List Int×Unit)×(List (Int×Int×Unit))×Int×Int×Unit
abbrev impl_netOf_l0_O:=((List Int×Unit)×(List Int×Unit)×Unit)⊕Empty
def impl_netOf_l0_h:Form:=[(2,.box K_PSiq 99),(3,.box K_PSiq 99),(11,.v K_SPiiq),(12,.v I),(13,.v I)]
def impl_netOf_l0_o:Outs:=[(.normal,[(2,.box K_PSiq 99),(3,.box K_PSiq 99)])]
noncomputable def impl_netOf_l0_r (N:Nat) (back:impl_netOf_l0_H->Option impl_netOf_l0_O) (d:impl_netOf_l0_H):Option impl_netOf_l0_O:=
 let s2:=d.1
 let s3:=d.2.1
 let s11:=d.2.2.1
 let s12:=d.2.2.2.1
 let s13:=d.2.2.2.2.1
 if (decide (s13<s12))=true then
  if (idxIn s13 (List.length s11))=true then
  if (idxIn (at_ K_Piiq s11 s13.toNat).1 (List.length s3.1))=true then
  if (decide (0<=(at_ K_Piiq s11 s13.toNat).2.1))=true then
  let x9:=shl .i64 (1:Int) (at_ K_Piiq s11 s13.toNat).2.1
  let x10:=bits .or .i64 (at_ I s3.1 (at_ K_Piiq s11 s13.toNat).1.toNat) x9
  if (idxIn (at_ K_Piiq s11 s13.toNat).1 (List.length s3.1))=true then
  if (idxIn (at_ K_Piiq s11 s13.toNat).2.1 (List.length (List.set s3.1 (at_ K_Piiq s11 s13.toNat).1.toNat x10)))=true then
  if (decide (0<=(at_ K_Piiq s11 s13.toNat).1))=true then
  let x11:=shl .i64 (1:Int) (at_ K_Piiq s11 s13.toNat).1
  let x12:=bits .or .i64 (at_ I (List.set s3.1 (at_ K_Piiq s11 s13.toNat).1.toNat x10) (at_ K_Piiq s11 s13.toNat).2.1.toNat) x11
  if (idxIn (at_ K_Piiq s11 s13.toNat).2.1 (List.length (List.set s3.1 (at_ K_Piiq s11 s13.toNat).1.toNat x10)))=true then
  let x13:=IntKind.wrap .i64 (s13+(1:Int))
  back ((s2,((List.set (List.set s3.1 (at_ K_Piiq s11 s13.toNat).1.toNat x10) (at_ K_Piiq s11 s13.toNat).2.1.toNat x12,s3.2),(s11,(s12,(x13,()))))))
  else none
  else none
  else none
  else none
  else none
  else none
  else none
 else
  some (.inl ((s2,(s3,()))))
noncomputable def impl_netOf_l0 (N:Nat):Nat->impl_netOf_l0_H->Option impl_netOf_l0_O
 | 0,_=>none
 | k+1,d=>impl_netOf_l0_r N (impl_netOf_l0 N k) d
noncomputable def F_impl_netOf (N:Nat) (d:(Int×(List (Int×Int×Unit))×Unit)×Unit):Option ((List Int×Unit)×Unit):=
 let a0:=d.1
 if ((decide (0<=a0.1)&&decide (a0.1<=a0.1)&&decide (a0.1<=(lim:Int))))=true then
 let x1:=List.replicate a0.1.toNat (0:Int)
 (impl_netOf_l0 N N (((([]:List Int),()),((x1,()),(a0.2.1,((List.length a0.2.1:Int),((0:Int),()))))))).bind fun o7=>match o7 with
 | .inl d8=>
  some (d8.2.1,())
 else none
noncomputable def S_impl_netOf:FSig:=⟨[(K_PiSPiiqq,false)],[K_PSiq],true,(G_netOf)⟩
noncomputable def Γ_q55q:Ctx:={ tk:=assoc tks,ar:=assoc ars,fs:=assoc [] }
noncomputable def F_q55q (N:Nat) (d:(List Int×Unit)×Unit):Option (Int×Unit):=
 let a0:=d.1
 some ((List.length a0.1:Int),())
noncomputable def g_q55q (d:(List Int×Unit)×Unit):Int×Unit:=
 let a0:=d.1
 ((List.length a0.1:Int),())
theorem F_q55q_tot (N:Nat) (d):F_q55q N d=some (g_q55q d):=by
 unfold F_q55q g_q55q
 first
  | rfl
  | (dsimp only; (repeat' split)<;>rfl)
noncomputable def S_q55q:FSig:=⟨[(K_PSiq,false)],[I],true,(fun d=>some (g_q55q d))⟩
def S_q9q:FSig:=⟨[(K_Si,false),(I,false)],[K_Si],true,G_repeat⟩
noncomputable def Γ_q40q:Ctx:={ tk:=assoc tks,ar:=assoc ars,fs:=assoc [] }
noncomputable def F_q40q (N:Nat) (d:(List Int×Unit)×Int×Unit):Option (Int×Unit):=
 let a0:=d.1
 let a1:=d.2.1
 if (idxIn a1 (List.length a0.1))=true then
 if (decide (0<=a1))=true then
 let x1:=bits .or .i64 (at_ I a0.1 a1.toNat) (shl .i64 (1:Int) a1)
 some (x1,())
 else none
 else none
noncomputable def S_q40q:FSig:=⟨[(K_PSiq,false),(I,false)],[I],true,(F_q40q 0)⟩
noncomputable def Γ_impl_setOf:Ctx:={ tk:=assoc tks,ar:=assoc ars,fs:=assoc [] }
abbrev impl_setOf_l0_H:=Int×List Int×Int×Unit
abbrev impl_setOf_l0_O:=(List Int×Unit)⊕Empty
def impl_setOf_l0_h:Form:=[(0,.v I),(3,.own K_Si 99),(4,.v I)]
def impl_setOf_l0_o:Outs:=[(.normal,[(3,.own K_Si 99)])]
noncomputable def impl_setOf_l0_r (N:Nat) (back:impl_setOf_l0_H->Option impl_setOf_l0_O) (d:impl_setOf_l0_H):Option impl_setOf_l0_O:=
 let s0:=d.1
 let s3:=d.2.1
 let s4:=d.2.2.1
 if (decide (0<=s4))=true then
 if (shr .i64 s0 s4 != (0:Int))=true then
  if (decide (0<=s4))=true then
  let x6:=bits .and .i64 (shr .i64 s0 s4) (1:Int)
  if (x6==(1:Int))=true then
   if (decide (List.length s3+List.length ([s4])<=lim))=true then
   let x7:=IntKind.wrap .i64 (s4+(1:Int))
   back ((s0,(s3++([s4]),(x7,()))))
   else none
  else
   let x8:=IntKind.wrap .i64 (s4+(1:Int))
   back ((s0,(s3,(x8,()))))
  else none
 else
  some (.inl (s3,()))
 else none
noncomputable def impl_setOf_l0 (N:Nat):Nat->impl_setOf_l0_H->Option impl_setOf_l0_O
 | 0,_=>none
 | k+1,d=>impl_setOf_l0_r N (impl_setOf_l0 N k) d
noncomputable def F_impl_setOf (N:Nat) (d:Int×Unit):Option (List Int×Unit):=
 let a0:=d.1
 (impl_setOf_l0 N N ((a0,(([]:List Int),((0:Int),()))))).bind fun o4=>match o4 with
 | .inl d5=>
  some (d5.1,())
noncomputable def S_impl_setOf:FSig:=⟨[(I,false)],[K_Si],true,(G_setOf)⟩
noncomputable def Γ_q16q:Ctx:={ tk:=assoc tks,ar:=assoc ars,fs:=assoc [(127,S_impl_setOf),(130,S_q40q)] }
abbrev q16q_l0_H:=List Int×Int×List Int×Int×Int×Unit
abbrev q16q_l0_O:=(Int×Unit)⊕(Int×Unit)⊕Empty
def q16q_l0_h:Form:=[(1,.v K_Si),(7,.v I),(13,.own K_Si 99),(14,.v I),(15,.v I)]
def q16q_l0_o:Outs:=[(.ret,[(6,.v I)]),(.normal,[(7,.v I)])]
noncomputable def q16q_l0_r (N:Nat) (back:q16q_l0_H->Option q16q_l0_O) (d:q16q_l0_H):Option q16q_l0_O:=
 let s1:=d.1
 let s7:=d.2.1
 let s13:=d.2.2.1
 let s14:=d.2.2.2.1
 let s15:=d.2.2.2.2.1
 if (decide (s15<s14))=true then
  if (idxIn s15 (List.length s13))=true then
  if (idxIn (at_ I s13 s15.toNat) (List.length s1))=true then
  if (decide (at_ I s1 (at_ I s13 s15.toNat).toNat<(0:Int)))=true then
   some (.inl ((-1:Int),()))
  else
   if (idxIn (at_ I s13 s15.toNat) (List.length s1))=true then
   let x8:=if s7<at_ I s1 (at_ I s13 s15.toNat).toNat then at_ I s1 (at_ I s13 s15.toNat).toNat else s7
   let x9:=IntKind.wrap .i64 (s15+(1:Int))
   back ((s1,(x8,(s13,(s14,(x9,()))))))
   else none
  else none
  else none
 else
  some (.inr (.inl (s7,())))
noncomputable def q16q_l0 (N:Nat):Nat->q16q_l0_H->Option q16q_l0_O
 | 0,_=>none
 | k+1,d=>q16q_l0_r N (q16q_l0 N k) d
noncomputable def F_q16q (N:Nat) (d:(List Int×Unit)×List Int×Int×Unit):Option (Int×Unit):=
 let a0:=d.1
 let a1:=d.2.1
 let a2:=d.2.2.1
 ((F_q40q 0) ((a0,(a2,())))).bind fun r1=>
 (G_setOf (r1.1,())).bind fun r2=>
 (q16q_l0 N N ((a1,((0:Int),(r2.1,((List.length r2.1:Int),((0:Int),()))))))).bind fun o5=>match o5 with
 | .inl d6=>
  some (d6.1,())
 | .inr (.inl d7)=>
  some (d7.1,())
noncomputable def S_q16q:FSig:=⟨[(K_PSiq,false),(K_Si,false),(I,false)],[I],true,(G_timeAfter)⟩
noncomputable def Γ_q20q:Ctx:={ tk:=assoc tks,ar:=assoc ars,fs:=assoc [(179,S_q16q)] }
noncomputable def F_q20q (N:Nat) (d:Int×Int×(List Int×Unit)×List (List Int)×Unit):Option (Bool×Unit):=
 let a0:=d.1
 let a1:=d.2.1
 let a2:=d.2.2.1
 let a3:=d.2.2.2.1
 if (a0==a1)=true then
  some (true,())
 else
  if (idxIn a0 (List.length a3))=true then
  (G_timeAfter ((a2,(at_ K_Si a3 a0.toNat,(a1,()))))).bind fun r1=>
  some ((decide (r1.1>=(0:Int)),()))
  else none
noncomputable def S_q20q:FSig:=⟨[(I,false),(K_Bi,false),(K_BPSiq,false),(K_BSSi,false)],[.bool],true,(F_q20q 0)⟩
noncomputable def FV_q20q (d:Int×(Unit×Int×(List Int×Unit)×List (List Int)×Unit)×Unit):Option (Bool×Unit):=(F_q20q 0) (d.1,d.2.1.2)
noncomputable def SV_q20q:FSig:=⟨[(I,false),(K_F_q20q_qPBiBPSiqBSSiq,false)],[.bool],true,FV_q20q⟩
noncomputable def Γ_q6q:Ctx:={ tk:=assoc tks,ar:=assoc ars,fs:=assoc [],cs:=assoc [(244,SV_q20q)] }
abbrev q6q_l0_H:=List Int×(Unit×Int×(List Int×Unit)×List (List Int)×Unit)×Int×Int×Unit
abbrev q6q_l0_O:=(Int×Unit)⊕Unit⊕Empty
def q6q_l0_h:Form:=[(0,.v K_Si),(1,.v K_F_q20q_qPBiBPSiqBSSiq),(7,.v I),(8,.v I)]
def q6q_l0_o:Outs:=[(.ret,[(4,.v I)]),(.normal,[])]
noncomputable def q6q_l0_r (N:Nat) (back:q6q_l0_H->Option q6q_l0_O) (d:q6q_l0_H):Option q6q_l0_O:=
 let s0:=d.1
 let s1:=d.2.1
 let s7:=d.2.2.1
 let s8:=d.2.2.2.1
 if (decide (s8<s7))=true then
  if (idxIn s8 (List.length s0))=true then
  (FV_q20q ((at_ I s0 s8.toNat,(s1,())))).bind fun r6=>
  if (r6.1)=true then
   some (.inl (s8,()))
  else
   let x7:=IntKind.wrap .i64 (s8+(1:Int))
   back ((s0,(s1,(s7,(x7,())))))
  else none
 else
  some (.inr (.inl ()))
noncomputable def q6q_l0 (N:Nat):Nat->q6q_l0_H->Option q6q_l0_O
 | 0,_=>none
 | k+1,d=>q6q_l0_r N (q6q_l0 N k) d
noncomputable def F_q6q (N:Nat) (d:List Int×(Unit×Int×(List Int×Unit)×List (List Int)×Unit)×Unit):Option (Int×Unit):=
 let a0:=d.1
 let a1:=d.2.1
 (q6q_l0 N N ((a0,(a1,((List.length a0:Int),((0:Int),())))))).bind fun o3=>match o3 with
 | .inl d4=>
  some (d4.1,())
 | .inr (.inl d5)=>
  some ((-1:Int),())
noncomputable def S_q6q:FSig:=⟨[(K_Si,false),(K_F_q20q_qPBiBPSiqBSSiq,false)],[I],true,(G_index154)⟩
noncomputable def Γ_q4q:Ctx:={ tk:=assoc tks,ar:=assoc ars,fs:=assoc [(248,S_q6q)] }
noncomputable def F_q4q (N:Nat) (d:List Int×(Unit×Int×(List Int×Unit)×List (List Int)×Unit)×Unit):Option (Bool×Unit):=
 let a0:=d.1
 let a1:=d.2.1
 (G_index154 ((a0,(a1,())))).bind fun r1=>
 some ((decide (r1.1>=(0:Int)),()))
noncomputable def S_q4q:FSig:=⟨[(K_Si,false),(K_F_q20q_qPBiBPSiqBSSiq,false)],[.bool],true,(F_q4q 0)⟩
noncomputable def Γ_q42q:Ctx:={ tk:=assoc tks,ar:=assoc ars,fs:=assoc [(127,S_impl_setOf),(130,S_q40q),(214,S_q4q)],cs:=assoc [],fz:=fun t=>Nat.beq t 4||Nat.beq t 5||Nat.beq t 7 }
noncomputable def F_q42q (N:Nat) (d:(List Int×Unit)×List (List Int)×Int×Int×Unit):Option (Bool×Unit):=
 let a0:=d.1
 let a1:=d.2.1
 let a2:=d.2.2.1
 let a3:=d.2.2.2.1
 ((F_q40q 0) ((a0,(a2,())))).bind fun r1=>
 (G_setOf (r1.1,())).bind fun r2=>
 ((F_q4q 0) ((r2.1,(((),(a3,(a0,(a1,())))),())))).bind fun r3=>
 some (r3.1,())
noncomputable def S_q42q:FSig:=⟨[(K_PSiq,false),(K_SSi,false),(I,false),(I,false)],[.bool],true,(F_q42q 0)⟩
noncomputable def Γ_q24q:Ctx:={ tk:=assoc tks,ar:=assoc ars,fs:=assoc [(188,S_q55q),(191,S_q9q),(195,S_q42q)] }
abbrev q24q_l0_H:=(List Int×Unit)×Int×List (List Int)×Int×Int×Unit
abbrev q24q_l0_O:=((List Int×Unit)×Int×List (List Int)×Unit)⊕Empty
def q24q_l0_h:Form:=[(1,.box K_PSiq 0),(3,.v I),(4,.own K_SSi 99),(18,.v I),(19,.v I)]
def q24q_l0_o:Outs:=[(.normal,[(1,.box K_PSiq 0),(3,.v I),(4,.own K_SSi 99)])]
noncomputable def q24q_l0_r (N:Nat) (back:q24q_l0_H->Option q24q_l0_O) (d:q24q_l0_H):Option q24q_l0_O:=
 let s1:=d.1
 let s3:=d.2.1
 let s4:=d.2.2.1
 let s18:=d.2.2.2.1
 let s19:=d.2.2.2.2.1
 if (decide (s19<s18))=true then
  (G_repeat (([(-1:Int)],(s3,())))).bind fun r24=>
  if (idxIn s19 (List.length s4))=true then
  if (idxIn s19 (List.length (List.set s4 s19.toNat r24.1)))=true then
  if (idxIn s19 (List.length (at_ K_Si (List.set s4 s19.toNat r24.1) s19.toNat)))=true then
  let x25:=List.set (List.set s4 s19.toNat r24.1) s19.toNat (List.set (at_ K_Si (List.set s4 s19.toNat r24.1) s19.toNat) s19.toNat (0:Int))
  let x26:=IntKind.wrap .i64 (s19+(1:Int))
  back ((s1,(s3,(x25,(s18,(x26,()))))))
  else none
  else none
  else none
 else
  some (.inl ((s1,(s3,(s4,())))))
noncomputable def q24q_l0 (N:Nat):Nat->q24q_l0_H->Option q24q_l0_O
 | 0,_=>none
 | k+1,d=>q24q_l0_r N (q24q_l0 N k) d
abbrev q24q_l6_H:=(List Int×Unit)×Int×List (List Int)×Int×Bool×(List (Int×Int×Unit))×Int×Int×Int×Int×Int×Unit
abbrev q24q_l6_O:=((List Int×Unit)×Int×List (List Int)×Int×Bool×(List (Int×Int×Unit))×Int×Int×Unit)⊕Empty
def q24q_l6_h:Form:=[(1,.box K_PSiq 0),(3,.v I),(4,.own K_SSi 99),(6,.v I),(7,.v .bool),(8,.own K_SPiiq 99),(9,.v I),(38,.v I),(39,.v I),(42,.v I),(43,.v I)]
def q24q_l6_o:Outs:=[(.normal,[(1,.box K_PSiq 0),(3,.v I),(4,.own K_SSi 99),(6,.v I),(7,.v .bool),(8,.own K_SPiiq 99),(38,.v I),(39,.v I)])]
noncomputable def q24q_l6_r (N:Nat) (back:q24q_l6_H->Option q24q_l6_O) (d:q24q_l6_H):Option q24q_l6_O:=
 let s1:=d.1
 let s3:=d.2.1
 let s4:=d.2.2.1
 let s6:=d.2.2.2.1
 let s7:=d.2.2.2.2.1
 let s8:=d.2.2.2.2.2.1
 let s9:=d.2.2.2.2.2.2.1
 let s38:=d.2.2.2.2.2.2.2.1
 let s39:=d.2.2.2.2.2.2.2.2.1
 let s42:=d.2.2.2.2.2.2.2.2.2.1
 let s43:=d.2.2.2.2.2.2.2.2.2.2.1
 if (decide (s43<s42))=true then
  if (idxIn s9 (List.length s4))=true then
  if (idxIn s43 (List.length (at_ K_Si s4 s9.toNat)))=true then
  if (decide (at_ I (at_ K_Si s4 s9.toNat) s43.toNat<(0:Int)))=true then
   ((F_q42q 0) ((s1,(s4,(s9,(s43,())))))).bind fun r48=>
   if (r48.1)=true then
    if (decide (List.length s8+List.length ([(s9,(s43,()))])<=lim))=true then
    let x49:=IntKind.wrap .i64 (s43+(1:Int))
    back ((s1,(s3,(s4,(s6,(s7,(s8++([(s9,(s43,()))]),(s9,(s38,(s39,(s42,(x49,()))))))))))))
    else none
   else
    let x50:=IntKind.wrap .i64 (s43+(1:Int))
    back ((s1,(s3,(s4,(s6,(s7,(s8,(s9,(s38,(s39,(s42,(x50,()))))))))))))
  else
   let x51:=IntKind.wrap .i64 (s43+(1:Int))
   back ((s1,(s3,(s4,(s6,(s7,(s8,(s9,(s38,(s39,(s42,(x51,()))))))))))))
  else none
  else none
 else
  some (.inl ((s1,(s3,(s4,(s6,(s7,(s8,(s38,(s39,()))))))))))
noncomputable def q24q_l6 (N:Nat):Nat->q24q_l6_H->Option q24q_l6_O
 | 0,_=>none
 | k+1,d=>q24q_l6_r N (q24q_l6 N k) d
abbrev q24q_l4_H:=(List Int×Unit)×Int×List (List Int)×Int×Bool×(List (Int×Int×Unit))×Int×Int×Unit
abbrev q24q_l4_O:=((List Int×Unit)×Int×List (List Int)×Int×Bool×(List (Int×Int×Unit))×Unit)⊕Empty
def q24q_l4_h:Form:=[(1,.box K_PSiq 0),(3,.v I),(4,.own K_SSi 99),(6,.v I),(7,.v .bool),(8,.own K_SPiiq 99),(38,.v I),(39,.v I)]
def q24q_l4_o:Outs:=[(.normal,[(1,.box K_PSiq 0),(3,.v I),(4,.own K_SSi 99),(6,.v I),(7,.v .bool),(8,.own K_SPiiq 99)])]
noncomputable def q24q_l4_r (N:Nat) (back:q24q_l4_H->Option q24q_l4_O) (d:q24q_l4_H):Option q24q_l4_O:=
 let s1:=d.1
 let s3:=d.2.1
 let s4:=d.2.2.1
 let s6:=d.2.2.2.1
 let s7:=d.2.2.2.2.1
 let s8:=d.2.2.2.2.2.1
 let s38:=d.2.2.2.2.2.2.1
 let s39:=d.2.2.2.2.2.2.2.1
 if (decide (s39<s38))=true then
  (q24q_l6 N N ((s1,(s3,(s4,(s6,(s7,(s8,(s39,(s38,(s39,(s3,((0:Int),()))))))))))))).bind fun o45=>match o45 with
  | .inl d46=>
   let x47:=IntKind.wrap .i64 (d46.2.2.2.2.2.2.2.1+(1:Int))
   back ((d46.1,(d46.2.1,(d46.2.2.1,(d46.2.2.2.1,(d46.2.2.2.2.1,(d46.2.2.2.2.2.1,(d46.2.2.2.2.2.2.1,(x47,())))))))))
 else
  some (.inl ((s1,(s3,(s4,(s6,(s7,(s8,()))))))))
noncomputable def q24q_l4 (N:Nat):Nat->q24q_l4_H->Option q24q_l4_O
 | 0,_=>none
 | k+1,d=>q24q_l4_r N (q24q_l4 N k) d
abbrev q24q_l8_H:=(List Int×Unit)×Int×List (List Int)×Int×Bool×(List (Int×Int×Unit))×Int×Int×Unit
abbrev q24q_l8_O:=((List Int×Unit)×Int×List (List Int)×Int×Bool×Unit)⊕Empty
def q24q_l8_h:Form:=[(1,.box K_PSiq 0),(3,.v I),(4,.own K_SSi 99),(6,.v I),(7,.v .bool),(69,.own K_SPiiq 99),(70,.v I),(71,.v I)]
def q24q_l8_o:Outs:=[(.normal,[(1,.box K_PSiq 0),(3,.v I),(4,.own K_SSi 99),(6,.v I),(7,.v .bool)])]
noncomputable def q24q_l8_r (N:Nat) (back:q24q_l8_H->Option q24q_l8_O) (d:q24q_l8_H):Option q24q_l8_O:=
 let s1:=d.1
 let s3:=d.2.1
 let s4:=d.2.2.1
 let s6:=d.2.2.2.1
 let s7:=d.2.2.2.2.1
 let s69:=d.2.2.2.2.2.1
 let s70:=d.2.2.2.2.2.2.1
 let s71:=d.2.2.2.2.2.2.2.1
 if (decide (s71<s70))=true then
  if (idxIn s71 (List.length s69))=true then
  if (idxIn (at_ K_Piiq s69 s71.toNat).1 (List.length s4))=true then
  if (idxIn (at_ K_Piiq s69 s71.toNat).2.1 (List.length (at_ K_Si s4 (at_ K_Piiq s69 s71.toNat).1.toNat)))=true then
  let x52:=List.set s4 (at_ K_Piiq s69 s71.toNat).1.toNat (List.set (at_ K_Si s4 (at_ K_Piiq s69 s71.toNat).1.toNat) (at_ K_Piiq s69 s71.toNat).2.1.toNat s6)
  let x53:=IntKind.wrap .i64 (s71+(1:Int))
  back ((s1,(s3,(x52,(s6,(true,(s69,(s70,(x53,())))))))))
  else none
  else none
  else none
 else
  some (.inl ((s1,(s3,(s4,(s6,(s7,())))))))
noncomputable def q24q_l8 (N:Nat):Nat->q24q_l8_H->Option q24q_l8_O
 | 0,_=>none
 | k+1,d=>q24q_l8_r N (q24q_l8 N k) d
abbrev q24q_l2_H:=(List Int×Unit)×Int×List (List Int)×Int×Bool×Unit
abbrev q24q_l2_O:=(List (List Int)×Unit)⊕Empty
def q24q_l2_h:Form:=[(1,.box K_PSiq 0),(3,.v I),(4,.own K_SSi 99),(6,.v I),(7,.v .bool)]
def q24q_l2_o:Outs:=[(.normal,[(4,.own K_SSi 99)])]
noncomputable def q24q_l2_r (N:Nat) (back:q24q_l2_H->Option q24q_l2_O) (d:q24q_l2_H):Option q24q_l2_O:=
 let s1:=d.1
 let s3:=d.2.1
 let s4:=d.2.2.1
 let s6:=d.2.2.2.1
 let s7:=d.2.2.2.2.1
 if (s7)=true then
  (q24q_l4 N N ((s1,(s3,(s4,(s6,(false,(([]:List (Int×Int×Unit)),(s3,((0:Int),())))))))))).bind fun o34=>match o34 with
  | .inl d35=>
   (q24q_l8 N N ((d35.1,(d35.2.1,(d35.2.2.1,(d35.2.2.2.1,(d35.2.2.2.2.1,(d35.2.2.2.2.2.1,((List.length d35.2.2.2.2.2.1:Int),((0:Int),())))))))))).bind fun o38=>match o38 with
   | .inl d39=>
    let x40:=IntKind.wrap .i64 (d39.2.2.2.1+(1:Int))
    back ((d39.1,(d39.2.1,(d39.2.2.1,(x40,(d39.2.2.2.2.1,()))))))
 else
  some (.inl (s4,()))
noncomputable def q24q_l2 (N:Nat):Nat->q24q_l2_H->Option q24q_l2_O
 | 0,_=>none
 | k+1,d=>q24q_l2_r N (q24q_l2 N k) d
noncomputable def F_q24q (N:Nat) (d:(List Int×Unit)×Unit):Option (List (List Int)×Unit):=
 let a0:=d.1
 let r1:=g_q55q (a0,())
 if ((decide (0<=r1.1)&&decide (r1.1<=r1.1)&&decide (r1.1<=(lim:Int))))=true then
 let x2:=List.replicate r1.1.toNat ([]:List Int)
 (q24q_l0 N N ((a0,(r1.1,(x2,((List.length x2:Int),((0:Int),()))))))).bind fun o6=>match o6 with
 | .inl d7=>
  (q24q_l2 N N ((d7.1,(d7.2.1,(d7.2.2.1,((1:Int),(true,()))))))).bind fun o22=>match o22 with
  | .inl d23=>
   some (d23.1,())
 else none
noncomputable def S_q24q:FSig:=⟨[(K_PSiq,false)],[K_SSi],true,(G_copTimes)⟩
noncomputable def Γ_q34q:Ctx:={ tk:=assoc tks,ar:=assoc ars,fs:=assoc [(127,S_impl_setOf),(130,S_q40q),(179,S_q16q)] }
abbrev q34q_l0_H:=List (List Int)×Int×Int×(List Int×Unit)×List Int×Int×Int×Unit
abbrev q34q_l0_O:=(Int×Unit)⊕(Int×Unit)⊕Empty
def q34q_l0_h:Form:=[(1,.v K_SSi),(2,.v I),(3,.v I),(4,.box K_PSiq 0),(15,.own K_Si 99),(16,.v I),(17,.v I)]
def q34q_l0_o:Outs:=[(.ret,[(8,.v I)]),(.normal,[(2,.v I)])]
noncomputable def q34q_l0_r (N:Nat) (back:q34q_l0_H->Option q34q_l0_O) (d:q34q_l0_H):Option q34q_l0_O:=
 let s1:=d.1
 let s2:=d.2.1
 let s3:=d.2.2.1
 let s4:=d.2.2.2.1
 let s15:=d.2.2.2.2.1
 let s16:=d.2.2.2.2.2.1
 let s17:=d.2.2.2.2.2.2.1
 if (decide (s17<s16))=true then
  if (idxIn s17 (List.length s15))=true then
  if (at_ I s15 s17.toNat != s3)=true then
   if (idxIn (at_ I s15 s17.toNat) (List.length s1))=true then
   (G_timeAfter ((s4,(at_ K_Si s1 (at_ I s15 s17.toNat).toNat,(s3,()))))).bind fun r12=>
   let x13:=IntKind.wrap .i64 (r12.1+(1:Int))
   if (idxIn s2 (List.length s1))=true then
   if (idxIn s3 (List.length (at_ K_Si s1 s2.toNat)))=true then
   if (x13==at_ I (at_ K_Si s1 s2.toNat) s3.toNat)=true then
    if (decide (x13>(0:Int)))=true then
     some (.inl (at_ I s15 s17.toNat,()))
    else
     let x14:=IntKind.wrap .i64 (s17+(1:Int))
     back ((s1,(s2,(s3,(s4,(s15,(s16,(x14,()))))))))
   else
    let x15:=IntKind.wrap .i64 (s17+(1:Int))
    back ((s1,(s2,(s3,(s4,(s15,(s16,(x15,()))))))))
   else none
   else none
   else none
  else
   if (idxIn s2 (List.length s1))=true then
   if (idxIn s3 (List.length (at_ K_Si s1 s2.toNat)))=true then
   if ((1:Int)==at_ I (at_ K_Si s1 s2.toNat) s3.toNat)=true then
    if (decide ((1:Int)>(0:Int)))=true then
     some (.inl (at_ I s15 s17.toNat,()))
    else
     let x16:=IntKind.wrap .i64 (s17+(1:Int))
     back ((s1,(s2,(s3,(s4,(s15,(s16,(x16,()))))))))
   else
    let x17:=IntKind.wrap .i64 (s17+(1:Int))
    back ((s1,(s2,(s3,(s4,(s15,(s16,(x17,()))))))))
   else none
   else none
  else none
 else
  some (.inr (.inl (s2,())))
noncomputable def q34q_l0 (N:Nat):Nat->q34q_l0_H->Option q34q_l0_O
 | 0,_=>none
 | k+1,d=>q34q_l0_r N (q34q_l0 N k) d
noncomputable def F_q34q (N:Nat) (d:(List Int×Unit)×List (List Int)×Int×Int×Unit):Option (Int×Unit):=
 let a0:=d.1
 let a1:=d.2.1
 let a2:=d.2.2.1
 let a3:=d.2.2.2.1
 ((F_q40q 0) ((a0,(a2,())))).bind fun r1=>
 (G_setOf (r1.1,())).bind fun r2=>
 (q34q_l0 N N ((a1,(a2,(a3,(a0,(r2.1,((List.length r2.1:Int),((0:Int),()))))))))).bind fun o9=>match o9 with
 | .inl d10=>
  some (d10.1,())
 | .inr (.inl d11)=>
  some (d11.1,())
noncomputable def S_q34q:FSig:=⟨[(K_PSiq,false),(K_SSi,false),(I,false),(I,false)],[I],true,(G_copMove)⟩
noncomputable def Γ_q62q:Ctx:={ tk:=assoc tks,ar:=assoc ars,fs:=assoc [(95,S_impl_netOf),(106,S_q50q),(107,S_q24q),(108,S_q34q)] }
noncomputable def F_q62q (N:Nat) (d:(Int×(List (Int×Int×Unit))×Unit)×Int×Int×Unit):Option (Int×Bool×Unit):=
 let a0:=d.1
 let a1:=d.2.1
 let a2:=d.2.2.1
 ((F_q50q 0) ((a0,([a1,a2],())))).bind fun r1=>
 if (!r1.1)=true then
  some (((0:Int),(false,())))
 else
  (G_netOf (a0,())).bind fun r2=>
  (G_copTimes (r2.1,())).bind fun r3=>
  if (idxIn a1 (List.length r3.1))=true then
  if (idxIn a2 (List.length (at_ K_Si r3.1 a1.toNat)))=true then
  if (decide (at_ I (at_ K_Si r3.1 a1.toNat) a2.toNat<(1:Int)))=true then
   some (((0:Int),(false,())))
  else
   (G_copMove ((r2.1,(r3.1,(a1,(a2,())))))).bind fun r4=>
   some ((r4.1,(true,())))
  else none
  else none
noncomputable def S_q62q:FSig:=⟨[(K_PiSPiiqq,false),(I,false),(I,false)],[I,.bool],true,(F_q62q 0)⟩
noncomputable def Γ_spec_l1In:Ctx:={ tk:=assoc tks,ar:=assoc ars,fs:=assoc [] }
noncomputable def F_spec_l1In (N:Nat) (d:Int×Int×Int×Unit):Option (Bool×Unit):=
 let a0:=d.1
 let a1:=d.2.1
 let a2:=d.2.2.1
 if (decide (a0>=a1))=true then
  some (decide (a0<=a2),())
 else
  some (false,())
noncomputable def g_spec_l1In (d:Int×Int×Int×Unit):Bool×Unit:=
 let a0:=d.1
 let a1:=d.2.1
 let a2:=d.2.2.1
 if (decide (a0>=a1))=true then
  (decide (a0<=a2),())
 else
  (false,())
theorem F_spec_l1In_tot (N:Nat) (d):F_spec_l1In N d=some (g_spec_l1In d):=by
 unfold F_spec_l1In g_spec_l1In
 first
  | rfl
  | (dsimp only; (repeat' split)<;>rfl)
noncomputable def S_spec_l1In:FSig:=⟨[(I,false),(I,false),(I,false)],[.bool],true,(fun d=>some (g_spec_l1In d))⟩
noncomputable def Γ_q79q:Ctx:={ tk:=assoc tks,ar:=assoc ars,fs:=assoc [(148,S_spec_l1In),(200,S_q53q)] }
abbrev q79q_l0_H:=(Int×(List (Int×Int×Unit))×Unit)×Int×Unit
abbrev q79q_l0_O:=(Bool×Unit)⊕((Int×(List (Int×Int×Unit))×Unit)×Unit)⊕Empty
def q79q_l0_h:Form:=[(1,.box K_PiSPiiqq 0),(3,.v I)]
def q79q_l0_o:Outs:=[(.ret,[(2,.v .bool)]),(.normal,[(1,.box K_PiSPiiqq 0)])]
noncomputable def q79q_l0_r (N:Nat) (back:q79q_l0_H->Option q79q_l0_O) (d:q79q_l0_H):Option q79q_l0_O:=
 let s1:=d.1
 let s3:=d.2.1
 if (decide (s3<(List.length s1.2.1:Int)))=true then
  if (idxIn s3 (List.length s1.2.1))=true then
  let x13:=IntKind.wrap .i64 (s1.1-(1:Int))
  let r14:=g_spec_l1In (((at_ K_Piiq s1.2.1 s3.toNat).1,((0:Int),(x13,()))))
  if (!r14.1)=true then
   some (.inl (false,()))
  else
   let x15:=IntKind.wrap .i64 (s1.1-(1:Int))
   let r16:=g_spec_l1In (((at_ K_Piiq s1.2.1 s3.toNat).2.1,((0:Int),(x15,()))))
   if (!r16.1)=true then
    some (.inl (false,()))
   else
    if (decide ((at_ K_Piiq s1.2.1 s3.toNat).1>=(at_ K_Piiq s1.2.1 s3.toNat).2.1))=true then
     some (.inl (false,()))
    else
     if (decide (s3>(0:Int)))=true then
      let x17:=IntKind.wrap .i64 (s3-(1:Int))
      if (idxIn x17 (List.length s1.2.1))=true then
      let r18:=g_q53q ((at_ K_Piiq s1.2.1 x17.toNat,(at_ K_Piiq s1.2.1 s3.toNat,())))
      if (!r18.1)=true then
       some (.inl (false,()))
      else
       let x19:=IntKind.wrap .i64 (s3+(1:Int))
       back ((s1,(x19,())))
      else none
     else
      let x20:=IntKind.wrap .i64 (s3+(1:Int))
      back ((s1,(x20,())))
  else none
 else
  some (.inr (.inl (s1,())))
noncomputable def q79q_l0 (N:Nat):Nat->q79q_l0_H->Option q79q_l0_O
 | 0,_=>none
 | k+1,d=>q79q_l0_r N (q79q_l0 N k) d
noncomputable def F_q79q (N:Nat) (d:(Int×(List (Int×Int×Unit))×Unit)×Unit):Option (Bool×Unit):=
 let a0:=d.1
 (q79q_l0 N N ((a0,((0:Int),())))).bind fun o9=>match o9 with
 | .inl d10=>
  some (d10.1,())
 | .inr (.inl d11)=>
  let r12:=g_spec_l1In ((d11.1.1,((0:Int),((8:Int),()))))
  some (r12.1,())
noncomputable def S_q79q:FSig:=⟨[(K_PiSPiiqq,false)],[.bool],true,(G_graph)⟩
noncomputable def Γ_q72q:Ctx:={ tk:=assoc tks,ar:=assoc ars,fs:=assoc [(148,S_spec_l1In)] }
noncomputable def F_q72q (N:Nat) (d:(Int×(List (Int×Int×Unit))×Unit)×Int×Unit):Option (Bool×Unit):=
 let a0:=d.1
 let a1:=d.2.1
 let x1:=IntKind.wrap .i64 (a0.1-(1:Int))
 let r2:=g_spec_l1In ((a1,((0:Int),(x1,()))))
 some (r2.1,())
noncomputable def g_q72q (d:(Int×(List (Int×Int×Unit))×Unit)×Int×Unit):Bool×Unit:=
 let a0:=d.1
 let a1:=d.2.1
 let x1:=IntKind.wrap .i64 (a0.1-(1:Int))
 let r2:=g_spec_l1In ((a1,((0:Int),(x1,()))))
 (r2.1,())
theorem F_q72q_tot (N:Nat) (d):F_q72q N d=some (g_q72q d):=by
 unfold F_q72q g_q72q
 first
  | rfl
  | (dsimp only; (repeat' split)<;>rfl)
noncomputable def S_q72q:FSig:=⟨[(K_PiSPiiqq,false),(I,false)],[.bool],true,(fun d=>some (g_q72q d))⟩
noncomputable def Γ_spec_l3Two:Ctx:={ tk:=assoc tks,ar:=assoc ars,fs:=assoc [(115,S_q79q),(132,S_q72q)] }
noncomputable def F_spec_l3Two (N:Nat) (d:(Int×(List (Int×Int×Unit))×Unit)×Int×Int×Unit):Option (Bool×Unit):=
 let a0:=d.1
 let a1:=d.2.1
 let a2:=d.2.2.1
 (G_graph (a0,())).bind fun r1=>
 if (r1.1)=true then
  let r2:=g_q72q ((a0,(a1,())))
  if (r2.1)=true then
   let r3:=g_q72q ((a0,(a2,())))
   some (r3.1,())
  else
   some (false,())
 else
  some (false,())
noncomputable def S_spec_l3Two:FSig:=⟨[(K_PiSPiiqq,false),(I,false),(I,false)],[.bool],true,(F_spec_l3Two 0)⟩
noncomputable def Γ_q78q:Ctx:={ tk:=assoc tks,ar:=assoc ars,fs:=assoc [] }
noncomputable def F_q78q (N:Nat) (d:Bool×Unit):Option (Int×Unit):=
 let a0:=d.1
 if (a0)=true then
  some ((0:Int),())
 else
  some ((-1:Int),())
noncomputable def g_q78q (d:Bool×Unit):Int×Unit:=
 let a0:=d.1
 if (a0)=true then
  ((0:Int),())
 else
  ((-1:Int),())
theorem F_q78q_tot (N:Nat) (d):F_q78q N d=some (g_q78q d):=by
 unfold F_q78q g_q78q
 first
  | rfl
  | (dsimp only; (repeat' split)<;>rfl)
noncomputable def S_q78q:FSig:=⟨[(.bool,false)],[I],true,(fun d=>some (g_q78q d))⟩
noncomputable def Γ_spec_l1Own:Ctx:={ tk:=assoc tks,ar:=assoc ars,fs:=assoc [] }
noncomputable def F_spec_l1Own (N:Nat) (d:List Int×Unit):Option (List Int×Unit):=
 let a0:=d.1
 if (decide (List.length ([]:List Int)+List.length a0<=lim))=true then
 some (([]:List Int)++a0,())
 else none
noncomputable def S_spec_l1Own:FSig:=⟨[(K_Si,false)],[K_Si],true,(F_spec_l1Own 0)⟩
noncomputable def Γ_q59q:Ctx:={ tk:=assoc tks,ar:=assoc ars,fs:=assoc [(124,S_q71q),(201,S_q77q)] }
abbrev q59q_l0_H:=List (List Int)×Int×Int×List Int×Int×Unit
abbrev q59q_l0_O:=(Int×Unit)⊕(Int×Unit)⊕Empty
def q59q_l0_h:Form:=[(1,.v K_SSi),(2,.v I),(9,.v I),(10,.own K_Si 99),(11,.v I)]
def q59q_l0_o:Outs:=[(.ret,[(8,.v I)]),(.normal,[(9,.v I)])]
noncomputable def q59q_l0_r (N:Nat) (back:q59q_l0_H->Option q59q_l0_O) (d:q59q_l0_H):Option q59q_l0_O:=
 let s1:=d.1
 let s2:=d.2.1
 let s9:=d.2.2.1
 let s10:=d.2.2.2.1
 let s11:=d.2.2.2.2.1
 if (decide (s11<(List.length s10:Int)))=true then
  if (idxIn s2 (List.length s1))=true then
  if (idxIn s11 (List.length s10))=true then
  if (idxIn (at_ I s10 s11.toNat) (List.length (at_ K_Si s1 s2.toNat)))=true then
  if (decide (at_ I (at_ K_Si s1 s2.toNat) (at_ I s10 s11.toNat).toNat<(0:Int)))=true then
   some (.inl ((-1:Int),()))
  else
   if (idxIn s2 (List.length s1))=true then
   if (idxIn s11 (List.length s10))=true then
   if (idxIn (at_ I s10 s11.toNat) (List.length (at_ K_Si s1 s2.toNat)))=true then
   let r7:=g_q77q ((s9,(at_ I (at_ K_Si s1 s2.toNat) (at_ I s10 s11.toNat).toNat,())))
   let x8:=IntKind.wrap .i64 (s11+(1:Int))
   back ((s1,(s2,(r7.1,(s10,(x8,()))))))
   else none
   else none
   else none
  else none
  else none
  else none
 else
  some (.inr (.inl (s9,())))
noncomputable def q59q_l0 (N:Nat):Nat->q59q_l0_H->Option q59q_l0_O
 | 0,_=>none
 | k+1,d=>q59q_l0_r N (q59q_l0 N k) d
noncomputable def F_q59q (N:Nat) (d:(Int×(List (Int×Int×Unit))×Unit)×List (List Int)×Int×Int×Unit):Option (Int×Unit):=
 let a0:=d.1
 let a1:=d.2.1
 let a2:=d.2.2.1
 let a3:=d.2.2.2.1
 ((F_q71q 0) ((a0,(a3,())))).bind fun r1=>
 (q59q_l0 N N ((a1,(a2,((0:Int),(r1.1,((0:Int),()))))))).bind fun o4=>match o4 with
 | .inl d5=>
  some (d5.1,())
 | .inr (.inl d6)=>
  some (d6.1,())
noncomputable def S_q59q:FSig:=⟨[(K_PiSPiiqq,false),(K_SSi,false),(I,false),(I,false)],[I],true,(G_l3Worst)⟩
noncomputable def Γ_q68q:Ctx:={ tk:=assoc tks,ar:=assoc ars,fs:=assoc [(245,S_q59q)] }
noncomputable def F_q68q (N:Nat) (d:(Int×(List (Int×Int×Unit))×Unit)×List (List Int)×Int×Int×Unit):Option (Int×Unit):=
 let a0:=d.1
 let a1:=d.2.1
 let a2:=d.2.2.1
 let a3:=d.2.2.2.1
 if (a2==a3)=true then
  some ((0:Int),())
 else
  (G_l3Worst ((a0,(a1,(a2,(a3,())))))).bind fun r1=>
  some (r1.1,())
noncomputable def S_q68q:FSig:=⟨[(K_PiSPiiqq,false),(K_SSi,false),(I,false),(I,false)],[I],true,(F_q68q 0)⟩
noncomputable def Γ_q81q:Ctx:={ tk:=assoc tks,ar:=assoc ars,fs:=assoc [(124,S_q71q),(198,S_q68q)] }
abbrev q81q_l0_H:=List (List Int)×Int×(Int×(List (Int×Int×Unit))×Unit)×Int×List Int×Int×Unit
abbrev q81q_l0_O:=(Int×Unit)⊕Empty
def q81q_l0_h:Form:=[(1,.v K_SSi),(3,.v I),(4,.box K_PiSPiiqq 0),(9,.v I),(10,.own K_Si 99),(11,.v I)]
def q81q_l0_o:Outs:=[(.normal,[(9,.v I)])]
noncomputable def q81q_l0_r (N:Nat) (back:q81q_l0_H->Option q81q_l0_O) (d:q81q_l0_H):Option q81q_l0_O:=
 let s1:=d.1
 let s3:=d.2.1
 let s4:=d.2.2.1
 let s9:=d.2.2.2.1
 let s10:=d.2.2.2.2.1
 let s11:=d.2.2.2.2.2.1
 if (decide (s11<(List.length s10:Int)))=true then
  if (idxIn s11 (List.length s10))=true then
  ((F_q68q 0) ((s4,(s1,(at_ I s10 s11.toNat,(s3,())))))).bind fun r9=>
  if (decide (r9.1>=(0:Int)))=true then
   if (decide (s9<(0:Int)))=true then
    let x10:=IntKind.wrap .i64 (s11+(1:Int))
    back ((s1,(s3,(s4,(r9.1,(s10,(x10,())))))))
   else
    if (decide (r9.1<s9))=true then
     let x11:=IntKind.wrap .i64 (s11+(1:Int))
     back ((s1,(s3,(s4,(r9.1,(s10,(x11,())))))))
    else
     let x12:=IntKind.wrap .i64 (s11+(1:Int))
     back ((s1,(s3,(s4,(s9,(s10,(x12,())))))))
  else
   let x13:=IntKind.wrap .i64 (s11+(1:Int))
   back ((s1,(s3,(s4,(s9,(s10,(x13,())))))))
  else none
 else
  some (.inl (s9,()))
noncomputable def q81q_l0 (N:Nat):Nat->q81q_l0_H->Option q81q_l0_O
 | 0,_=>none
 | k+1,d=>q81q_l0_r N (q81q_l0 N k) d
noncomputable def F_q81q (N:Nat) (d:(Int×(List (Int×Int×Unit))×Unit)×List (List Int)×Int×Int×Unit):Option (Int×Unit):=
 let a0:=d.1
 let a1:=d.2.1
 let a2:=d.2.2.1
 let a3:=d.2.2.2.1
 ((F_q71q 0) ((a0,(a2,())))).bind fun r1=>
 (q81q_l0 N N ((a1,(a3,(a0,((-1:Int),(r1.1,((0:Int),())))))))).bind fun o7=>match o7 with
 | .inl d8=>
  some (d8.1,())
noncomputable def S_q81q:FSig:=⟨[(K_PiSPiiqq,false),(K_SSi,false),(I,false),(I,false)],[I],true,(G_l3Best)⟩
noncomputable def Γ_q58q:Ctx:={ tk:=assoc tks,ar:=assoc ars,fs:=assoc [(151,S_spec_l1Own),(196,S_q78q),(197,S_q81q)] }
abbrev q58q_l2_H:=(Int×(List (Int×Int×Unit))×Unit)×List (List Int)×Int×List Int×Int×Unit
abbrev q58q_l2_O:=((Int×(List (Int×Int×Unit))×Unit)×List (List Int)×Int×List Int×Unit)⊕Empty
def q58q_l2_h:Form:=[(1,.box K_PiSPiiqq 0),(3,.own K_SSi 100),(4,.v I),(5,.own K_Si 99),(6,.v I)]
def q58q_l2_o:Outs:=[(.normal,[(1,.box K_PiSPiiqq 0),(3,.own K_SSi 100),(4,.v I),(5,.own K_Si 99)])]
noncomputable def q58q_l2_r (N:Nat) (back:q58q_l2_H->Option q58q_l2_O) (d:q58q_l2_H):Option q58q_l2_O:=
 let s1:=d.1
 let s3:=d.2.1
 let s4:=d.2.2.1
 let s5:=d.2.2.2.1
 let s6:=d.2.2.2.2.1
 if (decide (s6<s1.1))=true then
  let r27:=g_q78q (s4==s6,())
  if (decide (List.length s5+List.length ([r27.1])<=lim))=true then
  let x28:=IntKind.wrap .i64 (s6+(1:Int))
  back ((s1,(s3,(s4,(s5++([r27.1]),(x28,()))))))
  else none
 else
  some (.inl ((s1,(s3,(s4,(s5,()))))))
noncomputable def q58q_l2 (N:Nat):Nat->q58q_l2_H->Option q58q_l2_O
 | 0,_=>none
 | k+1,d=>q58q_l2_r N (q58q_l2 N k) d
abbrev q58q_l0_H:=(Int×(List (Int×Int×Unit))×Unit)×List (List Int)×Int×Unit
abbrev q58q_l0_O:=((Int×(List (Int×Int×Unit))×Unit)×List (List Int)×Unit)⊕Empty
def q58q_l0_h:Form:=[(1,.box K_PiSPiiqq 0),(3,.own K_SSi 100),(4,.v I)]
def q58q_l0_o:Outs:=[(.normal,[(1,.box K_PiSPiiqq 0),(3,.own K_SSi 100)])]
noncomputable def q58q_l0_r (N:Nat) (back:q58q_l0_H->Option q58q_l0_O) (d:q58q_l0_H):Option q58q_l0_O:=
 let s1:=d.1
 let s3:=d.2.1
 let s4:=d.2.2.1
 if (decide (s4<s1.1))=true then
  (q58q_l2 N N ((s1,(s3,(s4,(([]:List Int),((0:Int),()))))))).bind fun o24=>match o24 with
  | .inl d25=>
   if (decide (List.length d25.2.1+List.length ([d25.2.2.2.1])<=lim))=true then
   let x26:=IntKind.wrap .i64 (d25.2.2.1+(1:Int))
   back ((d25.1,(d25.2.1++([d25.2.2.2.1]),(x26,()))))
   else none
 else
  some (.inl ((s1,(s3,()))))
noncomputable def q58q_l0 (N:Nat):Nat->q58q_l0_H->Option q58q_l0_O
 | 0,_=>none
 | k+1,d=>q58q_l0_r N (q58q_l0 N k) d
abbrev q58q_l8_H:=(Int×(List (Int×Int×Unit))×Unit)×List (List Int)×Bool×List (List Int)×Int×List Int×Int×Unit
abbrev q58q_l8_O:=((Int×(List (Int×Int×Unit))×Unit)×List (List Int)×Bool×List (List Int)×Int×List Int×Unit)⊕Empty
def q58q_l8_h:Form:=[(1,.box K_PiSPiiqq 0),(3,.own K_SSi 100),(7,.v .bool),(8,.own K_SSi 100),(9,.v I),(10,.own K_Si 99),(11,.v I)]
def q58q_l8_o:Outs:=[(.normal,[(1,.box K_PiSPiiqq 0),(3,.own K_SSi 100),(7,.v .bool),(8,.own K_SSi 100),(9,.v I),(10,.own K_Si 99)])]
noncomputable def q58q_l8_r (N:Nat) (back:q58q_l8_H->Option q58q_l8_O) (d:q58q_l8_H):Option q58q_l8_O:=
 let s1:=d.1
 let s3:=d.2.1
 let s7:=d.2.2.1
 let s8:=d.2.2.2.1
 let s9:=d.2.2.2.2.1
 let s10:=d.2.2.2.2.2.1
 let s11:=d.2.2.2.2.2.2.1
 if (decide (s11<s1.1))=true then
  (G_l3Best ((s1,(s3,(s9,(s11,())))))).bind fun r51=>
  if (idxIn s11 (List.length s10))=true then
  if (decide (at_ I s10 s11.toNat<(0:Int)))=true then
   if (decide (r51.1>=(0:Int)))=true then
    let x52:=IntKind.wrap .i64 (r51.1+(1:Int))
    if (idxIn s11 (List.length s10))=true then
    let x53:=IntKind.wrap .i64 (s11+(1:Int))
    back ((s1,(s3,(true,(s8,(s9,(List.set s10 s11.toNat x52,(x53,()))))))))
    else none
   else
    let x54:=IntKind.wrap .i64 (s11+(1:Int))
    back ((s1,(s3,(s7,(s8,(s9,(s10,(x54,()))))))))
  else
   let x55:=IntKind.wrap .i64 (s11+(1:Int))
   back ((s1,(s3,(s7,(s8,(s9,(s10,(x55,()))))))))
  else none
 else
  some (.inl ((s1,(s3,(s7,(s8,(s9,(s10,()))))))))
noncomputable def q58q_l8 (N:Nat):Nat->q58q_l8_H->Option q58q_l8_O
 | 0,_=>none
 | k+1,d=>q58q_l8_r N (q58q_l8 N k) d
abbrev q58q_l6_H:=(Int×(List (Int×Int×Unit))×Unit)×List (List Int)×Bool×List (List Int)×Int×Unit
abbrev q58q_l6_O:=((Int×(List (Int×Int×Unit))×Unit)×Bool×List (List Int)×Unit)⊕Empty
def q58q_l6_h:Form:=[(1,.box K_PiSPiiqq 0),(3,.own K_SSi 100),(7,.v .bool),(8,.own K_SSi 100),(9,.v I)]
def q58q_l6_o:Outs:=[(.normal,[(1,.box K_PiSPiiqq 0),(7,.v .bool),(8,.own K_SSi 100)])]
noncomputable def q58q_l6_r (N:Nat) (back:q58q_l6_H->Option q58q_l6_O) (d:q58q_l6_H):Option q58q_l6_O:=
 let s1:=d.1
 let s3:=d.2.1
 let s7:=d.2.2.1
 let s8:=d.2.2.2.1
 let s9:=d.2.2.2.2.1
 if (decide (s9<s1.1))=true then
  if (idxIn s9 (List.length s3))=true then
  ((F_spec_l1Own 0) (at_ K_Si s3 s9.toNat,())).bind fun r41=>
  (q58q_l8 N N ((s1,(s3,(s7,(s8,(s9,(r41.1,((0:Int),()))))))))).bind fun o47=>match o47 with
  | .inl d48=>
   if (decide (List.length d48.2.2.2.1+List.length ([d48.2.2.2.2.2.1])<=lim))=true then
   let x49:=d48.2.2.2.1++([d48.2.2.2.2.2.1])
   let x50:=IntKind.wrap .i64 (d48.2.2.2.2.1+(1:Int))
   back ((d48.1,(d48.2.1,(d48.2.2.1,(x49,(x50,()))))))
   else none
  else none
 else
  some (.inl ((s1,(s7,(s8,())))))
noncomputable def q58q_l6 (N:Nat):Nat->q58q_l6_H->Option q58q_l6_O
 | 0,_=>none
 | k+1,d=>q58q_l6_r N (q58q_l6 N k) d
abbrev q58q_l4_H:=(Int×(List (Int×Int×Unit))×Unit)×List (List Int)×Bool×Unit
abbrev q58q_l4_O:=(List (List Int)×Unit)⊕Empty
def q58q_l4_h:Form:=[(1,.box K_PiSPiiqq 0),(3,.own K_SSi 100),(7,.v .bool)]
def q58q_l4_o:Outs:=[(.normal,[(3,.own K_SSi 100)])]
noncomputable def q58q_l4_r (N:Nat) (back:q58q_l4_H->Option q58q_l4_O) (d:q58q_l4_H):Option q58q_l4_O:=
 let s1:=d.1
 let s3:=d.2.1
 let s7:=d.2.2.1
 if (s7)=true then
  (q58q_l6 N N ((s1,(s3,(false,(([]:List (List Int)),((0:Int),()))))))).bind fun o39=>match o39 with
  | .inl d40=>
   back ((d40.1,(d40.2.2.1,(d40.2.1,()))))
 else
  some (.inl (s3,()))
noncomputable def q58q_l4 (N:Nat):Nat->q58q_l4_H->Option q58q_l4_O
 | 0,_=>none
 | k+1,d=>q58q_l4_r N (q58q_l4 N k) d
noncomputable def F_q58q (N:Nat) (d:(Int×(List (Int×Int×Unit))×Unit)×Unit):Option (List (List Int)×Unit):=
 let a0:=d.1
 (q58q_l0 N N ((a0,(([]:List (List Int)),((0:Int),()))))).bind fun o6=>match o6 with
 | .inl d7=>
  (q58q_l4 N N ((d7.1,(d7.2.1,(true,()))))).bind fun o20=>match o20 with
  | .inl d21=>
   some (d21.1,())
noncomputable def S_q58q:FSig:=⟨[(K_PiSPiiqq,false)],[K_SSi],true,(G_l3Times)⟩
noncomputable def Γ_q69q:Ctx:={ tk:=assoc tks,ar:=assoc ars,fs:=assoc [(124,S_q71q),(198,S_q68q)] }
abbrev q69q_l0_H:=List (List Int)×Int×Int×(Int×(List (Int×Int×Unit))×Unit)×List Int×Int×Unit
abbrev q69q_l0_O:=(List Int×Int×Unit)⊕Empty
def q69q_l0_h:Form:=[(1,.v K_SSi),(2,.v I),(3,.v I),(4,.box K_PiSPiiqq 0),(9,.own K_Si 99),(10,.v I)]
def q69q_l0_o:Outs:=[(.normal,[(9,.own K_Si 99),(10,.v I)])]
noncomputable def q69q_l0_r (N:Nat) (back:q69q_l0_H->Option q69q_l0_O) (d:q69q_l0_H):Option q69q_l0_O:=
 let s1:=d.1
 let s2:=d.2.1
 let s3:=d.2.2.1
 let s4:=d.2.2.2.1
 let s9:=d.2.2.2.2.1
 let s10:=d.2.2.2.2.2.1
 if (idxIn s10 (List.length s9))=true then
 ((F_q68q 0) ((s4,(s1,(at_ I s9 s10.toNat,(s3,())))))).bind fun r7=>
 if (idxIn s2 (List.length s1))=true then
 if (idxIn s3 (List.length (at_ K_Si s1 s2.toNat)))=true then
 let x8:=IntKind.wrap .i64 (at_ I (at_ K_Si s1 s2.toNat) s3.toNat-(1:Int))
 if (r7.1 != x8)=true then
  let x9:=IntKind.wrap .i64 (s10+(1:Int))
  back ((s1,(s2,(s3,(s4,(s9,(x9,())))))))
 else
  some (.inl ((s9,(s10,()))))
 else none
 else none
 else none
noncomputable def q69q_l0 (N:Nat):Nat->q69q_l0_H->Option q69q_l0_O
 | 0,_=>none
 | k+1,d=>q69q_l0_r N (q69q_l0 N k) d
noncomputable def F_q69q (N:Nat) (d:(Int×(List (Int×Int×Unit))×Unit)×List (List Int)×Int×Int×Unit):Option (Int×Unit):=
 let a0:=d.1
 let a1:=d.2.1
 let a2:=d.2.2.1
 let a3:=d.2.2.2.1
 ((F_q71q 0) ((a0,(a2,())))).bind fun r1=>
 (q69q_l0 N N ((a1,(a2,(a3,(a0,(r1.1,((0:Int),())))))))).bind fun o5=>match o5 with
 | .inl d6=>
  if (idxIn d6.2.1 (List.length d6.1))=true then
  some (at_ I d6.1 d6.2.1.toNat,())
  else none
noncomputable def S_q69q:FSig:=⟨[(K_PiSPiiqq,false),(K_SSi,false),(I,false),(I,false)],[I],true,(G_l3Chase)⟩
noncomputable def Γ_q66q:Ctx:={ tk:=assoc tks,ar:=assoc ars,fs:=assoc [(109,S_spec_l3Two),(110,S_q58q),(111,S_q69q)] }
noncomputable def F_q66q (N:Nat) (d:(Int×(List (Int×Int×Unit))×Unit)×Int×Int×Unit):Option (Int×Bool×Unit):=
 let a0:=d.1
 let a1:=d.2.1
 let a2:=d.2.2.1
 ((F_spec_l3Two 0) ((a0,(a1,(a2,()))))).bind fun r1=>
 if (!r1.1)=true then
  some (((0:Int),(false,())))
 else
  (G_l3Times (a0,())).bind fun r2=>
  if (idxIn a1 (List.length r2.1))=true then
  if (idxIn a2 (List.length (at_ K_Si r2.1 a1.toNat)))=true then
  if (decide (at_ I (at_ K_Si r2.1 a1.toNat) a2.toNat<(1:Int)))=true then
   some (((0:Int),(false,())))
  else
   (G_l3Chase ((a0,(r2.1,(a1,(a2,())))))).bind fun r3=>
   some ((r3.1,(true,())))
  else none
  else none
noncomputable def S_q66q:FSig:=⟨[(K_PiSPiiqq,false),(I,false),(I,false)],[I,.bool],true,(F_q66q 0)⟩
noncomputable def Γ_q15q:Ctx:={ tk:=assoc tks,ar:=assoc ars,fs:=assoc [(127,S_impl_setOf),(130,S_q40q)] }
abbrev q15q_l0_H:=List Int×Int×List Int×Int×Int×Unit
abbrev q15q_l0_O:=(Int×Unit)⊕Empty
def q15q_l0_h:Form:=[(1,.v K_Si),(8,.v I),(19,.v K_Si),(20,.v I),(21,.v I)]
def q15q_l0_o:Outs:=[(.normal,[(8,.v I)])]
noncomputable def q15q_l0_r (N:Nat) (back:q15q_l0_H->Option q15q_l0_O) (d:q15q_l0_H):Option q15q_l0_O:=
 let s1:=d.1
 let s8:=d.2.1
 let s19:=d.2.2.1
 let s20:=d.2.2.2.1
 let s21:=d.2.2.2.2.1
 if (decide (s21<s20))=true then
  if (idxIn s21 (List.length s19))=true then
  if (idxIn s8 (List.length s1))=true then
  if (decide (at_ I s1 s8.toNat>=(0:Int)))=true then
   if (idxIn (at_ I s19 s21.toNat) (List.length s1))=true then
   if (decide (at_ I s1 (at_ I s19 s21.toNat).toNat<(0:Int)))=true then
    let x10:=IntKind.wrap .i64 (s21+(1:Int))
    back ((s1,(at_ I s19 s21.toNat,(s19,(s20,(x10,()))))))
   else
    if (idxIn (at_ I s19 s21.toNat) (List.length s1))=true then
    if (idxIn s8 (List.length s1))=true then
    if (decide (at_ I s1 (at_ I s19 s21.toNat).toNat>at_ I s1 s8.toNat))=true then
     let x11:=IntKind.wrap .i64 (s21+(1:Int))
     back ((s1,(at_ I s19 s21.toNat,(s19,(s20,(x11,()))))))
    else
     let x12:=IntKind.wrap .i64 (s21+(1:Int))
     back ((s1,(s8,(s19,(s20,(x12,()))))))
    else none
    else none
   else none
  else
   let x13:=IntKind.wrap .i64 (s21+(1:Int))
   back ((s1,(s8,(s19,(s20,(x13,()))))))
  else none
  else none
 else
  some (.inl (s8,()))
noncomputable def q15q_l0 (N:Nat):Nat->q15q_l0_H->Option q15q_l0_O
 | 0,_=>none
 | k+1,d=>q15q_l0_r N (q15q_l0 N k) d
noncomputable def F_q15q (N:Nat) (d:(List Int×Unit)×List Int×Int×Unit):Option (Int×Unit):=
 let a0:=d.1
 let a1:=d.2.1
 let a2:=d.2.2.1
 ((F_q40q 0) ((a0,(a2,())))).bind fun r1=>
 (G_setOf (r1.1,())).bind fun r2=>
 if (idxIn (0:Int) (List.length r2.1))=true then
 if ((decide (0<=(1:Int))&&decide ((1:Int)<=(List.length r2.1:Int))&&decide ((List.length r2.1:Int)<=(List.length r2.1:Int))))=true then
 let x3:=sub_ r2.1 (1:Int) (List.length r2.1:Int)
 (q15q_l0 N N ((a1,(at_ I r2.1 (0:Int).toNat,(x3,((List.length x3:Int),((0:Int),()))))))).bind fun o8=>match o8 with
 | .inl d9=>
  some (d9.1,())
 else none
 else none
noncomputable def S_q15q:FSig:=⟨[(K_PSiq,false),(K_Si,false),(I,false)],[I],true,(G_robberMove)⟩
noncomputable def Γ_q43q:Ctx:={ tk:=assoc tks,ar:=assoc ars,fs:=assoc [(95,S_impl_netOf),(106,S_q50q),(107,S_q24q),(112,S_q15q)] }
noncomputable def F_q43q (N:Nat) (d:(Int×(List (Int×Int×Unit))×Unit)×Int×Int×Unit):Option (Int×Bool×Unit):=
 let a0:=d.1
 let a1:=d.2.1
 let a2:=d.2.2.1
 ((F_q50q 0) ((a0,([a1,a2],())))).bind fun r1=>
 if (!r1.1)=true then
  some (((0:Int),(false,())))
 else
  if (a1==a2)=true then
   some (((0:Int),(false,())))
  else
   (G_netOf (a0,())).bind fun r2=>
   (G_copTimes (r2.1,())).bind fun r3=>
   if (idxIn a1 (List.length r3.1))=true then
   (G_robberMove ((r2.1,(at_ K_Si r3.1 a1.toNat,(a2,()))))).bind fun r4=>
   some ((r4.1,(true,())))
   else none
noncomputable def S_q43q:FSig:=⟨[(K_PiSPiiqq,false),(I,false),(I,false)],[I,.bool],true,(F_q43q 0)⟩
noncomputable def Γ_q83q:Ctx:={ tk:=assoc tks,ar:=assoc ars,fs:=assoc [(124,S_q71q)] }
abbrev q83q_l0_H:=List (List Int)×Int×List Int×Int×Int×Unit
abbrev q83q_l0_O:=(Int×Unit)⊕(Int×Unit)⊕Empty
def q83q_l0_h:Form:=[(1,.v K_SSi),(2,.v I),(9,.own K_Si 99),(10,.v I),(11,.v I)]
def q83q_l0_o:Outs:=[(.ret,[(8,.v I)]),(.normal,[(10,.v I)])]
noncomputable def q83q_l0_r (N:Nat) (back:q83q_l0_H->Option q83q_l0_O) (d:q83q_l0_H):Option q83q_l0_O:=
 let s1:=d.1
 let s2:=d.2.1
 let s9:=d.2.2.1
 let s10:=d.2.2.2.1
 let s11:=d.2.2.2.2.1
 if (decide (s11<(List.length s9:Int)))=true then
  if (idxIn s2 (List.length s1))=true then
  if (idxIn s11 (List.length s9))=true then
  if (idxIn (at_ I s9 s11.toNat) (List.length (at_ K_Si s1 s2.toNat)))=true then
  if (decide (at_ I (at_ K_Si s1 s2.toNat) (at_ I s9 s11.toNat).toNat<(0:Int)))=true then
   if (idxIn s11 (List.length s9))=true then
   some (.inl (at_ I s9 s11.toNat,()))
   else none
  else
   if (idxIn s2 (List.length s1))=true then
   if (idxIn s11 (List.length s9))=true then
   if (idxIn (at_ I s9 s11.toNat) (List.length (at_ K_Si s1 s2.toNat)))=true then
   if (idxIn s2 (List.length s1))=true then
   if (idxIn s10 (List.length (at_ K_Si s1 s2.toNat)))=true then
   if (decide (at_ I (at_ K_Si s1 s2.toNat) (at_ I s9 s11.toNat).toNat>at_ I (at_ K_Si s1 s2.toNat) s10.toNat))=true then
    if (idxIn s11 (List.length s9))=true then
    let x7:=IntKind.wrap .i64 (s11+(1:Int))
    back ((s1,(s2,(s9,(at_ I s9 s11.toNat,(x7,()))))))
    else none
   else
    let x8:=IntKind.wrap .i64 (s11+(1:Int))
    back ((s1,(s2,(s9,(s10,(x8,()))))))
   else none
   else none
   else none
   else none
   else none
  else none
  else none
  else none
 else
  some (.inr (.inl (s10,())))
noncomputable def q83q_l0 (N:Nat):Nat->q83q_l0_H->Option q83q_l0_O
 | 0,_=>none
 | k+1,d=>q83q_l0_r N (q83q_l0 N k) d
noncomputable def F_q83q (N:Nat) (d:(Int×(List (Int×Int×Unit))×Unit)×List (List Int)×Int×Int×Unit):Option (Int×Unit):=
 let a0:=d.1
 let a1:=d.2.1
 let a2:=d.2.2.1
 let a3:=d.2.2.2.1
 ((F_q71q 0) ((a0,(a3,())))).bind fun r1=>
 if (idxIn (0:Int) (List.length r1.1))=true then
 (q83q_l0 N N ((a1,(a2,(r1.1,(at_ I r1.1 (0:Int).toNat,((0:Int),()))))))).bind fun o4=>match o4 with
 | .inl d5=>
  some (d5.1,())
 | .inr (.inl d6)=>
  some (d6.1,())
 else none
noncomputable def S_q83q:FSig:=⟨[(K_PiSPiiqq,false),(K_SSi,false),(I,false),(I,false)],[I],true,(G_l3Flee)⟩
noncomputable def Γ_q37q:Ctx:={ tk:=assoc tks,ar:=assoc ars,fs:=assoc [(109,S_spec_l3Two),(110,S_q58q),(113,S_q83q)] }
noncomputable def F_q37q (N:Nat) (d:(Int×(List (Int×Int×Unit))×Unit)×Int×Int×Unit):Option (Int×Bool×Unit):=
 let a0:=d.1
 let a1:=d.2.1
 let a2:=d.2.2.1
 ((F_spec_l3Two 0) ((a0,(a1,(a2,()))))).bind fun r1=>
 if (!r1.1)=true then
  some (((0:Int),(false,())))
 else
  if (a1==a2)=true then
   some (((0:Int),(false,())))
  else
   (G_l3Times (a0,())).bind fun r2=>
   (G_l3Flee ((a0,(r2.1,(a1,(a2,())))))).bind fun r3=>
   some ((r3.1,(true,())))
noncomputable def S_q37q:FSig:=⟨[(K_PiSPiiqq,false),(I,false),(I,false)],[I,.bool],true,(F_q37q 0)⟩
noncomputable def Γ_q64q:Ctx:={ tk:=assoc tks,ar:=assoc ars,fs:=assoc [(95,S_impl_netOf),(106,S_q50q),(107,S_q24q),(108,S_q34q),(112,S_q15q)] }
abbrev q64q_l0_H:=Int×Int×(List Int×Unit)×List (List Int)×(List (Int×Int×Unit))×Unit
abbrev q64q_l0_O:=((List (Int×Int×Unit))×Unit)⊕Empty
def q64q_l0_h:Form:=[(1,.v I),(2,.v I),(8,.box K_PSiq 99),(9,.own K_SSi 99),(10,.own K_SPiiq 99)]
def q64q_l0_o:Outs:=[(.normal,[(10,.own K_SPiiq 99)])]
noncomputable def q64q_l0_r (N:Nat) (back:q64q_l0_H->Option q64q_l0_O) (d:q64q_l0_H):Option q64q_l0_O:=
 let s1:=d.1
 let s2:=d.2.1
 let s8:=d.2.2.1
 let s9:=d.2.2.2.1
 let s10:=d.2.2.2.2.1
 if (s1 != s2)=true then
  (G_copMove ((s8,(s9,(s1,(s2,())))))).bind fun r9=>
  if (r9.1 != s2)=true then
   if (idxIn r9.1 (List.length s9))=true then
   (G_robberMove ((s8,(at_ K_Si s9 r9.1.toNat,(s2,()))))).bind fun r10=>
   if (decide (List.length s10+List.length ([(r9.1,(r10.1,()))])<=lim))=true then
   let x11:=s10++([(r9.1,(r10.1,()))])
   back ((r9.1,(r10.1,(s8,(s9,(x11,()))))))
   else none
   else none
  else
   if (decide (List.length s10+List.length ([(r9.1,(s2,()))])<=lim))=true then
   back ((r9.1,(s2,(s8,(s9,(s10++([(r9.1,(s2,()))]),()))))))
   else none
 else
  some (.inl (s10,()))
noncomputable def q64q_l0 (N:Nat):Nat->q64q_l0_H->Option q64q_l0_O
 | 0,_=>none
 | k+1,d=>q64q_l0_r N (q64q_l0 N k) d
noncomputable def F_q64q (N:Nat) (d:(Int×(List (Int×Int×Unit))×Unit)×Int×Int×Unit):Option ((List (Int×Int×Unit))×Bool×Unit):=
 let a0:=d.1
 let a1:=d.2.1
 let a2:=d.2.2.1
 ((F_q50q 0) ((a0,([a1,a2],())))).bind fun r1=>
 if (!r1.1)=true then
  some ((([]:List (Int×Int×Unit)),(false,())))
 else
  (G_netOf (a0,())).bind fun r2=>
  (G_copTimes (r2.1,())).bind fun r3=>
  if (idxIn a1 (List.length r3.1))=true then
  if (idxIn a2 (List.length (at_ K_Si r3.1 a1.toNat)))=true then
  if (decide (at_ I (at_ K_Si r3.1 a1.toNat) a2.toNat<(0:Int)))=true then
   some ((([]:List (Int×Int×Unit)),(false,())))
  else
   (q64q_l0 N N ((a1,(a2,(r2.1,(r3.1,([(a1,(a2,()))],()))))))).bind fun o7=>match o7 with
   | .inl d8=>
    some ((d8.1,(true,())))
  else none
  else none
noncomputable def S_q64q:FSig:=⟨[(K_PiSPiiqq,false),(I,false),(I,false)],[K_SPiiq,.bool],true,(G_PlayOut)⟩
noncomputable def Γ_q65q:Ctx:={ tk:=assoc tks,ar:=assoc ars,fs:=assoc [(109,S_spec_l3Two),(110,S_q58q),(111,S_q69q),(113,S_q83q)] }
abbrev q65q_l0_H:=Int×Int×(Int×(List (Int×Int×Unit))×Unit)×List (List Int)×(List (Int×Int×Unit))×Unit
abbrev q65q_l0_O:=((List (Int×Int×Unit))×Unit)⊕Empty
def q65q_l0_h:Form:=[(1,.v I),(2,.v I),(3,.box K_PiSPiiqq 0),(8,.own K_SSi 99),(9,.own K_SPiiq 99)]
def q65q_l0_o:Outs:=[(.normal,[(9,.own K_SPiiq 99)])]
noncomputable def q65q_l0_r (N:Nat) (back:q65q_l0_H->Option q65q_l0_O) (d:q65q_l0_H):Option q65q_l0_O:=
 let s1:=d.1
 let s2:=d.2.1
 let s3:=d.2.2.1
 let s8:=d.2.2.2.1
 let s9:=d.2.2.2.2.1
 if (s1 != s2)=true then
  (G_l3Chase ((s3,(s8,(s1,(s2,())))))).bind fun r7=>
  if (r7.1 != s2)=true then
   (G_l3Flee ((s3,(s8,(r7.1,(s2,())))))).bind fun r8=>
   if (decide (List.length s9+List.length ([(r7.1,(r8.1,()))])<=lim))=true then
   back ((r7.1,(r8.1,(s3,(s8,(s9++([(r7.1,(r8.1,()))]),()))))))
   else none
  else
   if (decide (List.length s9+List.length ([(r7.1,(s2,()))])<=lim))=true then
   back ((r7.1,(s2,(s3,(s8,(s9++([(r7.1,(s2,()))]),()))))))
   else none
 else
  some (.inl (s9,()))
noncomputable def q65q_l0 (N:Nat):Nat->q65q_l0_H->Option q65q_l0_O
 | 0,_=>none
 | k+1,d=>q65q_l0_r N (q65q_l0 N k) d
noncomputable def F_q65q (N:Nat) (d:(Int×(List (Int×Int×Unit))×Unit)×Int×Int×Unit):Option ((List (Int×Int×Unit))×Bool×Unit):=
 let a0:=d.1
 let a1:=d.2.1
 let a2:=d.2.2.1
 ((F_spec_l3Two 0) ((a0,(a1,(a2,()))))).bind fun r1=>
 if (!r1.1)=true then
  some ((([]:List (Int×Int×Unit)),(false,())))
 else
  (G_l3Times (a0,())).bind fun r2=>
  if (idxIn a1 (List.length r2.1))=true then
  if (idxIn a2 (List.length (at_ K_Si r2.1 a1.toNat)))=true then
  if (decide (at_ I (at_ K_Si r2.1 a1.toNat) a2.toNat<(0:Int)))=true then
   some ((([]:List (Int×Int×Unit)),(false,())))
  else
   (q65q_l0 N N ((a1,(a2,(a0,(r2.1,([(a1,(a2,()))],()))))))).bind fun o5=>match o5 with
   | .inl d6=>
    some ((d6.1,(true,())))
  else none
  else none
noncomputable def S_q65q:FSig:=⟨[(K_PiSPiiqq,false),(I,false),(I,false)],[K_SPiiq,.bool],true,(G_PlayOut)⟩
noncomputable def Γ_q54q:Ctx:={ tk:=assoc tks,ar:=assoc ars,fs:=assoc [(95,S_impl_netOf),(107,S_q24q),(114,S_q60q)] }
noncomputable def F_q54q (N:Nat) (d:(Int×(List (Int×Int×Unit))×Unit)×Unit):Option (List (List Int)×Bool×Unit):=
 let a0:=d.1
 (G_graph (a0,())).bind fun r1=>
 if (!r1.1)=true then
  some ((([]:List (List Int)),(false,())))
 else
  (G_netOf (a0,())).bind fun r2=>
  (G_copTimes (r2.1,())).bind fun r3=>
  some ((r3.1,(true,())))
noncomputable def S_q54q:FSig:=⟨[(K_PiSPiiqq,false)],[K_SSi,.bool],true,(F_q54q 0)⟩
noncomputable def Γ_q56q:Ctx:={ tk:=assoc tks,ar:=assoc ars,fs:=assoc [(110,S_q58q),(115,S_q79q)] }
noncomputable def F_q56q (N:Nat) (d:(Int×(List (Int×Int×Unit))×Unit)×Unit):Option (List (List Int)×Bool×Unit):=
 let a0:=d.1
 (G_graph (a0,())).bind fun r1=>
 if (!r1.1)=true then
  some ((([]:List (List Int)),(false,())))
 else
  (G_l3Times (a0,())).bind fun r2=>
  some ((r2.1,(true,())))
noncomputable def S_q56q:FSig:=⟨[(K_PiSPiiqq,false)],[K_SSi,.bool],true,(F_q56q 0)⟩
noncomputable def Γ_q10q:Ctx:={ tk:=assoc tks,ar:=assoc ars,fs:=assoc [] }
abbrev q10q_l0_H:=List Int×Int×Int×Int×Unit
abbrev q10q_l0_O:=(Int×Unit)⊕Unit⊕Empty
def q10q_l0_h:Form:=[(0,.v K_Si),(1,.v I),(7,.v I),(8,.v I)]
def q10q_l0_o:Outs:=[(.ret,[(4,.v I)]),(.normal,[])]
noncomputable def q10q_l0_r (N:Nat) (back:q10q_l0_H->Option q10q_l0_O) (d:q10q_l0_H):Option q10q_l0_O:=
 let s0:=d.1
 let s1:=d.2.1
 let s7:=d.2.2.1
 let s8:=d.2.2.2.1
 if (decide (s8<s7))=true then
  if (idxIn s8 (List.length s0))=true then
  if (s1==at_ I s0 s8.toNat)=true then
   some (.inl (s8,()))
  else
   let x5:=IntKind.wrap .i64 (s8+(1:Int))
   back ((s0,(s1,(s7,(x5,())))))
  else none
 else
  some (.inr (.inl ()))
noncomputable def q10q_l0 (N:Nat):Nat->q10q_l0_H->Option q10q_l0_O
 | 0,_=>none
 | k+1,d=>q10q_l0_r N (q10q_l0 N k) d
noncomputable def F_q10q (N:Nat) (d:List Int×Int×Unit):Option (Int×Unit):=
 let a0:=d.1
 let a1:=d.2.1
 (q10q_l0 N N ((a0,(a1,((List.length a0:Int),((0:Int),())))))).bind fun o2=>match o2 with
 | .inl d3=>
  some (d3.1,())
 | .inr (.inl d4)=>
  some ((-1:Int),())
noncomputable def S_q10q:FSig:=⟨[(K_Si,false),(I,false)],[I],true,(G_index)⟩
noncomputable def Γ_q7q:Ctx:={ tk:=assoc tks,ar:=assoc ars,fs:=assoc [(211,S_q10q)] }
noncomputable def F_q7q (N:Nat) (d:List Int×Int×Unit):Option (Bool×Unit):=
 let a0:=d.1
 let a1:=d.2.1
 (G_index ((a0,(a1,())))).bind fun r1=>
 some ((decide (r1.1>=(0:Int)),()))
noncomputable def S_q7q:FSig:=⟨[(K_Si,false),(I,false)],[.bool],true,(F_q7q 0)⟩
noncomputable def Γ_q14q:Ctx:={ tk:=assoc tks,ar:=assoc ars,fs:=assoc [] }
abbrev q14q_l0_H:=List Int×Int×Int×Unit
abbrev q14q_l0_O:=(Int×Unit)⊕Empty
def q14q_l0_h:Form:=[(0,.v K_Si),(3,.v I),(4,.v I)]
def q14q_l0_o:Outs:=[(.normal,[(3,.v I)])]
noncomputable def q14q_l0_r (N:Nat) (back:q14q_l0_H->Option q14q_l0_O) (d:q14q_l0_H):Option q14q_l0_O:=
 let s0:=d.1
 let s3:=d.2.1
 let s4:=d.2.2.1
 if (decide (s4<(List.length s0:Int)))=true then
  if (idxIn s4 (List.length s0))=true then
  let x5:=if s3<at_ I s0 s4.toNat then at_ I s0 s4.toNat else s3
  let x6:=IntKind.wrap .i64 (s4+(1:Int))
  back ((s0,(x5,(x6,()))))
  else none
 else
  some (.inl (s3,()))
noncomputable def q14q_l0 (N:Nat):Nat->q14q_l0_H->Option q14q_l0_O
 | 0,_=>none
 | k+1,d=>q14q_l0_r N (q14q_l0 N k) d
noncomputable def F_q14q (N:Nat) (d:List Int×Unit):Option (Int×Unit):=
 let a0:=d.1
 if (decide ((List.length a0:Int)<(1:Int)))=true then
  none
 else
  if (idxIn (0:Int) (List.length a0))=true then
  (q14q_l0 N N ((a0,(at_ I a0 (0:Int).toNat,((1:Int),()))))).bind fun o3=>match o3 with
  | .inl d4=>
   some (d4.1,())
  else none
noncomputable def S_q14q:FSig:=⟨[(K_Si,false)],[I],true,(G_max)⟩
noncomputable def Γ_q29q:Ctx:={ tk:=assoc tks,ar:=assoc ars,fs:=assoc [(107,S_q24q),(129,S_q7q),(175,S_q14q)] }
abbrev q29q_l0_H:=Int×Int×Bool×List (List Int)×Int×Int×Unit
abbrev q29q_l0_O:=(Int×Int×Bool×Unit)⊕Empty
def q29q_l0_h:Form:=[(5,.v I),(6,.v I),(7,.v .bool),(12,.own K_SSi 99),(13,.v I),(14,.v I)]
def q29q_l0_o:Outs:=[(.normal,[(5,.v I),(6,.v I),(7,.v .bool)])]
noncomputable def q29q_l0_r (N:Nat) (back:q29q_l0_H->Option q29q_l0_O) (d:q29q_l0_H):Option q29q_l0_O:=
 let s5:=d.1
 let s6:=d.2.1
 let s7:=d.2.2.1
 let s12:=d.2.2.2.1
 let s13:=d.2.2.2.2.1
 let s14:=d.2.2.2.2.2.1
 if (decide (s14<s13))=true then
  if (idxIn s14 (List.length s12))=true then
  ((F_q7q 0) ((at_ K_Si s12 s14.toNat,((-1:Int),())))).bind fun r10=>
  if (r10.1)=true then
   let x11:=IntKind.wrap .i64 (s14+(1:Int))
   back ((s5,(s6,(s7,(s12,(s13,(x11,())))))))
  else
   (G_max (at_ K_Si s12 s14.toNat,())).bind fun r12=>
   if (!s7)=true then
    let x13:=IntKind.wrap .i64 (s14+(1:Int))
    back ((s14,(r12.1,(true,(s12,(s13,(x13,())))))))
   else
    if (decide (r12.1<s6))=true then
     let x14:=IntKind.wrap .i64 (s14+(1:Int))
     back ((s14,(r12.1,(true,(s12,(s13,(x14,())))))))
    else
     let x15:=IntKind.wrap .i64 (s14+(1:Int))
     back ((s5,(s6,(s7,(s12,(s13,(x15,())))))))
  else none
 else
  some (.inl ((s5,(s6,(s7,())))))
noncomputable def q29q_l0 (N:Nat):Nat->q29q_l0_H->Option q29q_l0_O
 | 0,_=>none
 | k+1,d=>q29q_l0_r N (q29q_l0 N k) d
noncomputable def F_q29q (N:Nat) (d:(List Int×Unit)×Unit):Option (Int×Int×Bool×Unit):=
 let a0:=d.1
 (G_copTimes (a0,())).bind fun r1=>
 (q29q_l0 N N (((0:Int),((0:Int),(false,(r1.1,((List.length r1.1:Int),((0:Int),())))))))).bind fun o8=>match o8 with
 | .inl d9=>
  some ((d9.1,(d9.2.1,(d9.2.2.1,()))))
noncomputable def S_q29q:FSig:=⟨[(K_PSiq,false)],[I,I,.bool],true,(G_bestCop)⟩
noncomputable def Γ_q30q:Ctx:={ tk:=assoc tks,ar:=assoc ars,fs:=assoc [(95,S_impl_netOf),(114,S_q60q),(116,S_q29q)] }
noncomputable def F_q30q (N:Nat) (d:(Int×(List (Int×Int×Unit))×Unit)×Unit):Option (Int×Int×Bool×Unit):=
 let a0:=d.1
 (G_graph (a0,())).bind fun r1=>
 if (!r1.1)=true then
  some (((0:Int),((0:Int),(false,()))))
 else
  (G_netOf (a0,())).bind fun r2=>
  (G_bestCop (r2.1,())).bind fun r3=>
  some ((r3.1,(r3.2.1,(r3.2.2.1,()))))
noncomputable def S_q30q:FSig:=⟨[(K_PiSPiiqq,false)],[I,I,.bool],true,(F_q30q 0)⟩
noncomputable def Γ_q75q:Ctx:={ tk:=assoc tks,ar:=assoc ars,fs:=assoc [(115,S_q79q)] }
noncomputable def F_q75q (N:Nat) (d:(Int×(List (Int×Int×Unit))×Unit)×Unit):Option (Bool×Unit):=
 let a0:=d.1
 (G_graph (a0,())).bind fun r1=>
 if (r1.1)=true then
  some ((decide (a0.1>(0:Int)),()))
 else
  some (false,())
noncomputable def S_q75q:FSig:=⟨[(K_PiSPiiqq,false)],[.bool],true,(F_q75q 0)⟩
noncomputable def Γ_q63q:Ctx:={ tk:=assoc tks,ar:=assoc ars,fs:=assoc [(201,S_q77q)] }
abbrev q63q_l0_H:=List (List Int)×Int×Int×Int×Unit
abbrev q63q_l0_O:=(Int×Unit)⊕(Int×Unit)⊕Empty
def q63q_l0_h:Form:=[(0,.v K_SSi),(1,.v I),(5,.v I),(6,.v I)]
def q63q_l0_o:Outs:=[(.ret,[(4,.v I)]),(.normal,[(5,.v I)])]
noncomputable def q63q_l0_r (N:Nat) (back:q63q_l0_H->Option q63q_l0_O) (d:q63q_l0_H):Option q63q_l0_O:=
 let s0:=d.1
 let s1:=d.2.1
 let s5:=d.2.2.1
 let s6:=d.2.2.2.1
 if (decide (s6<(List.length s0:Int)))=true then
  if (idxIn s1 (List.length s0))=true then
  if (idxIn s6 (List.length (at_ K_Si s0 s1.toNat)))=true then
  if (decide (at_ I (at_ K_Si s0 s1.toNat) s6.toNat<(0:Int)))=true then
   some (.inl ((-1:Int),()))
  else
   if (idxIn s1 (List.length s0))=true then
   if (idxIn s6 (List.length (at_ K_Si s0 s1.toNat)))=true then
   let r6:=g_q77q ((s5,(at_ I (at_ K_Si s0 s1.toNat) s6.toNat,())))
   let x7:=IntKind.wrap .i64 (s6+(1:Int))
   back ((s0,(s1,(r6.1,(x7,())))))
   else none
   else none
  else none
  else none
 else
  some (.inr (.inl (s5,())))
noncomputable def q63q_l0 (N:Nat):Nat->q63q_l0_H->Option q63q_l0_O
 | 0,_=>none
 | k+1,d=>q63q_l0_r N (q63q_l0 N k) d
noncomputable def F_q63q (N:Nat) (d:List (List Int)×Int×Unit):Option (Int×Unit):=
 let a0:=d.1
 let a1:=d.2.1
 (q63q_l0 N N ((a0,(a1,((0:Int),((0:Int),())))))).bind fun o3=>match o3 with
 | .inl d4=>
  some (d4.1,())
 | .inr (.inl d5)=>
  some (d5.1,())
noncomputable def S_q63q:FSig:=⟨[(K_SSi,false),(I,false)],[I],true,(G_l3Start)⟩
noncomputable def Γ_q27q:Ctx:={ tk:=assoc tks,ar:=assoc ars,fs:=assoc [(110,S_q58q),(117,S_q75q),(118,S_q63q)] }
abbrev q27q_l0_H:=(Int×(List (Int×Int×Unit))×Unit)×List (List Int)×Int×Int×Unit
abbrev q27q_l0_O:=(List (List Int)×Int×Unit)⊕Empty
def q27q_l0_h:Form:=[(1,.box K_PiSPiiqq 0),(5,.own K_SSi 99),(6,.v I),(7,.v I)]
def q27q_l0_o:Outs:=[(.normal,[(5,.own K_SSi 99),(6,.v I)])]
noncomputable def q27q_l0_r (N:Nat) (back:q27q_l0_H->Option q27q_l0_O) (d:q27q_l0_H):Option q27q_l0_O:=
 let s1:=d.1
 let s5:=d.2.1
 let s6:=d.2.2.1
 let s7:=d.2.2.2.1
 if (decide (s7<s1.1))=true then
  (G_l3Start ((s5,(s7,())))).bind fun r12=>
  if (decide (r12.1>=(0:Int)))=true then
   if (decide (s6<(0:Int)))=true then
    let x13:=IntKind.wrap .i64 (s7+(1:Int))
    back ((s1,(s5,(s7,(x13,())))))
   else
    (G_l3Start ((s5,(s6,())))).bind fun r14=>
    if (decide (r12.1<r14.1))=true then
     let x15:=IntKind.wrap .i64 (s7+(1:Int))
     back ((s1,(s5,(s7,(x15,())))))
    else
     let x16:=IntKind.wrap .i64 (s7+(1:Int))
     back ((s1,(s5,(s6,(x16,())))))
  else
   let x17:=IntKind.wrap .i64 (s7+(1:Int))
   back ((s1,(s5,(s6,(x17,())))))
 else
  some (.inl ((s5,(s6,()))))
noncomputable def q27q_l0 (N:Nat):Nat->q27q_l0_H->Option q27q_l0_O
 | 0,_=>none
 | k+1,d=>q27q_l0_r N (q27q_l0 N k) d
noncomputable def F_q27q (N:Nat) (d:(Int×(List (Int×Int×Unit))×Unit)×Unit):Option (Int×Int×Bool×Unit):=
 let a0:=d.1
 ((F_q75q 0) (a0,())).bind fun r1=>
 if (!r1.1)=true then
  some (((0:Int),((0:Int),(false,()))))
 else
  (G_l3Times (a0,())).bind fun r2=>
  (q27q_l0 N N ((a0,(r2.1,((-1:Int),((0:Int),())))))).bind fun o9=>match o9 with
  | .inl d10=>
   if (decide (d10.2.1<(0:Int)))=true then
    some (((0:Int),((0:Int),(false,()))))
   else
    (G_l3Start ((d10.1,(d10.2.1,())))).bind fun r11=>
    some ((d10.2.1,(r11.1,(true,()))))
noncomputable def S_q27q:FSig:=⟨[(K_PiSPiiqq,false)],[I,I,.bool],true,(G_capOne)⟩
noncomputable def Γ_q73q:Ctx:={ tk:=assoc tks,ar:=assoc ars,fs:=assoc [],cs:=assoc [],gs:=assoc [],eqt:=inL [52],md:=md0 }
abbrev q73q_l0_H:=(List (Int×Int×Unit))×(List (Int×Int×Unit))×Int×Unit
abbrev q73q_l0_O:=(Bool×Unit)⊕Unit⊕Empty
def q73q_l0_h:Form:=[(0,.v K_SPiiq),(1,.v K_SPiiq),(5,.v I)]
def q73q_l0_o:Outs:=[(.ret,[(4,.v .bool)]),(.normal,[])]
noncomputable def q73q_l0_r (N:Nat) (back:q73q_l0_H->Option q73q_l0_O) (d:q73q_l0_H):Option q73q_l0_O:=
 let s0:=d.1
 let s1:=d.2.1
 let s5:=d.2.2.1
 if (decide (s5<(List.length s0:Int)))=true then
  if (idxIn s5 (List.length s0))=true then
  if (idxIn s5 (List.length s1))=true then
  if (!eqB K_Piiq (at_ K_Piiq s0 s5.toNat) (at_ K_Piiq s1 s5.toNat))=true then
   some (.inl (false,()))
  else
   let x5:=IntKind.wrap .i64 (s5+(1:Int))
   back ((s0,(s1,(x5,()))))
  else none
  else none
 else
  some (.inr (.inl ()))
noncomputable def q73q_l0 (N:Nat):Nat->q73q_l0_H->Option q73q_l0_O
 | 0,_=>none
 | k+1,d=>q73q_l0_r N (q73q_l0 N k) d
noncomputable def F_q73q (N:Nat) (d:(List (Int×Int×Unit))×(List (Int×Int×Unit))×Unit):Option (Bool×Unit):=
 let a0:=d.1
 let a1:=d.2.1
 if ((List.length a0:Int) != (List.length a1:Int))=true then
  some (false,())
 else
  (q73q_l0 N N ((a0,(a1,((0:Int),()))))).bind fun o2=>match o2 with
  | .inl d3=>
   some (d3.1,())
  | .inr (.inl d4)=>
   some (true,())
noncomputable def S_q73q:FSig:=⟨[(K_SPiiq,false),(K_SPiiq,false)],[.bool],true,(G_vPairs)⟩
noncomputable def Γ_laws_vInts:Ctx:={ tk:=assoc tks,ar:=assoc ars,fs:=assoc [] }
abbrev laws_vInts_l0_H:=List Int×List Int×Int×Unit
abbrev laws_vInts_l0_O:=(Bool×Unit)⊕Unit⊕Empty
def laws_vInts_l0_h:Form:=[(0,.v K_Si),(1,.v K_Si),(5,.v I)]
def laws_vInts_l0_o:Outs:=[(.ret,[(4,.v .bool)]),(.normal,[])]
noncomputable def laws_vInts_l0_r (N:Nat) (back:laws_vInts_l0_H->Option laws_vInts_l0_O) (d:laws_vInts_l0_H):Option laws_vInts_l0_O:=
 let s0:=d.1
 let s1:=d.2.1
 let s5:=d.2.2.1
 if (decide (s5<(List.length s0:Int)))=true then
  if (idxIn s5 (List.length s0))=true then
  if (idxIn s5 (List.length s1))=true then
  if (at_ I s0 s5.toNat != at_ I s1 s5.toNat)=true then
   some (.inl (false,()))
  else
   let x5:=IntKind.wrap .i64 (s5+(1:Int))
   back ((s0,(s1,(x5,()))))
  else none
  else none
 else
  some (.inr (.inl ()))
noncomputable def laws_vInts_l0 (N:Nat):Nat->laws_vInts_l0_H->Option laws_vInts_l0_O
 | 0,_=>none
 | k+1,d=>laws_vInts_l0_r N (laws_vInts_l0 N k) d
noncomputable def F_laws_vInts (N:Nat) (d:List Int×List Int×Unit):Option (Bool×Unit):=
 let a0:=d.1
 let a1:=d.2.1
 if ((List.length a0:Int) != (List.length a1:Int))=true then
  some (false,())
 else
  (laws_vInts_l0 N N ((a0,(a1,((0:Int),()))))).bind fun o2=>match o2 with
  | .inl d3=>
   some (d3.1,())
  | .inr (.inl d4)=>
   some (true,())
noncomputable def S_laws_vInts:FSig:=⟨[(K_Si,false),(K_Si,false)],[.bool],true,(G_vInts)⟩
noncomputable def Γ_q82q:Ctx:={ tk:=assoc tks,ar:=assoc ars,fs:=assoc [(32,S_laws_vInts)] }
abbrev q82q_l0_H:=List (List Int)×List (List Int)×Int×Unit
abbrev q82q_l0_O:=(Bool×Unit)⊕Unit⊕Empty
def q82q_l0_h:Form:=[(0,.v K_SSi),(1,.v K_SSi),(5,.v I)]
def q82q_l0_o:Outs:=[(.ret,[(4,.v .bool)]),(.normal,[])]
noncomputable def q82q_l0_r (N:Nat) (back:q82q_l0_H->Option q82q_l0_O) (d:q82q_l0_H):Option q82q_l0_O:=
 let s0:=d.1
 let s1:=d.2.1
 let s5:=d.2.2.1
 if (decide (s5<(List.length s0:Int)))=true then
  if (idxIn s5 (List.length s0))=true then
  if (idxIn s5 (List.length s1))=true then
  (G_vInts ((at_ K_Si s0 s5.toNat,(at_ K_Si s1 s5.toNat,())))).bind fun r6=>
  if (!r6.1)=true then
   some (.inl (false,()))
  else
   let x7:=IntKind.wrap .i64 (s5+(1:Int))
   back ((s0,(s1,(x7,()))))
  else none
  else none
 else
  some (.inr (.inl ()))
noncomputable def q82q_l0 (N:Nat):Nat->q82q_l0_H->Option q82q_l0_O
 | 0,_=>none
 | k+1,d=>q82q_l0_r N (q82q_l0 N k) d
noncomputable def F_q82q (N:Nat) (d:List (List Int)×List (List Int)×Unit):Option (Bool×Unit):=
 let a0:=d.1
 let a1:=d.2.1
 if ((List.length a0:Int) != (List.length a1:Int))=true then
  some (false,())
 else
  (q82q_l0 N N ((a0,(a1,((0:Int),()))))).bind fun o3=>match o3 with
  | .inl d4=>
   some (d4.1,())
  | .inr (.inl d5)=>
   some (true,())
noncomputable def S_q82q:FSig:=⟨[(K_SSi,false),(K_SSi,false)],[.bool],true,(G_vTable)⟩
noncomputable def Γ_q48q:Ctx:={ tk:=assoc tks,ar:=assoc ars,fs:=assoc [(114,S_q60q),(143,S_q74q)] }
noncomputable def F_q48q (N:Nat) (d:(Int×(List (Int×Int×Unit))×Unit)×Int×Unit):Option (Bool×Unit):=
 let a0:=d.1
 let a1:=d.2.1
 (G_graph (a0,())).bind fun r1=>
 if (r1.1)=true then
  if (decide (a0.1>(0:Int)))=true then
   let r2:=g_q74q ((a1,((1:Int),((3:Int),()))))
   some (r2.1,())
  else
   some (false,())
 else
  some (false,())
noncomputable def S_q48q:FSig:=⟨[(K_PiSPiiqq,false),(I,false)],[.bool],true,(F_q48q 0)⟩
noncomputable def Γ_q11q:Ctx:={ tk:=assoc tks,ar:=assoc ars,fs:=assoc [] }
noncomputable def F_q11q (N:Nat) (d:List Int×Unit):Option (List Int×Unit):=
 let a0:=d.1
 if (decide (List.length a0=0))=true then
  both (
    some (([]:List Int),())) (
    if (decide (List.length ([]:List Int)+List.length a0<=lim))=true then
    some (([]:List Int)++a0,())
    else none)
 else
  if (decide (List.length ([]:List Int)+List.length a0<=lim))=true then
  some (([]:List Int)++a0,())
  else none
noncomputable def S_q11q:FSig:=⟨[(K_Si,false)],[K_Si],true,(G_toIntS)⟩
noncomputable def Γ_q57q:Ctx:={ tk:=assoc tks,ar:=assoc ars,fs:=assoc [(146,S_q11q)],dm:=fun t=>Nat.beq t 8||Nat.beq t 15,cs:=assoc [] }
abbrev q57q_l4_H:=Int×List (List Int)×List Int×Int×Int×Int×List (List Int)×Int×Int×Unit
abbrev q57q_l4_O:=(Int×List (List Int)×Int×Int×List (List Int)×Int×Int×Unit)⊕Empty
def q57q_l4_h:Form:=[(0,.v I),(6,.own K_SSi 99),(8,.v K_Si),(10,.v I),(12,.v I),(13,.v I),(15,.v K_SSi),(16,.v I),(17,.v I)]
def q57q_l4_o:Outs:=[(.normal,[(0,.v I),(6,.own K_SSi 99),(12,.v I),(13,.v I),(15,.v K_SSi),(16,.v I),(17,.v I)])]
noncomputable def q57q_l4_r (N:Nat) (back:q57q_l4_H->Option q57q_l4_O) (d:q57q_l4_H):Option q57q_l4_O:=
 let s0:=d.1
 let s6:=d.2.1
 let s8:=d.2.2.1
 let s10:=d.2.2.2.1
 let s12:=d.2.2.2.2.1
 let s13:=d.2.2.2.2.2.1
 let s15:=d.2.2.2.2.2.2.1
 let s16:=d.2.2.2.2.2.2.2.1
 let s17:=d.2.2.2.2.2.2.2.2.1
 if (decide (s10<s0))=true then
  (G_toIntS (s8,())).bind fun r48=>
  if (decide (List.length r48.1+List.length ([s10])<=lim))=true then
  if (decide (List.length s6+List.length ([r48.1++([s10])])<=lim))=true then
  let x49:=IntKind.wrap .i64 (s10+(1:Int))
  back ((s0,(s6++([r48.1++([s10])]),(s8,(x49,(s12,(s13,(s15,(s16,(s17,()))))))))))
  else none
  else none
 else
  some (.inl ((s0,(s6,(s12,(s13,(s15,(s16,(s17,())))))))))
noncomputable def q57q_l4 (N:Nat):Nat->q57q_l4_H->Option q57q_l4_O
 | 0,_=>none
 | k+1,d=>q57q_l4_r N (q57q_l4 N k) d
abbrev q57q_l2_H:=Int×List (List Int)×Int×Int×List (List Int)×Int×Int×Unit
abbrev q57q_l2_O:=(Int×List (List Int)×Int×Int×Unit)⊕Empty
def q57q_l2_h:Form:=[(0,.v I),(6,.own K_SSi 99),(12,.v I),(13,.v I),(15,.v K_SSi),(16,.v I),(17,.v I)]
def q57q_l2_o:Outs:=[(.normal,[(0,.v I),(6,.own K_SSi 99),(12,.v I),(13,.v I)])]
noncomputable def q57q_l2_r (N:Nat) (back:q57q_l2_H->Option q57q_l2_O) (d:q57q_l2_H):Option q57q_l2_O:=
 let s0:=d.1
 let s6:=d.2.1
 let s12:=d.2.2.1
 let s13:=d.2.2.2.1
 let s15:=d.2.2.2.2.1
 let s16:=d.2.2.2.2.2.1
 let s17:=d.2.2.2.2.2.2.1
 if (decide (s17<s16))=true then
  if (idxIn s17 (List.length s15))=true then
  if (decide ((List.length (at_ K_Si s15 s17.toNat):Int)>(0:Int)))=true then
   let x39:=IntKind.wrap .i64 ((List.length (at_ K_Si s15 s17.toNat):Int)-(1:Int))
   if (idxIn x39 (List.length (at_ K_Si s15 s17.toNat)))=true then
   (q57q_l4 N N ((s0,(s6,(at_ K_Si s15 s17.toNat,(at_ I (at_ K_Si s15 s17.toNat) x39.toNat,(s12,(s13,(s15,(s16,(s17,()))))))))))).bind fun o42=>match o42 with
   | .inl d43=>
    let x44:=IntKind.wrap .i64 (d43.2.2.2.2.2.2.1+(1:Int))
    back ((d43.1,(d43.2.1,(d43.2.2.1,(d43.2.2.2.1,(d43.2.2.2.2.1,(d43.2.2.2.2.2.1,(x44,()))))))))
   else none
  else
   (q57q_l4 N N ((s0,(s6,(at_ K_Si s15 s17.toNat,((0:Int),(s12,(s13,(s15,(s16,(s17,()))))))))))).bind fun o45=>match o45 with
   | .inl d46=>
    let x47:=IntKind.wrap .i64 (d46.2.2.2.2.2.2.1+(1:Int))
    back ((d46.1,(d46.2.1,(d46.2.2.1,(d46.2.2.2.1,(d46.2.2.2.2.1,(d46.2.2.2.2.2.1,(x47,()))))))))
  else none
 else
  some (.inl ((s0,(s6,(s12,(s13,()))))))
noncomputable def q57q_l2 (N:Nat):Nat->q57q_l2_H->Option q57q_l2_O
 | 0,_=>none
 | k+1,d=>q57q_l2_r N (q57q_l2 N k) d
abbrev q57q_l0_H:=Int×List (List Int)×Int×Int×Unit
abbrev q57q_l0_O:=(List (List Int)×Unit)⊕Empty
def q57q_l0_h:Form:=[(0,.v I),(5,.own K_SSi 99),(12,.v I),(13,.v I)]
def q57q_l0_o:Outs:=[(.normal,[(5,.own K_SSi 99)])]
noncomputable def q57q_l0_r (N:Nat) (back:q57q_l0_H->Option q57q_l0_O) (d:q57q_l0_H):Option q57q_l0_O:=
 let s0:=d.1
 let s5:=d.2.1
 let s12:=d.2.2.1
 let s13:=d.2.2.2.1
 if (decide (s13<s12))=true then
  (q57q_l2 N N ((s0,(([]:List (List Int)),(s12,(s13,(s5,((List.length s5:Int),((0:Int),()))))))))).bind fun o36=>match o36 with
  | .inl d37=>
   let x38:=IntKind.wrap .i64 (d37.2.2.2.1+(1:Int))
   back ((d37.1,(d37.2.1,(d37.2.2.1,(x38,())))))
 else
  some (.inl (s5,()))
noncomputable def q57q_l0 (N:Nat):Nat->q57q_l0_H->Option q57q_l0_O
 | 0,_=>none
 | k+1,d=>q57q_l0_r N (q57q_l0 N k) d
noncomputable def F_q57q (N:Nat) (d:Int×Int×Unit):Option (List (List Int)×Unit):=
 let a0:=d.1
 let a1:=d.2.1
 (q57q_l0 N N ((a0,([([]:List Int)],(a1,((0:Int),())))))).bind fun o25=>match o25 with
 | .inl d26=>
  some (d26.1,())
noncomputable def S_q57q:FSig:=⟨[(I,false),(I,false)],[K_SSi],true,(G_configs)⟩
def S_q13q:FSig:=⟨[(K_Si,true)],[],true,G_sortI⟩
def S_q2q:FSig:=⟨[(K_SSi,true),(K_F_q8q_qq,false)],[],true,G_sortF⟩
def S_q1q:FSig:=⟨[(K_SSi,true),(K_F_slices_Equal_Sint_int_qq,false)],[K_SSi],true,G_compactF⟩
noncomputable def Γ_q21q:Ctx:={ tk:=assoc tks,ar:=assoc ars,fs:=assoc [(127,S_impl_setOf),(130,S_q40q),(146,S_q11q),(221,S_q13q),(222,S_q2q)],dm:=fun t=>Nat.beq t 10||Nat.beq t 22,cs:=assoc [],gs:=assoc [(223,(S_q1q,{ gone:=[0],deep:=[] }))],eqt:=inL [],md:=md0 }
abbrev q21q_l4_H:=(List Int×Unit)×Int×List (List Int)×List Int×List Int×Int×Int×List (List Int)×Int×Int×List Int×Int×Int×Unit
abbrev q21q_l4_O:=((List Int×Unit)×Int×List (List Int)×List Int×Int×Int×List (List Int)×Int×Int×Unit)⊕Empty
def q21q_l4_h:Form:=[(2,.box K_PSiq 0),(7,.v I),(8,.own K_SSi 99),(10,.v K_Si),(16,.v K_Si),(17,.v I),(18,.v I),(22,.v K_SSi),(23,.v I),(24,.v I),(31,.own K_Si 99),(32,.v I),(33,.v I)]
def q21q_l4_o:Outs:=[(.normal,[(2,.box K_PSiq 0),(7,.v I),(8,.own K_SSi 99),(16,.v K_Si),(17,.v I),(18,.v I),(22,.v K_SSi),(23,.v I),(24,.v I)])]
noncomputable def q21q_l4_r (N:Nat) (back:q21q_l4_H->Option q21q_l4_O) (d:q21q_l4_H):Option q21q_l4_O:=
 let s2:=d.1
 let s7:=d.2.1
 let s8:=d.2.2.1
 let s10:=d.2.2.2.1
 let s16:=d.2.2.2.2.1
 let s17:=d.2.2.2.2.2.1
 let s18:=d.2.2.2.2.2.2.1
 let s22:=d.2.2.2.2.2.2.2.1
 let s23:=d.2.2.2.2.2.2.2.2.1
 let s24:=d.2.2.2.2.2.2.2.2.2.1
 let s31:=d.2.2.2.2.2.2.2.2.2.2.1
 let s32:=d.2.2.2.2.2.2.2.2.2.2.2.1
 let s33:=d.2.2.2.2.2.2.2.2.2.2.2.2.1
 if (decide (s33<s32))=true then
  if (idxIn s33 (List.length s31))=true then
  (G_toIntS (s10,())).bind fun r50=>
  if (decide (List.length r50.1+List.length ([at_ I s31 s33.toNat])<=lim))=true then
  let x51:=r50.1++([at_ I s31 s33.toNat])
  if (decide (List.length s8+List.length ([x51])<=lim))=true then
  let x52:=IntKind.wrap .i64 (s33+(1:Int))
  back ((s2,(s7,(s8++([x51]),(s10,(s16,(s17,(s18,(s22,(s23,(s24,(s31,(s32,(x52,()))))))))))))))
  else none
  else none
  else none
 else
  some (.inl ((s2,(s7,(s8,(s16,(s17,(s18,(s22,(s23,(s24,())))))))))))
noncomputable def q21q_l4 (N:Nat):Nat->q21q_l4_H->Option q21q_l4_O
 | 0,_=>none
 | k+1,d=>q21q_l4_r N (q21q_l4 N k) d
abbrev q21q_l2_H:=(List Int×Unit)×Int×List (List Int)×List Int×Int×Int×List (List Int)×Int×Int×Unit
abbrev q21q_l2_O:=((List Int×Unit)×List (List Int)×List Int×Int×Int×Unit)⊕Empty
def q21q_l2_h:Form:=[(2,.box K_PSiq 0),(7,.v I),(8,.own K_SSi 99),(16,.v K_Si),(17,.v I),(18,.v I),(22,.v K_SSi),(23,.v I),(24,.v I)]
def q21q_l2_o:Outs:=[(.normal,[(2,.box K_PSiq 0),(8,.own K_SSi 99),(16,.v K_Si),(17,.v I),(18,.v I)])]
noncomputable def q21q_l2_r (N:Nat) (back:q21q_l2_H->Option q21q_l2_O) (d:q21q_l2_H):Option q21q_l2_O:=
 let s2:=d.1
 let s7:=d.2.1
 let s8:=d.2.2.1
 let s16:=d.2.2.2.1
 let s17:=d.2.2.2.2.1
 let s18:=d.2.2.2.2.2.1
 let s22:=d.2.2.2.2.2.2.1
 let s23:=d.2.2.2.2.2.2.2.1
 let s24:=d.2.2.2.2.2.2.2.2.1
 if (decide (s24<s23))=true then
  if (idxIn s24 (List.length s22))=true then
  ((F_q40q 0) ((s2,(s7,())))).bind fun r42=>
  (G_setOf (r42.1,())).bind fun r43=>
  (q21q_l4 N N ((s2,(s7,(s8,(at_ K_Si s22 s24.toNat,(s16,(s17,(s18,(s22,(s23,(s24,(r43.1,((List.length r43.1:Int),((0:Int),()))))))))))))))).bind fun o47=>match o47 with
  | .inl d48=>
   let x49:=IntKind.wrap .i64 (d48.2.2.2.2.2.2.2.2.1+(1:Int))
   back ((d48.1,(d48.2.1,(d48.2.2.1,(d48.2.2.2.1,(d48.2.2.2.2.1,(d48.2.2.2.2.2.1,(d48.2.2.2.2.2.2.1,(d48.2.2.2.2.2.2.2.1,(x49,()))))))))))
  else none
 else
  some (.inl ((s2,(s8,(s16,(s17,(s18,())))))))
noncomputable def q21q_l2 (N:Nat):Nat->q21q_l2_H->Option q21q_l2_O
 | 0,_=>none
 | k+1,d=>q21q_l2_r N (q21q_l2 N k) d
abbrev q21q_l0_H:=(List Int×Unit)×List (List Int)×List Int×Int×Int×Unit
abbrev q21q_l0_O:=(List (List Int)×Unit)⊕Empty
def q21q_l0_h:Form:=[(2,.box K_PSiq 0),(5,.own K_SSi 99),(16,.v K_Si),(17,.v I),(18,.v I)]
def q21q_l0_o:Outs:=[(.normal,[(5,.own K_SSi 99)])]
noncomputable def q21q_l0_r (N:Nat) (back:q21q_l0_H->Option q21q_l0_O) (d:q21q_l0_H):Option q21q_l0_O:=
 let s2:=d.1
 let s5:=d.2.1
 let s16:=d.2.2.1
 let s17:=d.2.2.2.1
 let s18:=d.2.2.2.2.1
 if (decide (s18<s17))=true then
  if (idxIn s18 (List.length s16))=true then
  (q21q_l2 N N ((s2,(at_ I s16 s18.toNat,(([]:List (List Int)),(s16,(s17,(s18,(s5,((List.length s5:Int),((0:Int),()))))))))))).bind fun o39=>match o39 with
  | .inl d40=>
   let x41:=IntKind.wrap .i64 (d40.2.2.2.2.1+(1:Int))
   back ((d40.1,(d40.2.1,(d40.2.2.1,(d40.2.2.2.1,(x41,()))))))
  else none
 else
  some (.inl (s5,()))
noncomputable def q21q_l0 (N:Nat):Nat->q21q_l0_H->Option q21q_l0_O
 | 0,_=>none
 | k+1,d=>q21q_l0_r N (q21q_l0 N k) d
abbrev q21q_l6_H:=List (List Int)×Unit×Int×Int×Unit
abbrev q21q_l6_O:=(List (List Int)×Unit)⊕Empty
def q21q_l6_h:Form:=[(5,.own K_SSi 99),(49,.same 5 []),(50,.v I),(51,.v I)]
def q21q_l6_o:Outs:=[(.normal,[(5,.own K_SSi 99)])]
noncomputable def q21q_l6_r (N:Nat) (back:q21q_l6_H->Option q21q_l6_O) (d:q21q_l6_H):Option q21q_l6_O:=
 let s5:=d.1
 let s49:=d.2.1
 let s50:=d.2.2.1
 let s51:=d.2.2.2.1
 if (decide (s51<s50))=true then
  if (idxIn s51 (List.length s5))=true then
  (G_sortI (at_ K_Si s5 s51.toNat,())).bind fun r53=>
  let x54:=IntKind.wrap .i64 (s51+(1:Int))
  back ((List.set s5 s51.toNat r53.1,((),(s50,(x54,())))))
  else none
 else
  some (.inl (s5,()))
noncomputable def q21q_l6 (N:Nat):Nat->q21q_l6_H->Option q21q_l6_O
 | 0,_=>none
 | k+1,d=>q21q_l6_r N (q21q_l6 N k) d
noncomputable def F_q21q (N:Nat) (d:(List Int×Unit)×List Int×Unit):Option (List (List Int)×Unit):=
 let a0:=d.1
 let a1:=d.2.1
 (q21q_l0 N N ((a0,([([]:List Int)],(a1,((List.length a1:Int),((0:Int),()))))))).bind fun o23=>match o23 with
 | .inl d24=>
  (q21q_l6 N N ((d24.1,((),((List.length d24.1:Int),((0:Int),())))))).bind fun o27=>match o27 with
  | .inl d28=>
   (G_sortF ((d28.1,(((),()),())))).bind fun r29=>
   (G_compactF ((r29.1,(((),()),())))).bind fun r30=>
   some (r30.1,())
noncomputable def S_q21q:FSig:=⟨[(K_PSiq,false),(K_Si,false)],[K_SSi],true,(G_copMoves)⟩
noncomputable def FV_q8q (d:List Int×List Int×(Unit×Unit)×Unit):Option (Int×Unit):=G_compare (d.1,d.2.1,d.2.2.1.2)
noncomputable def SV_q8q:FSig:=⟨[(K_Si,false),(K_Si,false),(K_F_q8q_qq,false)],[I],true,FV_q8q⟩
noncomputable def Γ_q0q:Ctx:={ tk:=assoc tks,ar:=assoc ars,fs:=assoc [],cs:=assoc [(199,SV_q8q)] }
abbrev q0q_l0_H:=List (List Int)×List Int×(Unit×Unit)×Int×Int×Int×Unit
abbrev q0q_l0_O:=(List (List Int)×List Int×(Unit×Unit)×Int×Int×Unit)⊕Empty
def q0q_l0_h:Form:=[(0,.v K_SSi),(1,.v K_Si),(2,.v K_F_q8q_qq),(8,.v I),(9,.v I),(10,.v I)]
def q0q_l0_o:Outs:=[(.normal,[(0,.v K_SSi),(1,.v K_Si),(2,.v K_F_q8q_qq),(8,.v I),(9,.v I)])]
noncomputable def q0q_l0_r (N:Nat) (back:q0q_l0_H->Option q0q_l0_O) (d:q0q_l0_H):Option q0q_l0_O:=
 let s0:=d.1
 let s1:=d.2.1
 let s2:=d.2.2.1
 let s8:=d.2.2.2.1
 let s9:=d.2.2.2.2.1
 let s10:=d.2.2.2.2.2.1
 if (decide (s9<s10))=true then
  let x8:=IntKind.wrap .u64 (IntKind.wrap .i64 (s9+s10))
  if (decide (0<=(1:Int)))=true then
  let x9:=IntKind.wrap .i64 (shr .u64 x8 (1:Int))
  if (idxIn x9 (List.length s0))=true then
  (FV_q8q ((at_ K_Si s0 x9.toNat,(s1,(s2,()))))).bind fun r10=>
  if (decide (r10.1<(0:Int)))=true then
   let x11:=IntKind.wrap .i64 (x9+(1:Int))
   back ((s0,(s1,(s2,(s8,(x11,(s10,())))))))
  else
   back ((s0,(s1,(s2,(s8,(s9,(x9,())))))))
  else none
  else none
 else
  some (.inl ((s0,(s1,(s2,(s8,(s9,())))))))
noncomputable def q0q_l0 (N:Nat):Nat->q0q_l0_H->Option q0q_l0_O
 | 0,_=>none
 | k+1,d=>q0q_l0_r N (q0q_l0 N k) d
noncomputable def F_q0q (N:Nat) (d:List (List Int)×List Int×(Unit×Unit)×Unit):Option (Int×Bool×Unit):=
 let a0:=d.1
 let a1:=d.2.1
 let a2:=d.2.2.1
 (q0q_l0 N N ((a0,(a1,(a2,((List.length a0:Int),((0:Int),((List.length a0:Int),())))))))).bind fun o5=>match o5 with
 | .inl d6=>
  if (decide (d6.2.2.2.2.1<d6.2.2.2.1))=true then
   if (idxIn d6.2.2.2.2.1 (List.length d6.1))=true then
   (FV_q8q ((at_ K_Si d6.1 d6.2.2.2.2.1.toNat,(d6.2.1,(d6.2.2.1,()))))).bind fun r7=>
   some ((d6.2.2.2.2.1,(r7.1==(0:Int),())))
   else none
  else
   some ((d6.2.2.2.2.1,(false,())))
noncomputable def S_q0q:FSig:=⟨[(K_SSi,false),(K_Si,false),(K_F_q8q_qq,false)],[I,.bool],true,(G_bin)⟩
noncomputable def Γ_q18q:Ctx:={ tk:=assoc tks,ar:=assoc ars,fs:=assoc [(219,S_q0q)] }
noncomputable def F_q18q (N:Nat) (d:((List Int×Unit)×List (List Int)×List (List Int)×List (List Int)×Unit)×List Int×Unit):Option (Int×Unit):=
 let a0:=d.1
 let a1:=d.2.1
 (G_bin ((a0.2.1,(a1,(((),()),()))))).bind fun r1=>
 some (r1.1,())
noncomputable def S_q18q:FSig:=⟨[(K_BPPZiqZSiSSiSSiq,false),(K_Si,false)],[I],true,(F_q18q 0)⟩
noncomputable def Γ_q19q:Ctx:={ tk:=assoc tks,ar:=assoc ars,fs:=assoc [(144,S_q18q),(153,S_q21q),(158,S_q57q),(188,S_q55q)] }
abbrev q19q_l2_H:=(List Int×Unit)×((List Int×Unit)×List (List Int)×List (List Int)×List (List Int)×Unit)×List Int×List (List Int)×Int×Int×List (List Int)×Int×Int×Unit
abbrev q19q_l2_O:=((List Int×Unit)×((List Int×Unit)×List (List Int)×List (List Int)×List (List Int)×Unit)×List Int×List (List Int)×Int×Int×Unit)⊕Empty
def q19q_l2_h:Form:=[(2,.box K_PSiq 0),(5,.box K_PPZiqZSiSSiSSiq 99),(8,.own K_Si 99),(21,.v K_SSi),(22,.v I),(23,.v I),(29,.own K_SSi 99),(30,.v I),(31,.v I)]
def q19q_l2_o:Outs:=[(.normal,[(2,.box K_PSiq 0),(5,.box K_PPZiqZSiSSiSSiq 99),(8,.own K_Si 99),(21,.v K_SSi),(22,.v I),(23,.v I)])]
noncomputable def q19q_l2_r (N:Nat) (back:q19q_l2_H->Option q19q_l2_O) (d:q19q_l2_H):Option q19q_l2_O:=
 let s2:=d.1
 let s5:=d.2.1
 let s8:=d.2.2.1
 let s21:=d.2.2.2.1
 let s22:=d.2.2.2.2.1
 let s23:=d.2.2.2.2.2.1
 let s29:=d.2.2.2.2.2.2.1
 let s30:=d.2.2.2.2.2.2.2.1
 let s31:=d.2.2.2.2.2.2.2.2.1
 if (decide (s31<s30))=true then
  if (idxIn s31 (List.length s29))=true then
  ((F_q18q 0) ((s5,(at_ K_Si s29 s31.toNat,())))).bind fun r18=>
  if (decide (List.length s8+List.length ([r18.1])<=lim))=true then
  let x19:=IntKind.wrap .i64 (s31+(1:Int))
  back ((s2,(s5,(s8++([r18.1]),(s21,(s22,(s23,(s29,(s30,(x19,()))))))))))
  else none
  else none
 else
  some (.inl ((s2,(s5,(s8,(s21,(s22,(s23,()))))))))
noncomputable def q19q_l2 (N:Nat):Nat->q19q_l2_H->Option q19q_l2_O
 | 0,_=>none
 | k+1,d=>q19q_l2_r N (q19q_l2 N k) d
abbrev q19q_l0_H:=(List Int×Unit)×((List Int×Unit)×List (List Int)×List (List Int)×List (List Int)×Unit)×List (List Int)×Int×Int×Unit
abbrev q19q_l0_O:=(((List Int×Unit)×List (List Int)×List (List Int)×List (List Int)×Unit)×Unit)⊕Empty
def q19q_l0_h:Form:=[(2,.box K_PSiq 0),(5,.box K_PPZiqZSiSSiSSiq 99),(21,.v K_SSi),(22,.v I),(23,.v I)]
def q19q_l0_o:Outs:=[(.normal,[(5,.box K_PPZiqZSiSSiSSiq 99)])]
noncomputable def q19q_l0_r (N:Nat) (back:q19q_l0_H->Option q19q_l0_O) (d:q19q_l0_H):Option q19q_l0_O:=
 let s2:=d.1
 let s5:=d.2.1
 let s21:=d.2.2.1
 let s22:=d.2.2.2.1
 let s23:=d.2.2.2.2.1
 if (decide (s23<s22))=true then
  if (idxIn s23 (List.length s21))=true then
  (G_copMoves ((s2,(at_ K_Si s21 s23.toNat,())))).bind fun r11=>
  (q19q_l2 N N ((s2,(s5,(([]:List Int),(s21,(s22,(s23,(r11.1,((List.length r11.1:Int),((0:Int),()))))))))))).bind fun o14=>match o14 with
  | .inl d15=>
   if (decide (List.length d15.2.1.2.2.1+List.length ([d15.2.2.1])<=lim))=true then
   let x16:=d15.2.1.2.2.1++([d15.2.2.1])
   let x17:=IntKind.wrap .i64 (d15.2.2.2.2.2.1+(1:Int))
   back ((d15.1,((d15.2.1.1,(d15.2.1.2.1,(x16,d15.2.1.2.2.2))),(d15.2.2.2.1,(d15.2.2.2.2.1,(x17,()))))))
   else none
  else none
 else
  some (.inl (s5,()))
noncomputable def q19q_l0 (N:Nat):Nat->q19q_l0_H->Option q19q_l0_O
 | 0,_=>none
 | k+1,d=>q19q_l0_r N (q19q_l0 N k) d
noncomputable def F_q19q (N:Nat) (d:(List Int×Unit)×Int×Unit):Option (((List Int×Unit)×List (List Int)×List (List Int)×List (List Int)×Unit)×Unit):=
 let a0:=d.1
 let a1:=d.2.1
 let r1:=g_q55q (a0,())
 (G_configs ((r1.1,(a1,())))).bind fun r2=>
 (q19q_l0 N N ((a0,((a0,(r2.1,(([]:List (List Int)),(([]:List (List Int)),())))),(r2.1,((List.length r2.1:Int),((0:Int),()))))))).bind fun o9=>match o9 with
 | .inl d10=>
  some (d10.1,())
noncomputable def S_q19q:FSig:=⟨[(K_PSiq,false),(I,false)],[K_BPPZiqZSiSSiSSiq],true,(G_copBoard)⟩
noncomputable def Γ_q17q:Ctx:={ tk:=assoc tks,ar:=assoc ars,fs:=assoc [(129,S_q7q),(179,S_q16q)],cs:=assoc [],w1:=inL [105] }
noncomputable def F_q17q (N:Nat) (d:Int×((List Int×Unit)×List (List Int)×List (List Int)×List (List Int)×Unit)×Int×Unit):Option (Bool×Unit):=
 let a0:=d.1
 let a1:=d.2.1
 let a2:=d.2.2.1
 if (idxIn a0 (List.length a1.2.1))=true then
 ((F_q7q 0) ((at_ K_Si a1.2.1 a0.toNat,(a2,())))).bind fun r1=>
 if (r1.1)=true then
  some (true,())
 else
  if (idxIn a0 (List.length a1.2.2.2.1))=true then
  (G_timeAfter ((a1.1,(at_ K_Si a1.2.2.2.1 a0.toNat,(a2,()))))).bind fun r2=>
  some ((decide (r2.1>=(0:Int)),()))
  else none
 else none
noncomputable def S_q17q:FSig:=⟨[(I,false),(K_BBPPZiqZSiSSiSSiq,false),(K_Bi,false)],[.bool],true,(F_q17q 0)⟩
noncomputable def FV_q17q (d:Int×(Unit×((List Int×Unit)×List (List Int)×List (List Int)×List (List Int)×Unit)×Int×Unit)×Unit):Option (Bool×Unit):=(F_q17q 0) (d.1,d.2.1.2)
noncomputable def SV_q17q:FSig:=⟨[(I,false),(K_F_q17q_qPBBPPZiqZSiSSiSSiqBiq,false)],[.bool],true,FV_q17q⟩
noncomputable def Γ_q5q:Ctx:={ tk:=assoc tks,ar:=assoc ars,fs:=assoc [],cs:=assoc [(243,SV_q17q)] }
abbrev q5q_l0_H:=List Int×(Unit×((List Int×Unit)×List (List Int)×List (List Int)×List (List Int)×Unit)×Int×Unit)×Int×Int×Unit
abbrev q5q_l0_O:=(Int×Unit)⊕Unit⊕Empty
def q5q_l0_h:Form:=[(0,.v K_Si),(1,.v K_F_q17q_qPBBPPZiqZSiSSiSSiqBiq),(7,.v I),(8,.v I)]
def q5q_l0_o:Outs:=[(.ret,[(4,.v I)]),(.normal,[])]
noncomputable def q5q_l0_r (N:Nat) (back:q5q_l0_H->Option q5q_l0_O) (d:q5q_l0_H):Option q5q_l0_O:=
 let s0:=d.1
 let s1:=d.2.1
 let s7:=d.2.2.1
 let s8:=d.2.2.2.1
 if (decide (s8<s7))=true then
  if (idxIn s8 (List.length s0))=true then
  (FV_q17q ((at_ I s0 s8.toNat,(s1,())))).bind fun r6=>
  if (r6.1)=true then
   some (.inl (s8,()))
  else
   let x7:=IntKind.wrap .i64 (s8+(1:Int))
   back ((s0,(s1,(s7,(x7,())))))
  else none
 else
  some (.inr (.inl ()))
noncomputable def q5q_l0 (N:Nat):Nat->q5q_l0_H->Option q5q_l0_O
 | 0,_=>none
 | k+1,d=>q5q_l0_r N (q5q_l0 N k) d
noncomputable def F_q5q (N:Nat) (d:List Int×(Unit×((List Int×Unit)×List (List Int)×List (List Int)×List (List Int)×Unit)×Int×Unit)×Unit):Option (Int×Unit):=
 let a0:=d.1
 let a1:=d.2.1
 (q5q_l0 N N ((a0,(a1,((List.length a0:Int),((0:Int),())))))).bind fun o3=>match o3 with
 | .inl d4=>
  some (d4.1,())
 | .inr (.inl d5)=>
  some ((-1:Int),())
noncomputable def S_q5q:FSig:=⟨[(K_Si,false),(K_F_q17q_qPBBPPZiqZSiSSiSSiqBiq,false)],[I],true,(G_gameCan)⟩
noncomputable def Γ_q3q:Ctx:={ tk:=assoc tks,ar:=assoc ars,fs:=assoc [(248,S_q5q)] }
noncomputable def F_q3q (N:Nat) (d:List Int×(Unit×((List Int×Unit)×List (List Int)×List (List Int)×List (List Int)×Unit)×Int×Unit)×Unit):Option (Bool×Unit):=
 let a0:=d.1
 let a1:=d.2.1
 (G_gameCan ((a0,(a1,())))).bind fun r1=>
 some ((decide (r1.1>=(0:Int)),()))
noncomputable def S_q3q:FSig:=⟨[(K_Si,false),(K_F_q17q_qPBBPPZiqZSiSSiSSiqBiq,false)],[.bool],true,(F_q3q 0)⟩
noncomputable def Γ_q33q:Ctx:={ tk:=assoc tks,ar:=assoc ars,fs:=assoc [(214,S_q3q)],cs:=assoc [],w1:=inL [105],fz:=fun t=>Nat.beq t 3||Nat.beq t 5 }
noncomputable def F_q33q (N:Nat) (d:((List Int×Unit)×List (List Int)×List (List Int)×List (List Int)×Unit)×Int×Int×Unit):Option (Bool×Unit):=
 let a0:=d.1
 let a1:=d.2.1
 let a2:=d.2.2.1
 if (idxIn a1 (List.length a0.2.2.1))=true then
 ((F_q3q 0) ((at_ K_Si a0.2.2.1 a1.toNat,(((),(a0,(a2,()))),())))).bind fun r1=>
 some (r1.1,())
 else none
noncomputable def S_q33q:FSig:=⟨[(K_BPPZiqZSiSSiSSiq,false),(I,false),(I,false)],[.bool],true,(F_q33q 0)⟩
noncomputable def Γ_q36q:Ctx:={ tk:=assoc tks,ar:=assoc ars,fs:=assoc [(188,S_q55q),(191,S_q9q),(192,S_q33q)],cs:=assoc [],gs:=assoc [(96,(S_q19q,md0))],eqt:=inL [],md:=md0 }
abbrev q36q_l2_H:=(List Int×Unit)×((List Int×Unit)×List (List Int)×List (List Int)×List (List Int)×Unit)×List Int×List (List Int)×Int×Int×List Int×Int×Int×Unit
abbrev q36q_l2_O:=((List Int×Unit)×((List Int×Unit)×List (List Int)×List (List Int)×List (List Int)×Unit)×List Int×List (List Int)×Int×Int×Unit)⊕Empty
def q36q_l2_h:Form:=[(2,.box K_PSiq 0),(5,.box K_PPZiqZSiSSiSSiq 99),(8,.own K_Si 99),(26,.v K_SSi),(27,.v I),(28,.v I),(36,.v K_Si),(37,.v I),(38,.v I)]
def q36q_l2_o:Outs:=[(.normal,[(2,.box K_PSiq 0),(5,.box K_PPZiqZSiSSiSSiq 99),(8,.own K_Si 99),(26,.v K_SSi),(27,.v I),(28,.v I)])]
noncomputable def q36q_l2_r (N:Nat) (back:q36q_l2_H->Option q36q_l2_O) (d:q36q_l2_H):Option q36q_l2_O:=
 let s2:=d.1
 let s5:=d.2.1
 let s8:=d.2.2.1
 let s26:=d.2.2.2.1
 let s27:=d.2.2.2.2.1
 let s28:=d.2.2.2.2.2.1
 let s36:=d.2.2.2.2.2.2.1
 let s37:=d.2.2.2.2.2.2.2.1
 let s38:=d.2.2.2.2.2.2.2.2.1
 if (decide (s38<s37))=true then
  if (idxIn s38 (List.length s36))=true then
  if (idxIn (at_ I s36 s38.toNat) (List.length s8))=true then
  let x35:=List.set s8 (at_ I s36 s38.toNat).toNat (0:Int)
  let x36:=IntKind.wrap .i64 (s38+(1:Int))
  back ((s2,(s5,(x35,(s26,(s27,(s28,(s36,(s37,(x36,()))))))))))
  else none
  else none
 else
  some (.inl ((s2,(s5,(s8,(s26,(s27,(s28,()))))))))
noncomputable def q36q_l2 (N:Nat):Nat->q36q_l2_H->Option q36q_l2_O
 | 0,_=>none
 | k+1,d=>q36q_l2_r N (q36q_l2 N k) d
abbrev q36q_l0_H:=(List Int×Unit)×((List Int×Unit)×List (List Int)×List (List Int)×List (List Int)×Unit)×List (List Int)×Int×Int×Unit
abbrev q36q_l0_O:=(((List Int×Unit)×List (List Int)×List (List Int)×List (List Int)×Unit)×Unit)⊕Empty
def q36q_l0_h:Form:=[(2,.box K_PSiq 0),(5,.box K_PPZiqZSiSSiSSiq 99),(26,.v K_SSi),(27,.v I),(28,.v I)]
def q36q_l0_o:Outs:=[(.normal,[(5,.box K_PPZiqZSiSSiSSiq 99)])]
noncomputable def q36q_l0_r (N:Nat) (back:q36q_l0_H->Option q36q_l0_O) (d:q36q_l0_H):Option q36q_l0_O:=
 let s2:=d.1
 let s5:=d.2.1
 let s26:=d.2.2.1
 let s27:=d.2.2.2.1
 let s28:=d.2.2.2.2.1
 if (decide (s28<s27))=true then
  if (idxIn s28 (List.length s26))=true then
  let r27:=g_q55q (s2,())
  (G_repeat (([(-1:Int)],(r27.1,())))).bind fun r28=>
  (q36q_l2 N N ((s2,(s5,(r28.1,(s26,(s27,(s28,(at_ K_Si s26 s28.toNat,((List.length (at_ K_Si s26 s28.toNat):Int),((0:Int),()))))))))))).bind fun o31=>match o31 with
  | .inl d32=>
   if (decide (List.length d32.2.1.2.2.2.1+List.length ([d32.2.2.1])<=lim))=true then
   let x33:=d32.2.1.2.2.2.1++([d32.2.2.1])
   let x34:=IntKind.wrap .i64 (d32.2.2.2.2.2.1+(1:Int))
   back ((d32.1,((d32.2.1.1,(d32.2.1.2.1,(d32.2.1.2.2.1,(x33,d32.2.1.2.2.2.2)))),(d32.2.2.2.1,(d32.2.2.2.2.1,(x34,()))))))
   else none
  else none
 else
  some (.inl (s5,()))
noncomputable def q36q_l0 (N:Nat):Nat->q36q_l0_H->Option q36q_l0_O
 | 0,_=>none
 | k+1,d=>q36q_l0_r N (q36q_l0 N k) d
abbrev q36q_l8_H:=((List Int×Unit)×List (List Int)×List (List Int)×List (List Int)×Unit)×Int×Bool×(List (Int×Int×Unit))×Int×Int×Int×Int×Int×Unit×Int×Unit
abbrev q36q_l8_O:=(((List Int×Unit)×List (List Int)×List (List Int)×List (List Int)×Unit)×Int×Bool×(List (Int×Int×Unit))×Int×Int×Unit×Unit)⊕Empty
def q36q_l8_h:Form:=[(5,.box K_PPZiqZSiSSiSSiq 99),(11,.v I),(12,.v .bool),(13,.own K_SPiiq 99),(14,.v I),(64,.v I),(65,.v I),(71,.v I),(72,.v I),(63,.same 5 [.r,.r,.r,.l]),(70,.hole 5 [.r,.r,.r,.l] [])]
def q36q_l8_o:Outs:=[(.normal,[(5,.box K_PPZiqZSiSSiSSiq 99),(11,.v I),(12,.v .bool),(13,.own K_SPiiq 99),(64,.v I),(65,.v I),(63,.same 5 [.r,.r,.r,.l])])]
noncomputable def q36q_l8_r (N:Nat) (back:q36q_l8_H->Option q36q_l8_O) (d:q36q_l8_H):Option q36q_l8_O:=
 let s5:=d.1
 let s11:=d.2.1
 let s12:=d.2.2.1
 let s13:=d.2.2.2.1
 let s14:=d.2.2.2.2.1
 let s64:=d.2.2.2.2.2.1
 let s65:=d.2.2.2.2.2.2.1
 let s71:=d.2.2.2.2.2.2.2.1
 let s72:=d.2.2.2.2.2.2.2.2.1
 let s63:=d.2.2.2.2.2.2.2.2.2.1
 let s70:=d.2.2.2.2.2.2.2.2.2.2.1
 if (decide (s72<s71))=true then
  if (idxIn s72 (List.length (at_ K_Si s5.2.2.2.1 (Int.toNat s70))))=true then
  if (decide (at_ I (at_ K_Si s5.2.2.2.1 (Int.toNat s70)) s72.toNat<(0:Int)))=true then
   ((F_q33q 0) ((s5,(s14,(s72,()))))).bind fun r57=>
   if (r57.1)=true then
    if (decide (List.length s13+List.length ([(s14,(s72,()))])<=lim))=true then
    let x58:=IntKind.wrap .i64 (s72+(1:Int))
    back ((s5,(s11,(s12,(s13++([(s14,(s72,()))]),(s14,(s64,(s65,(s71,(x58,((),((((Int.toNat s70):Nat):Int),()))))))))))))
    else none
   else
    let x59:=IntKind.wrap .i64 (s72+(1:Int))
    back ((s5,(s11,(s12,(s13,(s14,(s64,(s65,(s71,(x59,((),((((Int.toNat s70):Nat):Int),()))))))))))))
  else
   let x60:=IntKind.wrap .i64 (s72+(1:Int))
   back ((s5,(s11,(s12,(s13,(s14,(s64,(s65,(s71,(x60,((),((((Int.toNat s70):Nat):Int),()))))))))))))
  else none
 else
  some (.inl ((s5,(s11,(s12,(s13,(s64,(s65,((),())))))))))
noncomputable def q36q_l8 (N:Nat):Nat->q36q_l8_H->Option q36q_l8_O
 | 0,_=>none
 | k+1,d=>q36q_l8_r N (q36q_l8 N k) d
abbrev q36q_l6_H:=((List Int×Unit)×List (List Int)×List (List Int)×List (List Int)×Unit)×Int×Bool×(List (Int×Int×Unit))×Int×Int×Unit×Unit
abbrev q36q_l6_O:=(((List Int×Unit)×List (List Int)×List (List Int)×List (List Int)×Unit)×Int×Bool×(List (Int×Int×Unit))×Unit)⊕Empty
def q36q_l6_h:Form:=[(5,.box K_PPZiqZSiSSiSSiq 99),(11,.v I),(12,.v .bool),(13,.own K_SPiiq 99),(64,.v I),(65,.v I),(63,.same 5 [.r,.r,.r,.l])]
def q36q_l6_o:Outs:=[(.normal,[(5,.box K_PPZiqZSiSSiSSiq 99),(11,.v I),(12,.v .bool),(13,.own K_SPiiq 99)])]
noncomputable def q36q_l6_r (N:Nat) (back:q36q_l6_H->Option q36q_l6_O) (d:q36q_l6_H):Option q36q_l6_O:=
 let s5:=d.1
 let s11:=d.2.1
 let s12:=d.2.2.1
 let s13:=d.2.2.2.1
 let s64:=d.2.2.2.2.1
 let s65:=d.2.2.2.2.2.1
 let s63:=d.2.2.2.2.2.2.1
 if (decide (s65<s64))=true then
  if (idxIn s65 (List.length s5.2.2.2.1))=true then
  (q36q_l8 N N ((s5,(s11,(s12,(s13,(s65,(s64,(s65,((List.length (at_ K_Si s5.2.2.2.1 s65.toNat):Int),((0:Int),((),(((s65.toNat:Nat):Int),()))))))))))))).bind fun o54=>match o54 with
  | .inl d55=>
   let x56:=IntKind.wrap .i64 (d55.2.2.2.2.2.1+(1:Int))
   back ((d55.1,(d55.2.1,(d55.2.2.1,(d55.2.2.2.1,(d55.2.2.2.2.1,(x56,((),()))))))))
  else none
 else
  some (.inl ((s5,(s11,(s12,(s13,()))))))
noncomputable def q36q_l6 (N:Nat):Nat->q36q_l6_H->Option q36q_l6_O
 | 0,_=>none
 | k+1,d=>q36q_l6_r N (q36q_l6 N k) d
abbrev q36q_l10_H:=((List Int×Unit)×List (List Int)×List (List Int)×List (List Int)×Unit)×Int×Bool×(List (Int×Int×Unit))×Int×Int×Unit
abbrev q36q_l10_O:=(((List Int×Unit)×List (List Int)×List (List Int)×List (List Int)×Unit)×Int×Bool×Unit)⊕Empty
def q36q_l10_h:Form:=[(5,.box K_PPZiqZSiSSiSSiq 99),(11,.v I),(12,.v .bool),(93,.own K_SPiiq 99),(94,.v I),(95,.v I)]
def q36q_l10_o:Outs:=[(.normal,[(5,.box K_PPZiqZSiSSiSSiq 99),(11,.v I),(12,.v .bool)])]
noncomputable def q36q_l10_r (N:Nat) (back:q36q_l10_H->Option q36q_l10_O) (d:q36q_l10_H):Option q36q_l10_O:=
 let s5:=d.1
 let s11:=d.2.1
 let s12:=d.2.2.1
 let s93:=d.2.2.2.1
 let s94:=d.2.2.2.2.1
 let s95:=d.2.2.2.2.2.1
 if (decide (s95<s94))=true then
  if (idxIn s95 (List.length s93))=true then
  if (idxIn (at_ K_Piiq s93 s95.toNat).1 (List.length s5.2.2.2.1))=true then
  if (idxIn (at_ K_Piiq s93 s95.toNat).2.1 (List.length (at_ K_Si s5.2.2.2.1 (at_ K_Piiq s93 s95.toNat).1.toNat)))=true then
  let x61:=IntKind.wrap .i64 (s95+(1:Int))
  back (((s5.1,(s5.2.1,(s5.2.2.1,(List.set s5.2.2.2.1 (at_ K_Piiq s93 s95.toNat).1.toNat (List.set (at_ K_Si s5.2.2.2.1 (at_ K_Piiq s93 s95.toNat).1.toNat) (at_ K_Piiq s93 s95.toNat).2.1.toNat s11),s5.2.2.2.2)))),(s11,(true,(s93,(s94,(x61,())))))))
  else none
  else none
  else none
 else
  some (.inl ((s5,(s11,(s12,())))))
noncomputable def q36q_l10 (N:Nat):Nat->q36q_l10_H->Option q36q_l10_O
 | 0,_=>none
 | k+1,d=>q36q_l10_r N (q36q_l10 N k) d
abbrev q36q_l4_H:=((List Int×Unit)×List (List Int)×List (List Int)×List (List Int)×Unit)×Int×Bool×Unit
abbrev q36q_l4_O:=(((List Int×Unit)×List (List Int)×List (List Int)×List (List Int)×Unit)×Unit)⊕Empty
def q36q_l4_h:Form:=[(5,.box K_PPZiqZSiSSiSSiq 99),(11,.v I),(12,.v .bool)]
def q36q_l4_o:Outs:=[(.normal,[(5,.box K_PPZiqZSiSSiSSiq 99)])]
noncomputable def q36q_l4_r (N:Nat) (back:q36q_l4_H->Option q36q_l4_O) (d:q36q_l4_H):Option q36q_l4_O:=
 let s5:=d.1
 let s11:=d.2.1
 let s12:=d.2.2.1
 if (s12)=true then
  (q36q_l6 N N ((s5,(s11,(false,(([]:List (Int×Int×Unit)),((List.length s5.2.2.2.1:Int),((0:Int),((),()))))))))).bind fun o44=>match o44 with
  | .inl d45=>
   (q36q_l10 N N ((d45.1,(d45.2.1,(d45.2.2.1,(d45.2.2.2.1,((List.length d45.2.2.2.1:Int),((0:Int),())))))))).bind fun o47=>match o47 with
   | .inl d48=>
    let x49:=IntKind.wrap .i64 (d48.2.1+(1:Int))
    back ((d48.1,(x49,(d48.2.2.1,()))))
 else
  some (.inl (s5,()))
noncomputable def q36q_l4 (N:Nat):Nat->q36q_l4_H->Option q36q_l4_O
 | 0,_=>none
 | k+1,d=>q36q_l4_r N (q36q_l4 N k) d
noncomputable def F_q36q (N:Nat) (d:(List Int×Unit)×Int×Unit):Option (((List Int×Unit)×List (List Int)×List (List Int)×List (List Int)×Unit)×Unit):=
 let a0:=d.1
 let a1:=d.2.1
 (G_copBoard ((a0,(a1,())))).bind fun r1=>
 (q36q_l0 N N ((a0,(r1.1,(r1.1.2.1,((List.length r1.1.2.1:Int),((0:Int),()))))))).bind fun o10=>match o10 with
 | .inl d11=>
  (q36q_l4 N N ((d11.1,((1:Int),(true,()))))).bind fun o25=>match o25 with
  | .inl d26=>
   some (d26.1,())
noncomputable def S_q36q:FSig:=⟨[(K_PSiq,false),(I,false)],[K_BPPZiqZSiSSiSSiq],true,(G_copGame)⟩
noncomputable def Γ_q22q:Ctx:={ tk:=assoc tks,ar:=assoc ars,fs:=assoc [(94,S_q48q),(95,S_impl_netOf)],cs:=assoc [],gs:=assoc [(103,(S_q36q,md0))],eqt:=inL [],md:=md0,mv:=fun t=>Nat.beq t 16 }
noncomputable def F_q22q (N:Nat) (d:(Int×(List (Int×Int×Unit))×Unit)×Int×Unit):Option (List (List Int)×Bool×Unit):=
 let a0:=d.1
 let a1:=d.2.1
 ((F_q48q 0) ((a0,(a1,())))).bind fun r1=>
 if (!r1.1)=true then
  some ((([]:List (List Int)),(false,())))
 else
  (G_netOf (a0,())).bind fun r2=>
  (G_copGame ((r2.1,(a1,())))).bind fun r3=>
  some ((r3.1.2.2.2.1,(true,())))
noncomputable def S_q22q:FSig:=⟨[(K_PiSPiiqq,false),(I,false)],[K_SSi,.bool],true,(F_q22q 0)⟩
noncomputable def Γ_q25q:Ctx:={ tk:=assoc tks,ar:=assoc ars,fs:=assoc [(129,S_q7q),(146,S_q11q),(175,S_q14q)] }
abbrev q25q_l0_H:=((List Int×Unit)×List (List Int)×List (List Int)×List (List Int)×Unit)×Int×Int×List (List Int)×Int×Int×Unit
abbrev q25q_l0_O:=(((List Int×Unit)×List (List Int)×List (List Int)×List (List Int)×Unit)×Int×Int×Unit)⊕Empty
end Go.V.W
