/- What the law FnCopNumbers leans on, part 5: an interpreter of the model as plain data, its soundness, the functions as it tells them, and their laws. -/
import Derived.Test.YtjniohefdfbeoaaGreatProg
import Derived.Test.YtjniohefdfbeoaaGreatVD
set_option linter.unusedVariables false
set_option linter.unusedSimpArgs false
set_option maxRecDepth 100000
namespace Go.V.W
open Go.Proofs
abbrev I:Kd:=.int .i64
abbrev K_Su8:Kd:=.slice (.int .u8)
abbrev K_Pu64q:Kd:=.pair (.int .u64) .unit
abbrev K_Piu64q:Kd:=.pair I K_Pu64q
abbrev K_PSu8iu64q:Kd:=.pair K_Su8 K_Piu64q
abbrev K_BPSu8iu64q:Kd:=.bx K_PSu8iu64q
abbrev K_Si:Kd:=.slice I
abbrev K_Piq:Kd:=.pair I .unit
abbrev K_Piiq:Kd:=.pair I K_Piq
abbrev K_SPiiq:Kd:=.slice K_Piiq
abbrev K_PSPiiqq:Kd:=.pair K_SPiiq .unit
abbrev K_PiSPiiqq:Kd:=.pair I K_PSPiiqq
abbrev K_PSiq:Kd:=.pair K_Si .unit
abbrev K_SSi:Kd:=.slice K_Si
abbrev K_F_q7q_qq:Kd:=.clo 68 .unit .unit
abbrev K_F_slices_Equal_Sint_int_qq:Kd:=.clo 144 .unit .unit
abbrev K_Zi:Kd:=.ssl I
abbrev K_PZiq:Kd:=.pair K_Zi .unit
abbrev K_ZSi:Kd:=.ssl K_Si
abbrev K_PSSiq:Kd:=.pair K_SSi .unit
abbrev K_PSSiSSiq:Kd:=.pair K_SSi K_PSSiq
abbrev K_PZSiSSiSSiq:Kd:=.pair K_ZSi K_PSSiSSiq
abbrev K_PPZiqZSiSSiSSiq:Kd:=.pair K_PZiq K_PZSiSSiSSiq
abbrev K_BPPZiqZSiSSiSSiq:Kd:=.bx K_PPZiqZSiSSiSSiq
abbrev K_BBPPZiqZSiSSiSSiq:Kd:=.bx K_BPPZiqZSiSSiSSiq
abbrev K_Bi:Kd:=.bx I
abbrev K_PBiq:Kd:=.pair K_Bi .unit
abbrev K_PBBPPZiqZSiSSiSSiqBiq:Kd:=.pair K_BBPPZiqZSiSSiSSiq K_PBiq
abbrev K_F_q16q_qPBBPPZiqZSiSSiSSiqBiq:Kd:=.clo 164 .unit K_PBBPPZiqZSiSSiSSiqBiq
abbrev K_PPSiqq:Kd:=.pair K_PSiq .unit
abbrev K_F_q17q_PPSiqqq:Kd:=.clo 130 K_PPSiqq .unit
def tks:List (Nat×Kd):=[(3,I),(4,.bool),(5,(.int .u8)),(9,.str),(22,K_SPiiq),(26,K_SSi),(29,K_PiSPiiqq),(36,K_Su8),(45,K_Si),(64,K_PSiq),(70,(.int .u64)),(72,K_PSu8iu64q),(80,K_Piiq),(86,K_PZSiSSiSSiq),(119,K_PPZiqZSiSSiSSiq),(142,(.int .u64)),(158,(.int .u32))]
def ars:List (Nat×Nat):=[(80,3)]
noncomputable def Γ_laws_rBig:Ctx:={ tk:=assoc tks,ar:=assoc ars,fs:=assoc [] }
noncomputable def F_laws_rBig (N:Nat) (d:List Int×Unit):Option (Bool×Unit):=
 let a0:=d.1
 some ((decide ((List.length a0:Int)>(65536:Int)),()))
noncomputable def g_laws_rBig (d:List Int×Unit):Bool×Unit:=
 let a0:=d.1
 ((decide ((List.length a0:Int)>(65536:Int)),()))
theorem F_laws_rBig_tot (N:Nat) (d):F_laws_rBig N d=some (g_laws_rBig d):=by
 unfold F_laws_rBig g_laws_rBig
 first
  | rfl
  | (dsimp only; (repeat' split)<;>rfl)
noncomputable def S_laws_rBig:FSig:=⟨[(K_Su8,false)],[.bool],true,(fun d=>some (g_laws_rBig d))⟩
noncomputable def Γ_q38q:Ctx:={ tk:=assoc tks,ar:=assoc ars,fs:=assoc [],lent:=fun t=>Nat.beq t 0 }
noncomputable def F_q38q (N:Nat) (d:(List Int×Int×Int×Unit)×Unit):Option (Int×(List Int×Int×Int×Unit)×Unit):=
 let a0:=d.1
 if (decide (a0.2.1<(List.length a0.1:Int)))=true then
  if (idxIn a0.2.1 (List.length a0.1))=true then
  let x1:=IntKind.wrap .i64 (at_ (.int .u8) a0.1 a0.2.1.toNat)
  let x2:=IntKind.wrap .i64 (a0.2.1+(1:Int))
  let x3:=IntKind.wrap .u64 (a0.2.2.1*(6364136223846793005:Int))
  let x4:=IntKind.wrap .u64 (x3+IntKind.wrap .u64 x1)
  let x5:=IntKind.wrap .u64 (x4+(462197:Int))
  if (decide (x2<=(List.length a0.1:Int)))=true then
   some ((x1,((a0.1,(x2,(x5,a0.2.2.2))),())))
  else
   if (decide (0<=(40:Int)))=true then
   let x6:=bits .and .u64 (shr .u64 x5 (40:Int)) (255:Int)
   some ((IntKind.wrap .i64 x6,((a0.1,(x2,(x5,a0.2.2.2))),())))
   else none
  else none
 else
  let x7:=IntKind.wrap .i64 (a0.2.1+(1:Int))
  let x8:=IntKind.wrap .u64 (a0.2.2.1*(6364136223846793005:Int))
  let x9:=IntKind.wrap .u64 (x8+IntKind.wrap .u64 (0:Int))
  let x10:=IntKind.wrap .u64 (x9+(462197:Int))
  if (decide (x7<=(List.length a0.1:Int)))=true then
   some (((0:Int),((a0.1,(x7,(x10,a0.2.2.2))),())))
  else
   if (decide (0<=(40:Int)))=true then
   let x11:=bits .and .u64 (shr .u64 x10 (40:Int)) (255:Int)
   some ((IntKind.wrap .i64 x11,((a0.1,(x7,(x10,a0.2.2.2))),())))
   else none
noncomputable def S_q38q:FSig:=⟨[(K_BPSu8iu64q,true)],[I],true,(F_q38q 0)⟩
noncomputable def Γ_q37q:Ctx:={ tk:=assoc tks,ar:=assoc ars,fs:=assoc [(123,S_q38q)],lent:=fun t=>Nat.beq t 0 }
noncomputable def F_q37q (N:Nat) (d:(List Int×Int×Int×Unit)×Int×Unit):Option (Int×(List Int×Int×Int×Unit)×Unit):=
 let a0:=d.1
 let a1:=d.2.1
 if (decide (a1<=(1:Int)))=true then
  some (((0:Int),(a0,())))
 else
  ((F_q38q 0) (a0,())).bind fun r1=>
  if (decide (a1>(200:Int)))=true then
   let x2:=IntKind.wrap .i64 (r1.1*(256:Int))
   ((F_q38q 0) (r1.2.1,())).bind fun r3=>
   let x4:=IntKind.wrap .i64 (x2+r3.1)
   if (a1 != 0)=true then
   some ((x4.tmod a1,(r3.2.1,())))
   else none
  else
   if (a1 != 0)=true then
   some ((r1.1.tmod a1,(r1.2.1,())))
   else none
noncomputable def S_q37q:FSig:=⟨[(K_BPSu8iu64q,true),(I,false)],[I],true,(F_q37q 0)⟩
noncomputable def Γ_q30q:Ctx:={ tk:=assoc tks,ar:=assoc ars,fs:=assoc [(63,S_q37q)],lent:=fun t=>Nat.beq t 0 }
noncomputable def F_q30q (N:Nat) (d:(List Int×Int×Int×Unit)×List Int×Unit):Option (Int×(List Int×Int×Int×Unit)×Unit):=
 let a0:=d.1
 let a1:=d.2.1
 ((F_q37q 0) ((a0,((List.length a1:Int),())))).bind fun r1=>
 if (idxIn r1.1 (List.length a1))=true then
 some ((at_ I a1 r1.1.toNat,(r1.2.1,())))
 else none
noncomputable def S_q30q:FSig:=⟨[(K_BPSu8iu64q,true),(K_Si,false)],[I],true,(F_q30q 0)⟩
noncomputable def Γ_q43q:Ctx:={ tk:=assoc tks,ar:=assoc ars,fs:=assoc [(63,S_q37q)],lent:=fun t=>Nat.beq t 0 }
noncomputable def F_q43q (N:Nat) (d:(List Int×Int×Int×Unit)×Int×Unit):Option (Bool×(List Int×Int×Int×Unit)×Unit):=
 let a0:=d.1
 let a1:=d.2.1
 ((F_q37q 0) ((a0,(a1,())))).bind fun r1=>
 some ((r1.1==(0:Int),(r1.2.1,())))
noncomputable def S_q43q:FSig:=⟨[(K_BPSu8iu64q,true),(I,false)],[.bool],true,(F_q43q 0)⟩
noncomputable def Γ_q57q:Ctx:={ tk:=assoc tks,ar:=assoc ars,fs:=assoc [] }
noncomputable def F_q57q (N:Nat) (d:Int×Int×Unit):Option (Int×Unit):=
 let a0:=d.1
 let a1:=d.2.1
 if (decide (a0<a1))=true then
  some (a0,())
 else
  some (a1,())
noncomputable def g_q57q (d:Int×Int×Unit):Int×Unit:=
 let a0:=d.1
 let a1:=d.2.1
 if (decide (a0<a1))=true then
  (a0,())
 else
  (a1,())
theorem F_q57q_tot (N:Nat) (d):F_q57q N d=some (g_q57q d):=by
 unfold F_q57q g_q57q
 first
  | rfl
  | (dsimp only; (repeat' split)<;>rfl)
noncomputable def S_q57q:FSig:=⟨[(I,false),(I,false)],[I],true,(fun d=>some (g_q57q d))⟩
noncomputable def Γ_q74q:Ctx:={ tk:=assoc tks,ar:=assoc ars,fs:=assoc [] }
abbrev q74q_l0_H:=Int×(Int×(List (Int×Int×Unit))×Unit)×(Int×(List (Int×Int×Unit))×Unit)×Int×Unit
abbrev q74q_l0_O:=((Int×(List (Int×Int×Unit))×Unit)×(Int×(List (Int×Int×Unit))×Unit)×Unit)⊕Empty
def q74q_l0_h:Form:=[(0,.v I),(2,.box K_PiSPiiqq 99),(3,.box K_PiSPiiqq 99),(4,.v I)]
def q74q_l0_o:Outs:=[(.normal,[(2,.box K_PiSPiiqq 99),(3,.box K_PiSPiiqq 99)])]
noncomputable def q74q_l0_r (N:Nat) (back:q74q_l0_H->Option q74q_l0_O) (d:q74q_l0_H):Option q74q_l0_O:=
 let s0:=d.1
 let s2:=d.2.1
 let s3:=d.2.2.1
 let s4:=d.2.2.2.1
 let x6:=IntKind.wrap .i64 (s4+(1:Int))
 if (decide (x6<s0))=true then
  let x7:=IntKind.wrap .i64 (s4+(1:Int))
  if (decide (List.length s3.2.1+List.length ([(s4,(x7,()))])<=lim))=true then
  let x8:=IntKind.wrap .i64 (s4+(1:Int))
  back ((s0,(s2,((s3.1,(s3.2.1++([(s4,(x7,()))]),s3.2.2)),(x8,())))))
  else none
 else
  some (.inl ((s2,(s3,()))))
noncomputable def q74q_l0 (N:Nat):Nat->q74q_l0_H->Option q74q_l0_O
 | 0,_=>none
 | k+1,d=>q74q_l0_r N (q74q_l0 N k) d
noncomputable def F_q74q (N:Nat) (d:Int×Unit):Option ((Int×(List (Int×Int×Unit))×Unit)×Unit):=
 let a0:=d.1
 (q74q_l0 N N ((a0,(((0:Int),(([]:List (Int×Int×Unit)),())),((a0,(([]:List (Int×Int×Unit)),())),((0:Int),())))))).bind fun o4=>match o4 with
 | .inl d5=>
  some (d5.2.1,())
noncomputable def S_q74q:FSig:=⟨[(I,false)],[K_PiSPiiqq],true,(pickF F_q74q P_path)⟩
noncomputable def Γ_q49q:Ctx:={ tk:=assoc tks,ar:=assoc ars,fs:=assoc [] }
noncomputable def F_q49q (N:Nat) (d:(Int×Int×Unit)×(Int×Int×Unit)×Unit):Option (Bool×Unit):=
 let a0:=d.1
 let a1:=d.2.1
 if (decide (a0.1<a1.1))=true then
  some (true,())
 else
  if (a0.1==a1.1)=true then
   some (decide (a0.2.1<a1.2.1),())
  else
   some (false,())
noncomputable def g_q49q (d:(Int×Int×Unit)×(Int×Int×Unit)×Unit):Bool×Unit:=
 let a0:=d.1
 let a1:=d.2.1
 if (decide (a0.1<a1.1))=true then
  (true,())
 else
  if (a0.1==a1.1)=true then
   (decide (a0.2.1<a1.2.1),())
  else
   (false,())
theorem F_q49q_tot (N:Nat) (d):F_q49q N d=some (g_q49q d):=by
 unfold F_q49q g_q49q
 first
  | rfl
  | (dsimp only; (repeat' split)<;>rfl)
noncomputable def S_q49q:FSig:=⟨[(K_Piiq,false),(K_Piiq,false)],[.bool],true,(fun d=>some (g_q49q d))⟩
noncomputable def Γ_spec_l2Put:Ctx:={ tk:=assoc tks,ar:=assoc ars,fs:=assoc [(131,S_q49q)] }
abbrev spec_l2Put_l0_H:=(List (Int×Int×Unit))×(Int×Int×Unit)×Int×Unit
abbrev spec_l2Put_l0_O:=((List (Int×Int×Unit))×(Int×Int×Unit)×Int×Unit)⊕Empty
def spec_l2Put_l0_h:Form:=[(0,.v K_SPiiq),(3,.box K_Piiq 99),(5,.v I)]
def spec_l2Put_l0_o:Outs:=[(.normal,[(0,.v K_SPiiq),(3,.box K_Piiq 99),(5,.v I)])]
noncomputable def spec_l2Put_l0_r (N:Nat) (back:spec_l2Put_l0_H->Option spec_l2Put_l0_O) (d:spec_l2Put_l0_H):Option spec_l2Put_l0_O:=
 let s0:=d.1
 let s3:=d.2.1
 let s5:=d.2.2.1
 if (decide (s5<(List.length s0:Int)))=true then
  if (idxIn s5 (List.length s0))=true then
  let r7:=g_q49q ((at_ K_Piiq s0 s5.toNat,(s3,())))
  if (r7.1)=true then
   let x8:=IntKind.wrap .i64 (s5+(1:Int))
   back ((s0,(s3,(x8,()))))
  else
   some (.inl ((s0,(s3,(s5,())))))
  else none
 else
  some (.inl ((s0,(s3,(s5,())))))
noncomputable def spec_l2Put_l0 (N:Nat):Nat->spec_l2Put_l0_H->Option spec_l2Put_l0_O
 | 0,_=>none
 | k+1,d=>spec_l2Put_l0_r N (spec_l2Put_l0 N k) d
noncomputable def F_spec_l2Put (N:Nat) (d:(List (Int×Int×Unit))×(Int×Int×Unit)×Unit):Option ((List (Int×Int×Unit))×Unit):=
 let a0:=d.1
 let a1:=d.2.1
 (spec_l2Put_l0 N N ((a0,(a1,((0:Int),()))))).bind fun o3=>match o3 with
 | .inl d4=>
  if ((decide (0<=(0:Int))&&decide ((0:Int)<=d4.2.2.1)&&decide (d4.2.2.1<=(List.length d4.1:Int))))=true then
  if (decide (List.length ([]:List (Int×Int×Unit))+List.length (sub_ d4.1 (0:Int) d4.2.2.1)<=lim))=true then
  let x5:=([]:List (Int×Int×Unit))++(sub_ d4.1 (0:Int) d4.2.2.1)
  if (decide (List.length x5+List.length ([d4.2.1])<=lim))=true then
  if ((decide (0<=d4.2.2.1)&&decide (d4.2.2.1<=(List.length d4.1:Int))&&decide ((List.length d4.1:Int)<=(List.length d4.1:Int))))=true then
  let x6:=sub_ d4.1 d4.2.2.1 (List.length d4.1:Int)
  if (decide (List.length (x5++([d4.2.1]))+List.length x6<=lim))=true then
  some (((x5++([d4.2.1]))++x6,()))
  else none
  else none
  else none
  else none
  else none
noncomputable def S_spec_l2Put:FSig:=⟨[(K_SPiiq,false),(K_Piiq,false)],[K_SPiiq],true,(G_l2Put)⟩
noncomputable def Γ_q60q:Ctx:={ tk:=assoc tks,ar:=assoc ars,fs:=assoc [(117,S_q74q),(119,S_spec_l2Put)] }
noncomputable def F_q60q (N:Nat) (d:Int×Unit):Option ((Int×(List (Int×Int×Unit))×Unit)×Unit):=
 let a0:=d.1
 ((pickF F_q74q P_path) (a0,())).bind fun r1=>
 let x2:=IntKind.wrap .i64 (a0-(1:Int))
 (G_l2Put ((r1.1.2.1,(((0:Int),(x2,())),())))).bind fun r3=>
 some (((r1.1.1,(r3.1,r1.1.2.2)),()))
noncomputable def S_q60q:FSig:=⟨[(I,false)],[K_PiSPiiqq],true,(F_q60q 0)⟩
noncomputable def Γ_q39q:Ctx:={ tk:=assoc tks,ar:=assoc ars,fs:=assoc [] }
abbrev q39q_l2_H:=Int×(Int×(List (Int×Int×Unit))×Unit)×(Int×(List (Int×Int×Unit))×Unit)×Int×Int×Unit
abbrev q39q_l2_O:=(Int×(Int×(List (Int×Int×Unit))×Unit)×(Int×(List (Int×Int×Unit))×Unit)×Int×Unit)⊕Empty
def q39q_l2_h:Form:=[(0,.v I),(2,.box K_PiSPiiqq 99),(3,.box K_PiSPiiqq 99),(4,.v I),(5,.v I)]
def q39q_l2_o:Outs:=[(.normal,[(0,.v I),(2,.box K_PiSPiiqq 99),(3,.box K_PiSPiiqq 99),(4,.v I)])]
noncomputable def q39q_l2_r (N:Nat) (back:q39q_l2_H->Option q39q_l2_O) (d:q39q_l2_H):Option q39q_l2_O:=
 let s0:=d.1
 let s2:=d.2.1
 let s3:=d.2.2.1
 let s4:=d.2.2.2.1
 let s5:=d.2.2.2.2.1
 if (decide (s5<s0))=true then
  if (decide (List.length s3.2.1+List.length ([(s4,(s5,()))])<=lim))=true then
  let x13:=IntKind.wrap .i64 (s5+(1:Int))
  back ((s0,(s2,((s3.1,(s3.2.1++([(s4,(s5,()))]),s3.2.2)),(s4,(x13,()))))))
  else none
 else
  some (.inl ((s0,(s2,(s3,(s4,()))))))
noncomputable def q39q_l2 (N:Nat):Nat->q39q_l2_H->Option q39q_l2_O
 | 0,_=>none
 | k+1,d=>q39q_l2_r N (q39q_l2 N k) d
abbrev q39q_l0_H:=Int×(Int×(List (Int×Int×Unit))×Unit)×(Int×(List (Int×Int×Unit))×Unit)×Int×Unit
abbrev q39q_l0_O:=((Int×(List (Int×Int×Unit))×Unit)×(Int×(List (Int×Int×Unit))×Unit)×Unit)⊕Empty
def q39q_l0_h:Form:=[(0,.v I),(2,.box K_PiSPiiqq 99),(3,.box K_PiSPiiqq 99),(4,.v I)]
def q39q_l0_o:Outs:=[(.normal,[(2,.box K_PiSPiiqq 99),(3,.box K_PiSPiiqq 99)])]
noncomputable def q39q_l0_r (N:Nat) (back:q39q_l0_H->Option q39q_l0_O) (d:q39q_l0_H):Option q39q_l0_O:=
 let s0:=d.1
 let s2:=d.2.1
 let s3:=d.2.2.1
 let s4:=d.2.2.2.1
 if (decide (s4<s0))=true then
  let x8:=IntKind.wrap .i64 (s4+(1:Int))
  (q39q_l2 N N ((s0,(s2,(s3,(s4,(x8,()))))))).bind fun o10=>match o10 with
  | .inl d11=>
   let x12:=IntKind.wrap .i64 (d11.2.2.2.1+(1:Int))
   back ((d11.1,(d11.2.1,(d11.2.2.1,(x12,())))))
 else
  some (.inl ((s2,(s3,()))))
noncomputable def q39q_l0 (N:Nat):Nat->q39q_l0_H->Option q39q_l0_O
 | 0,_=>none
 | k+1,d=>q39q_l0_r N (q39q_l0 N k) d
noncomputable def F_q39q (N:Nat) (d:Int×Unit):Option ((Int×(List (Int×Int×Unit))×Unit)×Unit):=
 let a0:=d.1
 (q39q_l0 N N ((a0,(((0:Int),(([]:List (Int×Int×Unit)),())),((a0,(([]:List (Int×Int×Unit)),())),((0:Int),())))))).bind fun o6=>match o6 with
 | .inl d7=>
  some (d7.2.1,())
noncomputable def S_q39q:FSig:=⟨[(I,false)],[K_PiSPiiqq],true,(pickF F_q39q P_path)⟩
noncomputable def Γ_q68q:Ctx:={ tk:=assoc tks,ar:=assoc ars,fs:=assoc [] }
noncomputable def F_q68q (N:Nat) (d:Int×Int×Unit):Option (Int×Unit):=
 let a0:=d.1
 let a1:=d.2.1
 if (decide (a0>a1))=true then
  some (a0,())
 else
  some (a1,())
noncomputable def g_q68q (d:Int×Int×Unit):Int×Unit:=
 let a0:=d.1
 let a1:=d.2.1
 if (decide (a0>a1))=true then
  (a0,())
 else
  (a1,())
theorem F_q68q_tot (N:Nat) (d):F_q68q N d=some (g_q68q d):=by
 unfold F_q68q g_q68q
 first
  | rfl
  | (dsimp only; (repeat' split)<;>rfl)
noncomputable def S_q68q:FSig:=⟨[(I,false),(I,false)],[I],true,(fun d=>some (g_q68q d))⟩
noncomputable def Γ_q71q:Ctx:={ tk:=assoc tks,ar:=assoc ars,fs:=assoc [] }
abbrev q71q_l0_H:=Int×Int×(Int×(List (Int×Int×Unit))×Unit)×Int×Unit
abbrev q71q_l0_O:=(Bool×Unit)⊕Unit⊕Empty
def q71q_l0_h:Form:=[(1,.v I),(2,.v I),(3,.box K_PiSPiiqq 0),(7,.v I)]
def q71q_l0_o:Outs:=[(.ret,[(6,.v .bool)]),(.normal,[])]
noncomputable def q71q_l0_r (N:Nat) (back:q71q_l0_H->Option q71q_l0_O) (d:q71q_l0_H):Option q71q_l0_O:=
 let s1:=d.1
 let s2:=d.2.1
 let s3:=d.2.2.1
 let s7:=d.2.2.2.1
 if (decide (s7<(List.length s3.2.1:Int)))=true then
  if (idxIn s7 (List.length s3.2.1))=true then
  if ((at_ K_Piiq s3.2.1 s7.toNat).1==s1)=true then
   if ((at_ K_Piiq s3.2.1 s7.toNat).2.1==s2)=true then
    some (.inl (true,()))
   else
    if ((at_ K_Piiq s3.2.1 s7.toNat).1==s2)=true then
     if ((at_ K_Piiq s3.2.1 s7.toNat).2.1==s1)=true then
      some (.inl (true,()))
     else
      let x8:=IntKind.wrap .i64 (s7+(1:Int))
      back ((s1,(s2,(s3,(x8,())))))
    else
     let x9:=IntKind.wrap .i64 (s7+(1:Int))
     back ((s1,(s2,(s3,(x9,())))))
  else
   if ((at_ K_Piiq s3.2.1 s7.toNat).1==s2)=true then
    if ((at_ K_Piiq s3.2.1 s7.toNat).2.1==s1)=true then
     some (.inl (true,()))
    else
     let x10:=IntKind.wrap .i64 (s7+(1:Int))
     back ((s1,(s2,(s3,(x10,())))))
   else
    let x11:=IntKind.wrap .i64 (s7+(1:Int))
    back ((s1,(s2,(s3,(x11,())))))
  else none
 else
  some (.inr (.inl ()))
noncomputable def q71q_l0 (N:Nat):Nat->q71q_l0_H->Option q71q_l0_O
 | 0,_=>none
 | k+1,d=>q71q_l0_r N (q71q_l0 N k) d
noncomputable def F_q71q (N:Nat) (d:(Int×(List (Int×Int×Unit))×Unit)×Int×Int×Unit):Option (Bool×Unit):=
 let a0:=d.1
 let a1:=d.2.1
 let a2:=d.2.2.1
 (q71q_l0 N N ((a1,(a2,(a0,((0:Int),())))))).bind fun o5=>match o5 with
 | .inl d6=>
  some (d6.1,())
 | .inr (.inl d7)=>
  some (false,())
noncomputable def S_q71q:FSig:=⟨[(K_PiSPiiqq,false),(I,false),(I,false)],[.bool],true,(G_l2Near)⟩
noncomputable def Γ_q25q:Ctx:={ tk:=assoc tks,ar:=assoc ars,fs:=assoc [(63,S_q37q),(78,S_q30q)],lent:=fun t=>Nat.beq t 0,cs:=assoc [],gs:=assoc [],eqt:=inL [],md:={ gone:=[1],deep:=[] } }
noncomputable def F_q25q (N:Nat) (d:(List Int×Int×Int×Unit)×(Int×(List (Int×Int×Unit))×Unit)×Unit):Option ((Int×(List (Int×Int×Unit))×Unit)×(List Int×Int×Int×Unit)×(Int×(List (Int×Int×Unit))×Unit)×Unit):=
 let a0:=d.1
 let a1:=d.2.1
 ((F_q37q 0) ((a0,((50:Int),())))).bind fun r1=>
 if (r1.1==(0:Int))=true then
  ((F_q30q 0) ((r1.2.1,([(-1:Int),(8:Int),(9:Int),(0:Int),(4611686018427387904:Int)],())))).bind fun r2=>
  some (((r2.1,a1.2),(r2.2.1,(((0:Int),(([]:List (Int×Int×Unit)),())),()))))
 else
  if (r1.1==(1:Int))=true then
   ((F_q37q 0) ((r1.2.1,((4:Int),())))).bind fun r3=>
   ((F_q37q 0) ((r3.2.1,((9:Int),())))).bind fun r4=>
   let x5:=IntKind.wrap .i64 (r4.1-(1:Int))
   if (decide (List.length a1.2.1+List.length ([(r3.1,(x5,()))])<=lim))=true then
   let x6:=a1.2.1++([(r3.1,(x5,()))])
   some (((a1.1,(x6,a1.2.2)),(r4.2.1,(((0:Int),(([]:List (Int×Int×Unit)),())),()))))
   else none
  else
   if (r1.1==(2:Int))=true then
    if (decide ((List.length a1.2.1:Int)>(0:Int)))=true then
     ((F_q37q 0) ((r1.2.1,((List.length a1.2.1:Int),())))).bind fun r7=>
     if (idxIn r7.1 (List.length a1.2.1))=true then
     if (decide (List.length a1.2.1+List.length ([at_ K_Piiq a1.2.1 r7.1.toNat])<=lim))=true then
     let x8:=a1.2.1++([at_ K_Piiq a1.2.1 r7.1.toNat])
     some (((a1.1,(x8,a1.2.2)),(r7.2.1,(((0:Int),(([]:List (Int×Int×Unit)),())),()))))
     else none
     else none
    else
     some ((a1,(r1.2.1,(((0:Int),(([]:List (Int×Int×Unit)),())),()))))
   else
    some ((a1,(r1.2.1,(((0:Int),(([]:List (Int×Int×Unit)),())),()))))
noncomputable def S_q25q:FSig:=⟨[(K_BPSu8iu64q,true),(K_PiSPiiqq,true)],[K_PiSPiiqq],true,(F_q25q 0)⟩
noncomputable def Γ_q13q:Ctx:={ tk:=assoc tks,ar:=assoc ars,fs:=assoc [(62,S_q43q),(63,S_q37q),(78,S_q30q),(82,S_q39q),(116,S_q57q),(117,S_q74q),(118,S_q60q),(119,S_spec_l2Put),(120,S_q68q),(121,S_q71q)],lent:=fun t=>Nat.beq t 0,cs:=assoc [],gs:=assoc [(122,(S_q25q,{ gone:=[1],deep:=[] }))],eqt:=inL [],md:=md0 }
abbrev q13q_l3_H:=(List Int×Int×Int×Unit)×(Int×(List (Int×Int×Unit))×Unit)×Int×(Int×(List (Int×Int×Unit))×Unit)×Int×Bool×Int×Int×Unit
abbrev q13q_l3_O:=((List Int×Int×Int×Unit)×(Int×(List (Int×Int×Unit))×Unit)×Int×(Int×(List (Int×Int×Unit))×Unit)×Int×Bool×Int×Unit)⊕Empty
def q13q_l3_h:Form:=[(0,.box K_PSu8iu64q 0),(4,.box K_PiSPiiqq 99),(5,.v I),(6,.box K_PiSPiiqq 99),(7,.v I),(8,.v .bool),(9,.v I),(10,.v I)]
def q13q_l3_o:Outs:=[(.normal,[(0,.box K_PSu8iu64q 0),(4,.box K_PiSPiiqq 99),(5,.v I),(6,.box K_PiSPiiqq 99),(7,.v I),(8,.v .bool),(9,.v I)])]
noncomputable def q13q_l3_r (N:Nat) (back:q13q_l3_H->Option q13q_l3_O) (d:q13q_l3_H):Option q13q_l3_O:=
 let s0:=d.1
 let s4:=d.2.1
 let s5:=d.2.2.1
 let s6:=d.2.2.2.1
 let s7:=d.2.2.2.2.1
 let s8:=d.2.2.2.2.2.1
 let s9:=d.2.2.2.2.2.2.1
 let s10:=d.2.2.2.2.2.2.2.1
 if (decide (s10<s5))=true then
  ((F_q37q 0) ((s0,(s7,())))).bind fun r77=>
  if (r77.1==(0:Int))=true then
   (G_l2Put ((s6.2.1,((s9,(s10,())),())))).bind fun r78=>
   let x79:=IntKind.wrap .i64 (s10+(1:Int))
   back ((r77.2.1,(s4,(s5,((s6.1,(r78.1,s6.2.2)),(s7,(s8,(s9,(x79,())))))))))
  else
   let x80:=IntKind.wrap .i64 (s10+(1:Int))
   back ((r77.2.1,(s4,(s5,(s6,(s7,(s8,(s9,(x80,())))))))))
 else
  some (.inl ((s0,(s4,(s5,(s6,(s7,(s8,(s9,())))))))))
noncomputable def q13q_l3 (N:Nat):Nat->q13q_l3_H->Option q13q_l3_O
 | 0,_=>none
 | k+1,d=>q13q_l3_r N (q13q_l3 N k) d
abbrev q13q_l1_H:=(List Int×Int×Int×Unit)×(Int×(List (Int×Int×Unit))×Unit)×Int×(Int×(List (Int×Int×Unit))×Unit)×Int×Bool×Int×Unit
abbrev q13q_l1_O:=((List Int×Int×Int×Unit)×(Int×(List (Int×Int×Unit))×Unit)×(Int×(List (Int×Int×Unit))×Unit)×Unit)⊕Empty
def q13q_l1_h:Form:=[(0,.box K_PSu8iu64q 0),(4,.box K_PiSPiiqq 99),(5,.v I),(6,.box K_PiSPiiqq 99),(7,.v I),(8,.v .bool),(9,.v I)]
def q13q_l1_o:Outs:=[(.normal,[(0,.box K_PSu8iu64q 0),(4,.box K_PiSPiiqq 99),(6,.box K_PiSPiiqq 99)])]
noncomputable def q13q_l1_r (N:Nat) (back:q13q_l1_H->Option q13q_l1_O) (d:q13q_l1_H):Option q13q_l1_O:=
 let s0:=d.1
 let s4:=d.2.1
 let s5:=d.2.2.1
 let s6:=d.2.2.2.1
 let s7:=d.2.2.2.2.1
 let s8:=d.2.2.2.2.2.1
 let s9:=d.2.2.2.2.2.2.1
 if (decide (s9<s5))=true then
  let x62:=IntKind.wrap .i64 (s9+(1:Int))
  (q13q_l3 N N ((s0,(s4,(s5,(s6,(s7,(s8,(s9,(x62,())))))))))).bind fun o67=>match o67 with
  | .inl d68=>
   let r69:=g_q68q ((d68.2.2.2.2.2.2.1,((1:Int),())))
   ((F_q37q 0) ((d68.1,(r69.1,())))).bind fun r70=>
   if (decide (d68.2.2.2.2.2.2.1>(0:Int)))=true then
    if (!d68.2.2.2.2.2.1)=true then
     (G_l2Near ((d68.2.2.2.1,(d68.2.2.2.2.2.2.1,(r70.1,()))))).bind fun r71=>
     if (!r71.1)=true then
      (G_l2Put ((d68.2.2.2.1.2.1,((r70.1,(d68.2.2.2.2.2.2.1,())),())))).bind fun r72=>
      let x73:=IntKind.wrap .i64 (d68.2.2.2.2.2.2.1+(1:Int))
      back ((r70.2.1,(d68.2.1,(d68.2.2.1,((d68.2.2.2.1.1,(r72.1,d68.2.2.2.1.2.2)),(d68.2.2.2.2.1,(d68.2.2.2.2.2.1,(x73,()))))))))
     else
      let x74:=IntKind.wrap .i64 (d68.2.2.2.2.2.2.1+(1:Int))
      back ((r70.2.1,(d68.2.1,(d68.2.2.1,(d68.2.2.2.1,(d68.2.2.2.2.1,(d68.2.2.2.2.2.1,(x74,()))))))))
    else
     let x75:=IntKind.wrap .i64 (d68.2.2.2.2.2.2.1+(1:Int))
     back ((r70.2.1,(d68.2.1,(d68.2.2.1,(d68.2.2.2.1,(d68.2.2.2.2.1,(d68.2.2.2.2.2.1,(x75,()))))))))
   else
    let x76:=IntKind.wrap .i64 (d68.2.2.2.2.2.2.1+(1:Int))
    back ((r70.2.1,(d68.2.1,(d68.2.2.1,(d68.2.2.2.1,(d68.2.2.2.2.1,(d68.2.2.2.2.2.1,(x76,()))))))))
 else
  some (.inl ((s0,(s4,(s6,())))))
noncomputable def q13q_l1 (N:Nat):Nat->q13q_l1_H->Option q13q_l1_O
 | 0,_=>none
 | k+1,d=>q13q_l1_r N (q13q_l1 N k) d
noncomputable def F_q13q (N:Nat) (d:(List Int×Int×Int×Unit)×Int×Unit):Option ((Int×(List (Int×Int×Unit))×Unit)×(List Int×Int×Int×Unit)×Unit):=
 let a0:=d.1
 let a1:=d.2.1
 ((F_q30q 0) ((a0,([(4:Int),(5:Int),(3:Int),(6:Int),(2:Int),(1:Int),(0:Int)],())))).bind fun r1=>
 if (decide (a1>(6:Int)))=true then
  ((F_q43q 0) ((r1.2.1,((4:Int),())))).bind fun r2=>
  if (r2.1)=true then
   ((F_q37q 0) ((r2.2.1,((2:Int),())))).bind fun r3=>
   let x4:=IntKind.wrap .i64 ((7:Int)+r3.1)
   let r5:=g_q57q ((x4,(a1,())))
   ((F_q37q 0) ((r3.2.1,((8:Int),())))).bind fun r6=>
   if (r6.1==(0:Int))=true then
    ((pickF F_q74q P_path) (r5.1,())).bind fun r7=>
    ((F_q25q 0) ((r6.2.1,(r7.1,())))).bind fun r8=>
    some ((r8.1,(r8.2.1,())))
   else
    if (r6.1==(1:Int))=true then
     if (decide (r5.1>(2:Int)))=true then
      ((F_q60q 0) (r5.1,())).bind fun r9=>
      ((F_q25q 0) ((r6.2.1,(r9.1,())))).bind fun r10=>
      some ((r10.1,(r10.2.1,())))
     else
      ((F_q25q 0) ((r6.2.1,((r5.1,(([]:List (Int×Int×Unit)),())),())))).bind fun r11=>
      some ((r11.1,(r11.2.1,())))
    else
     if (r6.1==(2:Int))=true then
      ((pickF F_q39q P_path) (r5.1,())).bind fun r12=>
      ((F_q25q 0) ((r6.2.1,(r12.1,())))).bind fun r13=>
      some ((r13.1,(r13.2.1,())))
     else
      ((F_q30q 0) ((r6.2.1,([(3:Int),(4:Int),(6:Int)],())))).bind fun r14=>
      ((F_q43q 0) ((r14.2.1,((6:Int),())))).bind fun r15=>
      (q13q_l1 N N ((r15.2.1,(((0:Int),(([]:List (Int×Int×Unit)),())),(r5.1,((r5.1,(([]:List (Int×Int×Unit)),())),(r14.1,(r15.1,((0:Int),()))))))))).bind fun o31=>match o31 with
      | .inl d32=>
       ((F_q25q 0) ((d32.1,(d32.2.2.1,())))).bind fun r33=>
       some ((r33.1,(r33.2.1,())))
  else
   let r34:=g_q57q ((r1.1,(a1,())))
   ((F_q37q 0) ((r2.2.1,((8:Int),())))).bind fun r35=>
   if (r35.1==(0:Int))=true then
    ((pickF F_q74q P_path) (r34.1,())).bind fun r36=>
    ((F_q25q 0) ((r35.2.1,(r36.1,())))).bind fun r37=>
    some ((r37.1,(r37.2.1,())))
   else
    if (r35.1==(1:Int))=true then
     if (decide (r34.1>(2:Int)))=true then
      ((F_q60q 0) (r34.1,())).bind fun r38=>
      ((F_q25q 0) ((r35.2.1,(r38.1,())))).bind fun r39=>
      some ((r39.1,(r39.2.1,())))
     else
      ((F_q25q 0) ((r35.2.1,((r34.1,(([]:List (Int×Int×Unit)),())),())))).bind fun r40=>
      some ((r40.1,(r40.2.1,())))
    else
     if (r35.1==(2:Int))=true then
      ((pickF F_q39q P_path) (r34.1,())).bind fun r41=>
      ((F_q25q 0) ((r35.2.1,(r41.1,())))).bind fun r42=>
      some ((r42.1,(r42.2.1,())))
     else
      ((F_q30q 0) ((r35.2.1,([(3:Int),(4:Int),(6:Int)],())))).bind fun r43=>
      ((F_q43q 0) ((r43.2.1,((6:Int),())))).bind fun r44=>
      (q13q_l1 N N ((r44.2.1,(((0:Int),(([]:List (Int×Int×Unit)),())),(r34.1,((r34.1,(([]:List (Int×Int×Unit)),())),(r43.1,(r44.1,((0:Int),()))))))))).bind fun o45=>match o45 with
      | .inl d46=>
       ((F_q25q 0) ((d46.1,(d46.2.2.1,())))).bind fun r47=>
       some ((r47.1,(r47.2.1,())))
 else
  let r48:=g_q57q ((r1.1,(a1,())))
  ((F_q37q 0) ((r1.2.1,((8:Int),())))).bind fun r49=>
  if (r49.1==(0:Int))=true then
   ((pickF F_q74q P_path) (r48.1,())).bind fun r50=>
   ((F_q25q 0) ((r49.2.1,(r50.1,())))).bind fun r51=>
   some ((r51.1,(r51.2.1,())))
  else
   if (r49.1==(1:Int))=true then
    if (decide (r48.1>(2:Int)))=true then
     ((F_q60q 0) (r48.1,())).bind fun r52=>
     ((F_q25q 0) ((r49.2.1,(r52.1,())))).bind fun r53=>
     some ((r53.1,(r53.2.1,())))
    else
     ((F_q25q 0) ((r49.2.1,((r48.1,(([]:List (Int×Int×Unit)),())),())))).bind fun r54=>
     some ((r54.1,(r54.2.1,())))
   else
    if (r49.1==(2:Int))=true then
     ((pickF F_q39q P_path) (r48.1,())).bind fun r55=>
     ((F_q25q 0) ((r49.2.1,(r55.1,())))).bind fun r56=>
     some ((r56.1,(r56.2.1,())))
    else
     ((F_q30q 0) ((r49.2.1,([(3:Int),(4:Int),(6:Int)],())))).bind fun r57=>
     ((F_q43q 0) ((r57.2.1,((6:Int),())))).bind fun r58=>
     (q13q_l1 N N ((r58.2.1,(((0:Int),(([]:List (Int×Int×Unit)),())),(r48.1,((r48.1,(([]:List (Int×Int×Unit)),())),(r57.1,(r58.1,((0:Int),()))))))))).bind fun o59=>match o59 with
     | .inl d60=>
      ((F_q25q 0) ((d60.1,(d60.2.2.1,())))).bind fun r61=>
      some ((r61.1,(r61.2.1,())))
noncomputable def S_q13q:FSig:=⟨[(K_BPSu8iu64q,true),(I,false)],[K_PiSPiiqq],true,(pickF F_q13q P_someG)⟩
noncomputable def Γ_q20q:Ctx:={ tk:=assoc tks,ar:=assoc ars,fs:=assoc [(61,S_q13q),(62,S_q43q),(63,S_q37q)] }
noncomputable def F_q20q (N:Nat) (d:List Int×Unit):Option ((Int×(List (Int×Int×Unit))×Unit)×Unit):=
 let a0:=d.1
 ((pickF F_q13q P_someG) (((a0,((0:Int),((0:Int),()))),((6:Int),())))).bind fun r1=>
 ((F_q43q 0) ((r1.2.1,((6:Int),())))).bind fun r2=>
 if (r2.1)=true then
  ((pickF F_q13q P_someG) ((r2.2.1,((8:Int),())))).bind fun r3=>
  ((F_q43q 0) ((r3.2.1,((8:Int),())))).bind fun r4=>
  if (r4.1)=true then
   ((F_q37q 0) ((r4.2.1,((5:Int),())))).bind fun r5=>
   let x6:=IntKind.wrap .i64 ((1:Int)+r5.1)
   some (((x6,(([]:List (Int×Int×Unit)),())),()))
  else
   some (r3.1,())
 else
  ((F_q43q 0) ((r2.2.1,((8:Int),())))).bind fun r7=>
  if (r7.1)=true then
   ((F_q37q 0) ((r7.2.1,((5:Int),())))).bind fun r8=>
   let x9:=IntKind.wrap .i64 ((1:Int)+r8.1)
   some (((x9,(([]:List (Int×Int×Unit)),())),()))
  else
   some (r1.1,())
noncomputable def S_q20q:FSig:=⟨[(K_Su8,false)],[K_PiSPiiqq],true,(F_q20q 0)⟩
noncomputable def Γ_q77q:Ctx:={ tk:=assoc tks,ar:=assoc ars,fs:=assoc [] }
noncomputable def F_q77q (N:Nat) (d:Int×Int×Int×Unit):Option (Bool×Unit):=
 let a0:=d.1
 let a1:=d.2.1
 let a2:=d.2.2.1
 if (decide (a0>=a1))=true then
  some (decide (a0<=a2),())
 else
  some (false,())
noncomputable def g_q77q (d:Int×Int×Int×Unit):Bool×Unit:=
 let a0:=d.1
 let a1:=d.2.1
 let a2:=d.2.2.1
 if (decide (a0>=a1))=true then
  (decide (a0<=a2),())
 else
  (false,())
theorem F_q77q_tot (N:Nat) (d):F_q77q N d=some (g_q77q d):=by
 unfold F_q77q g_q77q
 first
  | rfl
  | (dsimp only; (repeat' split)<;>rfl)
noncomputable def S_q77q:FSig:=⟨[(I,false),(I,false),(I,false)],[.bool],true,(fun d=>some (g_q77q d))⟩
noncomputable def Γ_q53q:Ctx:={ tk:=assoc tks,ar:=assoc ars,fs:=assoc [] }
noncomputable def F_q53q (N:Nat) (d:Int×Unit):Option (Bool×Unit):=
 let a0:=d.1
 some (a0 != a0,())
noncomputable def g_q53q (d:Int×Unit):Bool×Unit:=
 let a0:=d.1
 (a0 != a0,())
theorem F_q53q_tot (N:Nat) (d):F_q53q N d=some (g_q53q d):=by
 unfold F_q53q g_q53q
 first
  | rfl
  | (dsimp only; (repeat' split)<;>rfl)
noncomputable def S_q53q:FSig:=⟨[(I,false)],[.bool],true,(fun d=>some (g_q53q d))⟩
noncomputable def Γ_q35q:Ctx:={ tk:=assoc tks,ar:=assoc ars,fs:=assoc [(166,S_q53q)] }
noncomputable def F_q35q (N:Nat) (d:Int×Int×Unit):Option (Int×Unit):=
 let a0:=d.1
 let a1:=d.2.1
 let r1:=g_q53q (a0,())
 let r2:=g_q53q (a1,())
 if (r1.1)=true then
  if (r2.1)=true then
   some ((0:Int),())
  else
   some ((-1:Int),())
 else
  if (r2.1)=true then
   some ((1:Int),())
  else
   if (decide (a0<a1))=true then
    some ((-1:Int),())
   else
    if (decide (a0>a1))=true then
     some ((1:Int),())
    else
     some ((0:Int),())
noncomputable def g_q35q (d:Int×Int×Unit):Int×Unit:=
 let a0:=d.1
 let a1:=d.2.1
 let r1:=g_q53q (a0,())
 let r2:=g_q53q (a1,())
 if (r1.1)=true then
  if (r2.1)=true then
   ((0:Int),())
  else
   ((-1:Int),())
 else
  if (r2.1)=true then
   ((1:Int),())
  else
   if (decide (a0<a1))=true then
    ((-1:Int),())
   else
    if (decide (a0>a1))=true then
     ((1:Int),())
    else
     ((0:Int),())
theorem F_q35q_tot (N:Nat) (d):F_q35q N d=some (g_q35q d):=by
 unfold F_q35q g_q35q
 first
  | rfl
  | (dsimp only; (repeat' split)<;>rfl)
noncomputable def S_q35q:FSig:=⟨[(I,false),(I,false)],[I],true,(fun d=>some (g_q35q d))⟩
noncomputable def Γ_q7q:Ctx:={ tk:=assoc tks,ar:=assoc ars,fs:=assoc [(128,S_q35q)] }
abbrev q7q_l0_H:=List Int×List Int×List Int×Int×Int×Unit
abbrev q7q_l0_O:=(Int×Unit)⊕(List Int×List Int×Unit)⊕Empty
def q7q_l0_h:Form:=[(0,.v K_Si),(1,.v K_Si),(9,.v K_Si),(10,.v I),(11,.v I)]
def q7q_l0_o:Outs:=[(.ret,[(4,.v I)]),(.normal,[(0,.v K_Si),(1,.v K_Si)])]
noncomputable def q7q_l0_r (N:Nat) (back:q7q_l0_H->Option q7q_l0_O) (d:q7q_l0_H):Option q7q_l0_O:=
 let s0:=d.1
 let s1:=d.2.1
 let s9:=d.2.2.1
 let s10:=d.2.2.2.1
 let s11:=d.2.2.2.2.1
 if (decide (s11<s10))=true then
  if (idxIn s11 (List.length s9))=true then
  if (decide (s11>=(List.length s1:Int)))=true then
   some (.inl ((1:Int),()))
  else
   if (idxIn s11 (List.length s1))=true then
   let r6:=g_q35q ((at_ I s9 s11.toNat,(at_ I s1 s11.toNat,())))
   if (r6.1 != (0:Int))=true then
    some (.inl (r6.1,()))
   else
    let x7:=IntKind.wrap .i64 (s11+(1:Int))
    back ((s0,(s1,(s9,(s10,(x7,()))))))
   else none
  else none
 else
  some (.inr (.inl ((s0,(s1,())))))
noncomputable def q7q_l0 (N:Nat):Nat->q7q_l0_H->Option q7q_l0_O
 | 0,_=>none
 | k+1,d=>q7q_l0_r N (q7q_l0 N k) d
noncomputable def F_q7q (N:Nat) (d:List Int×List Int×Unit):Option (Int×Unit):=
 let a0:=d.1
 let a1:=d.2.1
 (q7q_l0 N N ((a0,(a1,(a0,((List.length a0:Int),((0:Int),()))))))).bind fun o3=>match o3 with
 | .inl d4=>
  some (d4.1,())
 | .inr (.inl d5)=>
  if (decide ((List.length d5.1:Int)<(List.length d5.2.1:Int)))=true then
   some ((-1:Int),())
  else
   some ((0:Int),())
noncomputable def S_q7q:FSig:=⟨[(K_Si,false),(K_Si,false)],[I],true,(G_compare)⟩
noncomputable def Γ_q59q:Ctx:={ tk:=assoc tks,ar:=assoc ars,fs:=assoc [(67,S_q77q),(68,S_q7q)] }
abbrev q59q_l0_H:=(Int×(List (Int×Int×Unit))×Unit)×(List (Int×Int×Unit))×Int×Int×Unit
abbrev q59q_l0_O:=(Bool×Unit)⊕Unit⊕Empty
def q59q_l0_h:Form:=[(1,.box K_PiSPiiqq 0),(10,.v K_SPiiq),(11,.v I),(12,.v I)]
def q59q_l0_o:Outs:=[(.ret,[(2,.v .bool)]),(.normal,[])]
noncomputable def q59q_l0_r (N:Nat) (back:q59q_l0_H->Option q59q_l0_O) (d:q59q_l0_H):Option q59q_l0_O:=
 let s1:=d.1
 let s10:=d.2.1
 let s11:=d.2.2.1
 let s12:=d.2.2.2.1
 if (decide (s12<s11))=true then
  if (idxIn s12 (List.length s10))=true then
  if (decide ((at_ K_Piiq s10 s12.toNat).1<(0:Int)))=true then
   some (.inl (false,()))
  else
   if (decide ((at_ K_Piiq s10 s12.toNat).1>=(at_ K_Piiq s10 s12.toNat).2.1))=true then
    some (.inl (false,()))
   else
    if (decide ((at_ K_Piiq s10 s12.toNat).2.1>=s1.1))=true then
     some (.inl (false,()))
    else
     if (decide (s12>(0:Int)))=true then
      let x9:=IntKind.wrap .i64 (s12-(1:Int))
      if (idxIn x9 (List.length s1.2.1))=true then
      (G_compare (([(at_ K_Piiq s1.2.1 x9.toNat).1,(at_ K_Piiq s1.2.1 x9.toNat).2.1],([(at_ K_Piiq s10 s12.toNat).1,(at_ K_Piiq s10 s12.toNat).2.1],())))).bind fun r10=>
      if (decide (r10.1>=(0:Int)))=true then
       some (.inl (false,()))
      else
       let x11:=IntKind.wrap .i64 (s12+(1:Int))
       back ((s1,(s10,(s11,(x11,())))))
      else none
     else
      let x12:=IntKind.wrap .i64 (s12+(1:Int))
      back ((s1,(s10,(s11,(x12,())))))
  else none
 else
  some (.inr (.inl ()))
noncomputable def q59q_l0 (N:Nat):Nat->q59q_l0_H->Option q59q_l0_O
 | 0,_=>none
 | k+1,d=>q59q_l0_r N (q59q_l0 N k) d
noncomputable def F_q59q (N:Nat) (d:(Int×(List (Int×Int×Unit))×Unit)×Unit):Option (Bool×Unit):=
 let a0:=d.1
 let r1:=g_q77q ((a0.1,((0:Int),((8:Int),()))))
 if (!r1.1)=true then
  some (false,())
 else
  (q59q_l0 N N ((a0,(a0.2.1,((List.length a0.2.1:Int),((0:Int),())))))).bind fun o6=>match o6 with
  | .inl d7=>
   some (d7.1,())
  | .inr (.inl d8)=>
   some (true,())
noncomputable def S_q59q:FSig:=⟨[(K_PiSPiiqq,false)],[.bool],true,(G_graph)⟩
noncomputable def Γ_q41q:Ctx:={ tk:=assoc tks,ar:=assoc ars,fs:=assoc [(20,S_q59q),(67,S_q77q)] }
noncomputable def F_q41q (N:Nat) (d:(Int×(List (Int×Int×Unit))×Unit)×Int×Unit):Option (Bool×Unit):=
 let a0:=d.1
 let a1:=d.2.1
 (G_graph (a0,())).bind fun r1=>
 if (r1.1)=true then
  if (decide (a0.1>(0:Int)))=true then
   let r2:=g_q77q ((a1,((1:Int),((3:Int),()))))
   some (r2.1,())
  else
   some (false,())
 else
  some (false,())
noncomputable def S_q41q:FSig:=⟨[(K_PiSPiiqq,false),(I,false)],[.bool],true,(F_q41q 0)⟩
noncomputable def Γ_impl_netOf:Ctx:={ tk:=assoc tks,ar:=assoc ars,fs:=assoc [] }
abbrev impl_netOf_l0_H:=(List Int×Unit)×(List Int×Unit)×(List (Int×Int×Unit))×Int×Int×Unit
abbrev impl_netOf_l0_O:=((List Int×Unit)×(List Int×Unit)×Unit)⊕Empty
def impl_netOf_l0_h:Form:=[(2,.box K_PSiq 99),(3,.box K_PSiq 99),(11,.v K_SPiiq),(12,.v I),(13,.v I)]
def impl_netOf_l0_o:Outs:=[(.normal,[(2,.box K_PSiq 99),(3,.box K_PSiq 99)])]
noncomputable def impl_netOf_l0_r (N:Nat) (back:impl_netOf_l0_H->Option impl_netOf_l0_O) (d:impl_netOf_l0_H):Option impl_netOf_l0_O:=
 let s2:=d.1
 let s3:=d.2.1
 let s11:=d.2.2.1
 let s12:=d.2.2.2.1
 let s13:=d.2.2.2.2.1
 if (decide (s13<s12))=true then
  if (idxIn s13 (List.length s11))=true then
  if (idxIn (at_ K_Piiq s11 s13.toNat).1 (List.length s3.1))=true then
  if (decide (0<=(at_ K_Piiq s11 s13.toNat).2.1))=true then
  let x9:=shl .i64 (1:Int) (at_ K_Piiq s11 s13.toNat).2.1
  let x10:=bits .or .i64 (at_ I s3.1 (at_ K_Piiq s11 s13.toNat).1.toNat) x9
  if (idxIn (at_ K_Piiq s11 s13.toNat).1 (List.length s3.1))=true then
  if (idxIn (at_ K_Piiq s11 s13.toNat).2.1 (List.length (List.set s3.1 (at_ K_Piiq s11 s13.toNat).1.toNat x10)))=true then
  if (decide (0<=(at_ K_Piiq s11 s13.toNat).1))=true then
  let x11:=shl .i64 (1:Int) (at_ K_Piiq s11 s13.toNat).1
  let x12:=bits .or .i64 (at_ I (List.set s3.1 (at_ K_Piiq s11 s13.toNat).1.toNat x10) (at_ K_Piiq s11 s13.toNat).2.1.toNat) x11
  if (idxIn (at_ K_Piiq s11 s13.toNat).2.1 (List.length (List.set s3.1 (at_ K_Piiq s11 s13.toNat).1.toNat x10)))=true then
  let x13:=IntKind.wrap .i64 (s13+(1:Int))
  back ((s2,((List.set (List.set s3.1 (at_ K_Piiq s11 s13.toNat).1.toNat x10) (at_ K_Piiq s11 s13.toNat).2.1.toNat x12,s3.2),(s11,(s12,(x13,()))))))
  else none
  else none
  else none
  else none
  else none
  else none
  else none
 else
  some (.inl ((s2,(s3,()))))
noncomputable def impl_netOf_l0 (N:Nat):Nat->impl_netOf_l0_H->Option impl_netOf_l0_O
 | 0,_=>none
 | k+1,d=>impl_netOf_l0_r N (impl_netOf_l0 N k) d
noncomputable def F_impl_netOf (N:Nat) (d:(Int×(List (Int×Int×Unit))×Unit)×Unit):Option ((List Int×Unit)×Unit):=
 let a0:=d.1
 if ((decide (0<=a0.1)&&decide (a0.1<=a0.1)&&decide (a0.1<=(lim:Int))))=true then
 let x1:=List.replicate a0.1.toNat (0:Int)
 (impl_netOf_l0 N N (((([]:List Int),()),((x1,()),(a0.2.1,((List.length a0.2.1:Int),((0:Int),()))))))).bind fun o7=>match o7 with
 | .inl d8=>
  some (d8.2.1,())
 else none
noncomputable def S_impl_netOf:FSig:=⟨[(K_PiSPiiqq,false)],[K_PSiq],true,(G_netOf)⟩
noncomputable def Γ_q54q:Ctx:={ tk:=assoc tks,ar:=assoc ars,fs:=assoc [] }
noncomputable def F_q54q (N:Nat) (d:(List Int×Unit)×Unit):Option (Int×Unit):=
 let a0:=d.1
 some ((List.length a0.1:Int),())
noncomputable def g_q54q (d:(List Int×Unit)×Unit):Int×Unit:=
 let a0:=d.1
 ((List.length a0.1:Int),())
theorem F_q54q_tot (N:Nat) (d):F_q54q N d=some (g_q54q d):=by
 unfold F_q54q g_q54q
 first
  | rfl
  | (dsimp only; (repeat' split)<;>rfl)
noncomputable def S_q54q:FSig:=⟨[(K_PSiq,false)],[I],true,(fun d=>some (g_q54q d))⟩
noncomputable def Γ_q11q:Ctx:={ tk:=assoc tks,ar:=assoc ars,fs:=assoc [] }
noncomputable def F_q11q (N:Nat) (d:List Int×Unit):Option (List Int×Unit):=
 let a0:=d.1
 if (decide (List.length a0=0))=true then
  both (
    some (([]:List Int),())) (
    if (decide (List.length ([]:List Int)+List.length a0<=lim))=true then
    some (([]:List Int)++a0,())
    else none)
 else
  if (decide (List.length ([]:List Int)+List.length a0<=lim))=true then
  some (([]:List Int)++a0,())
  else none
noncomputable def S_q11q:FSig:=⟨[(K_Si,false)],[K_Si],true,(G_toIntS)⟩
noncomputable def Γ_q47q:Ctx:={ tk:=assoc tks,ar:=assoc ars,fs:=assoc [(114,S_q11q)],dm:=fun t=>Nat.beq t 8||Nat.beq t 15,cs:=assoc [] }
abbrev q47q_l4_H:=Int×List (List Int)×List Int×Int×Int×Int×List (List Int)×Int×Int×Unit
abbrev q47q_l4_O:=(Int×List (List Int)×Int×Int×List (List Int)×Int×Int×Unit)⊕Empty
def q47q_l4_h:Form:=[(0,.v I),(6,.own K_SSi 99),(8,.v K_Si),(10,.v I),(12,.v I),(13,.v I),(15,.v K_SSi),(16,.v I),(17,.v I)]
def q47q_l4_o:Outs:=[(.normal,[(0,.v I),(6,.own K_SSi 99),(12,.v I),(13,.v I),(15,.v K_SSi),(16,.v I),(17,.v I)])]
noncomputable def q47q_l4_r (N:Nat) (back:q47q_l4_H->Option q47q_l4_O) (d:q47q_l4_H):Option q47q_l4_O:=
 let s0:=d.1
 let s6:=d.2.1
 let s8:=d.2.2.1
 let s10:=d.2.2.2.1
 let s12:=d.2.2.2.2.1
 let s13:=d.2.2.2.2.2.1
 let s15:=d.2.2.2.2.2.2.1
 let s16:=d.2.2.2.2.2.2.2.1
 let s17:=d.2.2.2.2.2.2.2.2.1
 if (decide (s10<s0))=true then
  (G_toIntS (s8,())).bind fun r48=>
  if (decide (List.length r48.1+List.length ([s10])<=lim))=true then
  if (decide (List.length s6+List.length ([r48.1++([s10])])<=lim))=true then
  let x49:=IntKind.wrap .i64 (s10+(1:Int))
  back ((s0,(s6++([r48.1++([s10])]),(s8,(x49,(s12,(s13,(s15,(s16,(s17,()))))))))))
  else none
  else none
 else
  some (.inl ((s0,(s6,(s12,(s13,(s15,(s16,(s17,())))))))))
noncomputable def q47q_l4 (N:Nat):Nat->q47q_l4_H->Option q47q_l4_O
 | 0,_=>none
 | k+1,d=>q47q_l4_r N (q47q_l4 N k) d
abbrev q47q_l2_H:=Int×List (List Int)×Int×Int×List (List Int)×Int×Int×Unit
abbrev q47q_l2_O:=(Int×List (List Int)×Int×Int×Unit)⊕Empty
def q47q_l2_h:Form:=[(0,.v I),(6,.own K_SSi 99),(12,.v I),(13,.v I),(15,.v K_SSi),(16,.v I),(17,.v I)]
def q47q_l2_o:Outs:=[(.normal,[(0,.v I),(6,.own K_SSi 99),(12,.v I),(13,.v I)])]
noncomputable def q47q_l2_r (N:Nat) (back:q47q_l2_H->Option q47q_l2_O) (d:q47q_l2_H):Option q47q_l2_O:=
 let s0:=d.1
 let s6:=d.2.1
 let s12:=d.2.2.1
 let s13:=d.2.2.2.1
 let s15:=d.2.2.2.2.1
 let s16:=d.2.2.2.2.2.1
 let s17:=d.2.2.2.2.2.2.1
 if (decide (s17<s16))=true then
  if (idxIn s17 (List.length s15))=true then
  if (decide ((List.length (at_ K_Si s15 s17.toNat):Int)>(0:Int)))=true then
   let x39:=IntKind.wrap .i64 ((List.length (at_ K_Si s15 s17.toNat):Int)-(1:Int))
   if (idxIn x39 (List.length (at_ K_Si s15 s17.toNat)))=true then
   (q47q_l4 N N ((s0,(s6,(at_ K_Si s15 s17.toNat,(at_ I (at_ K_Si s15 s17.toNat) x39.toNat,(s12,(s13,(s15,(s16,(s17,()))))))))))).bind fun o42=>match o42 with
   | .inl d43=>
    let x44:=IntKind.wrap .i64 (d43.2.2.2.2.2.2.1+(1:Int))
    back ((d43.1,(d43.2.1,(d43.2.2.1,(d43.2.2.2.1,(d43.2.2.2.2.1,(d43.2.2.2.2.2.1,(x44,()))))))))
   else none
  else
   (q47q_l4 N N ((s0,(s6,(at_ K_Si s15 s17.toNat,((0:Int),(s12,(s13,(s15,(s16,(s17,()))))))))))).bind fun o45=>match o45 with
   | .inl d46=>
    let x47:=IntKind.wrap .i64 (d46.2.2.2.2.2.2.1+(1:Int))
    back ((d46.1,(d46.2.1,(d46.2.2.1,(d46.2.2.2.1,(d46.2.2.2.2.1,(d46.2.2.2.2.2.1,(x47,()))))))))
  else none
 else
  some (.inl ((s0,(s6,(s12,(s13,()))))))
noncomputable def q47q_l2 (N:Nat):Nat->q47q_l2_H->Option q47q_l2_O
 | 0,_=>none
 | k+1,d=>q47q_l2_r N (q47q_l2 N k) d
abbrev q47q_l0_H:=Int×List (List Int)×Int×Int×Unit
abbrev q47q_l0_O:=(List (List Int)×Unit)⊕Empty
def q47q_l0_h:Form:=[(0,.v I),(5,.own K_SSi 99),(12,.v I),(13,.v I)]
def q47q_l0_o:Outs:=[(.normal,[(5,.own K_SSi 99)])]
noncomputable def q47q_l0_r (N:Nat) (back:q47q_l0_H->Option q47q_l0_O) (d:q47q_l0_H):Option q47q_l0_O:=
 let s0:=d.1
 let s5:=d.2.1
 let s12:=d.2.2.1
 let s13:=d.2.2.2.1
 if (decide (s13<s12))=true then
  (q47q_l2 N N ((s0,(([]:List (List Int)),(s12,(s13,(s5,((List.length s5:Int),((0:Int),()))))))))).bind fun o36=>match o36 with
  | .inl d37=>
   let x38:=IntKind.wrap .i64 (d37.2.2.2.1+(1:Int))
   back ((d37.1,(d37.2.1,(d37.2.2.1,(x38,())))))
 else
  some (.inl (s5,()))
noncomputable def q47q_l0 (N:Nat):Nat->q47q_l0_H->Option q47q_l0_O
 | 0,_=>none
 | k+1,d=>q47q_l0_r N (q47q_l0 N k) d
noncomputable def F_q47q (N:Nat) (d:Int×Int×Unit):Option (List (List Int)×Unit):=
 let a0:=d.1
 let a1:=d.2.1
 (q47q_l0 N N ((a0,([([]:List Int)],(a1,((0:Int),())))))).bind fun o25=>match o25 with
 | .inl d26=>
  some (d26.1,())
noncomputable def S_q47q:FSig:=⟨[(I,false),(I,false)],[K_SSi],true,(G_configs)⟩
noncomputable def Γ_q34q:Ctx:={ tk:=assoc tks,ar:=assoc ars,fs:=assoc [] }
noncomputable def F_q34q (N:Nat) (d:(List Int×Unit)×Int×Unit):Option (Int×Unit):=
 let a0:=d.1
 let a1:=d.2.1
 if (idxIn a1 (List.length a0.1))=true then
 if (decide (0<=a1))=true then
 let x1:=bits .or .i64 (at_ I a0.1 a1.toNat) (shl .i64 (1:Int) a1)
 some (x1,())
 else none
 else none
noncomputable def S_q34q:FSig:=⟨[(K_PSiq,false),(I,false)],[I],true,(F_q34q 0)⟩
noncomputable def Γ_impl_setOf:Ctx:={ tk:=assoc tks,ar:=assoc ars,fs:=assoc [] }
abbrev impl_setOf_l0_H:=Int×List Int×Int×Unit
abbrev impl_setOf_l0_O:=(List Int×Unit)⊕Empty
def impl_setOf_l0_h:Form:=[(0,.v I),(3,.own K_Si 99),(4,.v I)]
def impl_setOf_l0_o:Outs:=[(.normal,[(3,.own K_Si 99)])]
noncomputable def impl_setOf_l0_r (N:Nat) (back:impl_setOf_l0_H->Option impl_setOf_l0_O) (d:impl_setOf_l0_H):Option impl_setOf_l0_O:=
 let s0:=d.1
 let s3:=d.2.1
 let s4:=d.2.2.1
 if (decide (0<=s4))=true then
 if (shr .i64 s0 s4 != (0:Int))=true then
  if (decide (0<=s4))=true then
  let x6:=bits .and .i64 (shr .i64 s0 s4) (1:Int)
  if (x6==(1:Int))=true then
   if (decide (List.length s3+List.length ([s4])<=lim))=true then
   let x7:=IntKind.wrap .i64 (s4+(1:Int))
   back ((s0,(s3++([s4]),(x7,()))))
   else none
  else
   let x8:=IntKind.wrap .i64 (s4+(1:Int))
   back ((s0,(s3,(x8,()))))
  else none
 else
  some (.inl (s3,()))
 else none
noncomputable def impl_setOf_l0 (N:Nat):Nat->impl_setOf_l0_H->Option impl_setOf_l0_O
 | 0,_=>none
 | k+1,d=>impl_setOf_l0_r N (impl_setOf_l0 N k) d
noncomputable def F_impl_setOf (N:Nat) (d:Int×Unit):Option (List Int×Unit):=
 let a0:=d.1
 (impl_setOf_l0 N N ((a0,(([]:List Int),((0:Int),()))))).bind fun o4=>match o4 with
 | .inl d5=>
  some (d5.1,())
noncomputable def S_impl_setOf:FSig:=⟨[(I,false)],[K_Si],true,(G_setOf)⟩
def S_q12q:FSig:=⟨[(K_Si,true)],[],true,G_sortI⟩
def S_q2q:FSig:=⟨[(K_SSi,true),(K_F_q7q_qq,false)],[],true,G_sortF⟩
def S_q1q:FSig:=⟨[(K_SSi,true),(K_F_slices_Equal_Sint_int_qq,false)],[K_SSi],true,G_compactF⟩
noncomputable def Γ_q24q:Ctx:={ tk:=assoc tks,ar:=assoc ars,fs:=assoc [(91,S_impl_setOf),(114,S_q11q),(148,S_q34q),(176,S_q12q),(177,S_q2q)],dm:=fun t=>Nat.beq t 10||Nat.beq t 22,cs:=assoc [],gs:=assoc [(178,(S_q1q,{ gone:=[0],deep:=[] }))],eqt:=inL [],md:=md0 }
abbrev q24q_l4_H:=(List Int×Unit)×Int×List (List Int)×List Int×List Int×Int×Int×List (List Int)×Int×Int×List Int×Int×Int×Unit
abbrev q24q_l4_O:=((List Int×Unit)×Int×List (List Int)×List Int×Int×Int×List (List Int)×Int×Int×Unit)⊕Empty
def q24q_l4_h:Form:=[(2,.box K_PSiq 0),(7,.v I),(8,.own K_SSi 99),(10,.v K_Si),(16,.v K_Si),(17,.v I),(18,.v I),(22,.v K_SSi),(23,.v I),(24,.v I),(31,.own K_Si 99),(32,.v I),(33,.v I)]
def q24q_l4_o:Outs:=[(.normal,[(2,.box K_PSiq 0),(7,.v I),(8,.own K_SSi 99),(16,.v K_Si),(17,.v I),(18,.v I),(22,.v K_SSi),(23,.v I),(24,.v I)])]
noncomputable def q24q_l4_r (N:Nat) (back:q24q_l4_H->Option q24q_l4_O) (d:q24q_l4_H):Option q24q_l4_O:=
 let s2:=d.1
 let s7:=d.2.1
 let s8:=d.2.2.1
 let s10:=d.2.2.2.1
 let s16:=d.2.2.2.2.1
 let s17:=d.2.2.2.2.2.1
 let s18:=d.2.2.2.2.2.2.1
 let s22:=d.2.2.2.2.2.2.2.1
 let s23:=d.2.2.2.2.2.2.2.2.1
 let s24:=d.2.2.2.2.2.2.2.2.2.1
 let s31:=d.2.2.2.2.2.2.2.2.2.2.1
 let s32:=d.2.2.2.2.2.2.2.2.2.2.2.1
 let s33:=d.2.2.2.2.2.2.2.2.2.2.2.2.1
 if (decide (s33<s32))=true then
  if (idxIn s33 (List.length s31))=true then
  (G_toIntS (s10,())).bind fun r50=>
  if (decide (List.length r50.1+List.length ([at_ I s31 s33.toNat])<=lim))=true then
  let x51:=r50.1++([at_ I s31 s33.toNat])
  if (decide (List.length s8+List.length ([x51])<=lim))=true then
  let x52:=IntKind.wrap .i64 (s33+(1:Int))
  back ((s2,(s7,(s8++([x51]),(s10,(s16,(s17,(s18,(s22,(s23,(s24,(s31,(s32,(x52,()))))))))))))))
  else none
  else none
  else none
 else
  some (.inl ((s2,(s7,(s8,(s16,(s17,(s18,(s22,(s23,(s24,())))))))))))
noncomputable def q24q_l4 (N:Nat):Nat->q24q_l4_H->Option q24q_l4_O
 | 0,_=>none
 | k+1,d=>q24q_l4_r N (q24q_l4 N k) d
abbrev q24q_l2_H:=(List Int×Unit)×Int×List (List Int)×List Int×Int×Int×List (List Int)×Int×Int×Unit
abbrev q24q_l2_O:=((List Int×Unit)×List (List Int)×List Int×Int×Int×Unit)⊕Empty
def q24q_l2_h:Form:=[(2,.box K_PSiq 0),(7,.v I),(8,.own K_SSi 99),(16,.v K_Si),(17,.v I),(18,.v I),(22,.v K_SSi),(23,.v I),(24,.v I)]
def q24q_l2_o:Outs:=[(.normal,[(2,.box K_PSiq 0),(8,.own K_SSi 99),(16,.v K_Si),(17,.v I),(18,.v I)])]
noncomputable def q24q_l2_r (N:Nat) (back:q24q_l2_H->Option q24q_l2_O) (d:q24q_l2_H):Option q24q_l2_O:=
 let s2:=d.1
 let s7:=d.2.1
 let s8:=d.2.2.1
 let s16:=d.2.2.2.1
 let s17:=d.2.2.2.2.1
 let s18:=d.2.2.2.2.2.1
 let s22:=d.2.2.2.2.2.2.1
 let s23:=d.2.2.2.2.2.2.2.1
 let s24:=d.2.2.2.2.2.2.2.2.1
 if (decide (s24<s23))=true then
  if (idxIn s24 (List.length s22))=true then
  ((F_q34q 0) ((s2,(s7,())))).bind fun r42=>
  (G_setOf (r42.1,())).bind fun r43=>
  (q24q_l4 N N ((s2,(s7,(s8,(at_ K_Si s22 s24.toNat,(s16,(s17,(s18,(s22,(s23,(s24,(r43.1,((List.length r43.1:Int),((0:Int),()))))))))))))))).bind fun o47=>match o47 with
  | .inl d48=>
   let x49:=IntKind.wrap .i64 (d48.2.2.2.2.2.2.2.2.1+(1:Int))
   back ((d48.1,(d48.2.1,(d48.2.2.1,(d48.2.2.2.1,(d48.2.2.2.2.1,(d48.2.2.2.2.2.1,(d48.2.2.2.2.2.2.1,(d48.2.2.2.2.2.2.2.1,(x49,()))))))))))
  else none
 else
  some (.inl ((s2,(s8,(s16,(s17,(s18,())))))))
noncomputable def q24q_l2 (N:Nat):Nat->q24q_l2_H->Option q24q_l2_O
 | 0,_=>none
 | k+1,d=>q24q_l2_r N (q24q_l2 N k) d
abbrev q24q_l0_H:=(List Int×Unit)×List (List Int)×List Int×Int×Int×Unit
abbrev q24q_l0_O:=(List (List Int)×Unit)⊕Empty
def q24q_l0_h:Form:=[(2,.box K_PSiq 0),(5,.own K_SSi 99),(16,.v K_Si),(17,.v I),(18,.v I)]
def q24q_l0_o:Outs:=[(.normal,[(5,.own K_SSi 99)])]
noncomputable def q24q_l0_r (N:Nat) (back:q24q_l0_H->Option q24q_l0_O) (d:q24q_l0_H):Option q24q_l0_O:=
 let s2:=d.1
 let s5:=d.2.1
 let s16:=d.2.2.1
 let s17:=d.2.2.2.1
 let s18:=d.2.2.2.2.1
 if (decide (s18<s17))=true then
  if (idxIn s18 (List.length s16))=true then
  (q24q_l2 N N ((s2,(at_ I s16 s18.toNat,(([]:List (List Int)),(s16,(s17,(s18,(s5,((List.length s5:Int),((0:Int),()))))))))))).bind fun o39=>match o39 with
  | .inl d40=>
   let x41:=IntKind.wrap .i64 (d40.2.2.2.2.1+(1:Int))
   back ((d40.1,(d40.2.1,(d40.2.2.1,(d40.2.2.2.1,(x41,()))))))
  else none
 else
  some (.inl (s5,()))
noncomputable def q24q_l0 (N:Nat):Nat->q24q_l0_H->Option q24q_l0_O
 | 0,_=>none
 | k+1,d=>q24q_l0_r N (q24q_l0 N k) d
abbrev q24q_l6_H:=List (List Int)×Unit×Int×Int×Unit
abbrev q24q_l6_O:=(List (List Int)×Unit)⊕Empty
def q24q_l6_h:Form:=[(5,.own K_SSi 99),(49,.same 5 []),(50,.v I),(51,.v I)]
def q24q_l6_o:Outs:=[(.normal,[(5,.own K_SSi 99)])]
noncomputable def q24q_l6_r (N:Nat) (back:q24q_l6_H->Option q24q_l6_O) (d:q24q_l6_H):Option q24q_l6_O:=
 let s5:=d.1
 let s49:=d.2.1
 let s50:=d.2.2.1
 let s51:=d.2.2.2.1
 if (decide (s51<s50))=true then
  if (idxIn s51 (List.length s5))=true then
  (G_sortI (at_ K_Si s5 s51.toNat,())).bind fun r53=>
  let x54:=IntKind.wrap .i64 (s51+(1:Int))
  back ((List.set s5 s51.toNat r53.1,((),(s50,(x54,())))))
  else none
 else
  some (.inl (s5,()))
noncomputable def q24q_l6 (N:Nat):Nat->q24q_l6_H->Option q24q_l6_O
 | 0,_=>none
 | k+1,d=>q24q_l6_r N (q24q_l6 N k) d
noncomputable def F_q24q (N:Nat) (d:(List Int×Unit)×List Int×Unit):Option (List (List Int)×Unit):=
 let a0:=d.1
 let a1:=d.2.1
 (q24q_l0 N N ((a0,([([]:List Int)],(a1,((List.length a1:Int),((0:Int),()))))))).bind fun o23=>match o23 with
 | .inl d24=>
  (q24q_l6 N N ((d24.1,((),((List.length d24.1:Int),((0:Int),())))))).bind fun o27=>match o27 with
  | .inl d28=>
   (G_sortF ((d28.1,(((),()),())))).bind fun r29=>
   (G_compactF ((r29.1,(((),()),())))).bind fun r30=>
   some (r30.1,())
noncomputable def S_q24q:FSig:=⟨[(K_PSiq,false),(K_Si,false)],[K_SSi],true,(G_copMoves)⟩
noncomputable def FV_q7q (d:List Int×List Int×(Unit×Unit)×Unit):Option (Int×Unit):=G_compare (d.1,d.2.1,d.2.2.1.2)
noncomputable def SV_q7q:FSig:=⟨[(K_Si,false),(K_Si,false),(K_F_q7q_qq,false)],[I],true,FV_q7q⟩
noncomputable def Γ_q0q:Ctx:={ tk:=assoc tks,ar:=assoc ars,fs:=assoc [],cs:=assoc [(68,SV_q7q)] }
abbrev q0q_l0_H:=List (List Int)×List Int×(Unit×Unit)×Int×Int×Int×Unit
abbrev q0q_l0_O:=(List (List Int)×List Int×(Unit×Unit)×Int×Int×Unit)⊕Empty
def q0q_l0_h:Form:=[(0,.v K_SSi),(1,.v K_Si),(2,.v K_F_q7q_qq),(8,.v I),(9,.v I),(10,.v I)]
def q0q_l0_o:Outs:=[(.normal,[(0,.v K_SSi),(1,.v K_Si),(2,.v K_F_q7q_qq),(8,.v I),(9,.v I)])]
noncomputable def q0q_l0_r (N:Nat) (back:q0q_l0_H->Option q0q_l0_O) (d:q0q_l0_H):Option q0q_l0_O:=
 let s0:=d.1
 let s1:=d.2.1
 let s2:=d.2.2.1
 let s8:=d.2.2.2.1
 let s9:=d.2.2.2.2.1
 let s10:=d.2.2.2.2.2.1
 if (decide (s9<s10))=true then
  let x8:=IntKind.wrap .u64 (IntKind.wrap .i64 (s9+s10))
  if (decide (0<=(1:Int)))=true then
  let x9:=IntKind.wrap .i64 (shr .u64 x8 (1:Int))
  if (idxIn x9 (List.length s0))=true then
  (FV_q7q ((at_ K_Si s0 x9.toNat,(s1,(s2,()))))).bind fun r10=>
  if (decide (r10.1<(0:Int)))=true then
   let x11:=IntKind.wrap .i64 (x9+(1:Int))
   back ((s0,(s1,(s2,(s8,(x11,(s10,())))))))
  else
   back ((s0,(s1,(s2,(s8,(s9,(x9,())))))))
  else none
  else none
 else
  some (.inl ((s0,(s1,(s2,(s8,(s9,())))))))
noncomputable def q0q_l0 (N:Nat):Nat->q0q_l0_H->Option q0q_l0_O
 | 0,_=>none
 | k+1,d=>q0q_l0_r N (q0q_l0 N k) d
noncomputable def F_q0q (N:Nat) (d:List (List Int)×List Int×(Unit×Unit)×Unit):Option (Int×Bool×Unit):=
 let a0:=d.1
 let a1:=d.2.1
 let a2:=d.2.2.1
 (q0q_l0 N N ((a0,(a1,(a2,((List.length a0:Int),((0:Int),((List.length a0:Int),())))))))).bind fun o5=>match o5 with
 | .inl d6=>
  if (decide (d6.2.2.2.2.1<d6.2.2.2.1))=true then
   if (idxIn d6.2.2.2.2.1 (List.length d6.1))=true then
   (FV_q7q ((at_ K_Si d6.1 d6.2.2.2.2.1.toNat,(d6.2.1,(d6.2.2.1,()))))).bind fun r7=>
   some ((d6.2.2.2.2.1,(r7.1==(0:Int),())))
   else none
  else
   some ((d6.2.2.2.2.1,(false,())))
noncomputable def S_q0q:FSig:=⟨[(K_SSi,false),(K_Si,false),(K_F_q7q_qq,false)],[I,.bool],true,(G_bin)⟩
noncomputable def Γ_q19q:Ctx:={ tk:=assoc tks,ar:=assoc ars,fs:=assoc [(184,S_q0q)] }
noncomputable def F_q19q (N:Nat) (d:((List Int×Unit)×List (List Int)×List (List Int)×List (List Int)×Unit)×List Int×Unit):Option (Int×Unit):=
 let a0:=d.1
 let a1:=d.2.1
 (G_bin ((a0.2.1,(a1,(((),()),()))))).bind fun r1=>
 some (r1.1,())
noncomputable def S_q19q:FSig:=⟨[(K_BPPZiqZSiSSiSSiq,false),(K_Si,false)],[I],true,(F_q19q 0)⟩
noncomputable def Γ_q23q:Ctx:={ tk:=assoc tks,ar:=assoc ars,fs:=assoc [(125,S_q54q),(142,S_q24q),(160,S_q47q),(161,S_q19q)] }
abbrev q23q_l2_H:=(List Int×Unit)×((List Int×Unit)×List (List Int)×List (List Int)×List (List Int)×Unit)×List Int×List (List Int)×Int×Int×List (List Int)×Int×Int×Unit
abbrev q23q_l2_O:=((List Int×Unit)×((List Int×Unit)×List (List Int)×List (List Int)×List (List Int)×Unit)×List Int×List (List Int)×Int×Int×Unit)⊕Empty
def q23q_l2_h:Form:=[(2,.box K_PSiq 0),(5,.box K_PPZiqZSiSSiSSiq 99),(8,.own K_Si 99),(21,.v K_SSi),(22,.v I),(23,.v I),(29,.own K_SSi 99),(30,.v I),(31,.v I)]
def q23q_l2_o:Outs:=[(.normal,[(2,.box K_PSiq 0),(5,.box K_PPZiqZSiSSiSSiq 99),(8,.own K_Si 99),(21,.v K_SSi),(22,.v I),(23,.v I)])]
noncomputable def q23q_l2_r (N:Nat) (back:q23q_l2_H->Option q23q_l2_O) (d:q23q_l2_H):Option q23q_l2_O:=
 let s2:=d.1
 let s5:=d.2.1
 let s8:=d.2.2.1
 let s21:=d.2.2.2.1
 let s22:=d.2.2.2.2.1
 let s23:=d.2.2.2.2.2.1
 let s29:=d.2.2.2.2.2.2.1
 let s30:=d.2.2.2.2.2.2.2.1
 let s31:=d.2.2.2.2.2.2.2.2.1
 if (decide (s31<s30))=true then
  if (idxIn s31 (List.length s29))=true then
  ((F_q19q 0) ((s5,(at_ K_Si s29 s31.toNat,())))).bind fun r18=>
  if (decide (List.length s8+List.length ([r18.1])<=lim))=true then
  let x19:=IntKind.wrap .i64 (s31+(1:Int))
  back ((s2,(s5,(s8++([r18.1]),(s21,(s22,(s23,(s29,(s30,(x19,()))))))))))
  else none
  else none
 else
  some (.inl ((s2,(s5,(s8,(s21,(s22,(s23,()))))))))
noncomputable def q23q_l2 (N:Nat):Nat->q23q_l2_H->Option q23q_l2_O
 | 0,_=>none
 | k+1,d=>q23q_l2_r N (q23q_l2 N k) d
abbrev q23q_l0_H:=(List Int×Unit)×((List Int×Unit)×List (List Int)×List (List Int)×List (List Int)×Unit)×List (List Int)×Int×Int×Unit
abbrev q23q_l0_O:=(((List Int×Unit)×List (List Int)×List (List Int)×List (List Int)×Unit)×Unit)⊕Empty
def q23q_l0_h:Form:=[(2,.box K_PSiq 0),(5,.box K_PPZiqZSiSSiSSiq 99),(21,.v K_SSi),(22,.v I),(23,.v I)]
def q23q_l0_o:Outs:=[(.normal,[(5,.box K_PPZiqZSiSSiSSiq 99)])]
noncomputable def q23q_l0_r (N:Nat) (back:q23q_l0_H->Option q23q_l0_O) (d:q23q_l0_H):Option q23q_l0_O:=
 let s2:=d.1
 let s5:=d.2.1
 let s21:=d.2.2.1
 let s22:=d.2.2.2.1
 let s23:=d.2.2.2.2.1
 if (decide (s23<s22))=true then
  if (idxIn s23 (List.length s21))=true then
  (G_copMoves ((s2,(at_ K_Si s21 s23.toNat,())))).bind fun r11=>
  (q23q_l2 N N ((s2,(s5,(([]:List Int),(s21,(s22,(s23,(r11.1,((List.length r11.1:Int),((0:Int),()))))))))))).bind fun o14=>match o14 with
  | .inl d15=>
   if (decide (List.length d15.2.1.2.2.1+List.length ([d15.2.2.1])<=lim))=true then
   let x16:=d15.2.1.2.2.1++([d15.2.2.1])
   let x17:=IntKind.wrap .i64 (d15.2.2.2.2.2.1+(1:Int))
   back ((d15.1,((d15.2.1.1,(d15.2.1.2.1,(x16,d15.2.1.2.2.2))),(d15.2.2.2.1,(d15.2.2.2.2.1,(x17,()))))))
   else none
  else none
 else
  some (.inl (s5,()))
noncomputable def q23q_l0 (N:Nat):Nat->q23q_l0_H->Option q23q_l0_O
 | 0,_=>none
 | k+1,d=>q23q_l0_r N (q23q_l0 N k) d
noncomputable def F_q23q (N:Nat) (d:(List Int×Unit)×Int×Unit):Option (((List Int×Unit)×List (List Int)×List (List Int)×List (List Int)×Unit)×Unit):=
 let a0:=d.1
 let a1:=d.2.1
 let r1:=g_q54q (a0,())
 (G_configs ((r1.1,(a1,())))).bind fun r2=>
 (q23q_l0 N N ((a0,((a0,(r2.1,(([]:List (List Int)),(([]:List (List Int)),())))),(r2.1,((List.length r2.1:Int),((0:Int),()))))))).bind fun o9=>match o9 with
 | .inl d10=>
  some (d10.1,())
noncomputable def S_q23q:FSig:=⟨[(K_PSiq,false),(I,false)],[K_BPPZiqZSiSSiSSiq],true,(G_copBoard)⟩
def S_q8q:FSig:=⟨[(K_Si,false),(I,false)],[K_Si],true,G_repeat⟩
noncomputable def Γ_q10q:Ctx:={ tk:=assoc tks,ar:=assoc ars,fs:=assoc [] }
abbrev q10q_l0_H:=List Int×Int×Int×Int×Unit
abbrev q10q_l0_O:=(Int×Unit)⊕Unit⊕Empty
def q10q_l0_h:Form:=[(0,.v K_Si),(1,.v I),(7,.v I),(8,.v I)]
def q10q_l0_o:Outs:=[(.ret,[(4,.v I)]),(.normal,[])]
noncomputable def q10q_l0_r (N:Nat) (back:q10q_l0_H->Option q10q_l0_O) (d:q10q_l0_H):Option q10q_l0_O:=
 let s0:=d.1
 let s1:=d.2.1
 let s7:=d.2.2.1
 let s8:=d.2.2.2.1
 if (decide (s8<s7))=true then
  if (idxIn s8 (List.length s0))=true then
  if (s1==at_ I s0 s8.toNat)=true then
   some (.inl (s8,()))
  else
   let x5:=IntKind.wrap .i64 (s8+(1:Int))
   back ((s0,(s1,(s7,(x5,())))))
  else none
 else
  some (.inr (.inl ()))
noncomputable def q10q_l0 (N:Nat):Nat->q10q_l0_H->Option q10q_l0_O
 | 0,_=>none
 | k+1,d=>q10q_l0_r N (q10q_l0 N k) d
noncomputable def F_q10q (N:Nat) (d:List Int×Int×Unit):Option (Int×Unit):=
 let a0:=d.1
 let a1:=d.2.1
 (q10q_l0 N N ((a0,(a1,((List.length a0:Int),((0:Int),())))))).bind fun o2=>match o2 with
 | .inl d3=>
  some (d3.1,())
 | .inr (.inl d4)=>
  some ((-1:Int),())
noncomputable def S_q10q:FSig:=⟨[(K_Si,false),(I,false)],[I],true,(G_index)⟩
noncomputable def Γ_q6q:Ctx:={ tk:=assoc tks,ar:=assoc ars,fs:=assoc [(158,S_q10q)] }
noncomputable def F_q6q (N:Nat) (d:List Int×Int×Unit):Option (Bool×Unit):=
 let a0:=d.1
 let a1:=d.2.1
 (G_index ((a0,(a1,())))).bind fun r1=>
 some ((decide (r1.1>=(0:Int)),()))
noncomputable def S_q6q:FSig:=⟨[(K_Si,false),(I,false)],[.bool],true,(F_q6q 0)⟩
noncomputable def Γ_q21q:Ctx:={ tk:=assoc tks,ar:=assoc ars,fs:=assoc [(91,S_impl_setOf),(148,S_q34q)] }
abbrev q21q_l0_H:=List Int×Int×List Int×Int×Int×Unit
abbrev q21q_l0_O:=(Int×Unit)⊕(Int×Unit)⊕Empty
def q21q_l0_h:Form:=[(1,.v K_Si),(7,.v I),(13,.own K_Si 99),(14,.v I),(15,.v I)]
def q21q_l0_o:Outs:=[(.ret,[(6,.v I)]),(.normal,[(7,.v I)])]
noncomputable def q21q_l0_r (N:Nat) (back:q21q_l0_H->Option q21q_l0_O) (d:q21q_l0_H):Option q21q_l0_O:=
 let s1:=d.1
 let s7:=d.2.1
 let s13:=d.2.2.1
 let s14:=d.2.2.2.1
 let s15:=d.2.2.2.2.1
 if (decide (s15<s14))=true then
  if (idxIn s15 (List.length s13))=true then
  if (idxIn (at_ I s13 s15.toNat) (List.length s1))=true then
  if (decide (at_ I s1 (at_ I s13 s15.toNat).toNat<(0:Int)))=true then
   some (.inl ((-1:Int),()))
  else
   if (idxIn (at_ I s13 s15.toNat) (List.length s1))=true then
   let x8:=if s7<at_ I s1 (at_ I s13 s15.toNat).toNat then at_ I s1 (at_ I s13 s15.toNat).toNat else s7
   let x9:=IntKind.wrap .i64 (s15+(1:Int))
   back ((s1,(x8,(s13,(s14,(x9,()))))))
   else none
  else none
  else none
 else
  some (.inr (.inl (s7,())))
noncomputable def q21q_l0 (N:Nat):Nat->q21q_l0_H->Option q21q_l0_O
 | 0,_=>none
 | k+1,d=>q21q_l0_r N (q21q_l0 N k) d
noncomputable def F_q21q (N:Nat) (d:(List Int×Unit)×List Int×Int×Unit):Option (Int×Unit):=
 let a0:=d.1
 let a1:=d.2.1
 let a2:=d.2.2.1
 ((F_q34q 0) ((a0,(a2,())))).bind fun r1=>
 (G_setOf (r1.1,())).bind fun r2=>
 (q21q_l0 N N ((a1,((0:Int),(r2.1,((List.length r2.1:Int),((0:Int),()))))))).bind fun o5=>match o5 with
 | .inl d6=>
  some (d6.1,())
 | .inr (.inl d7)=>
  some (d7.1,())
noncomputable def S_q21q:FSig:=⟨[(K_PSiq,false),(K_Si,false),(I,false)],[I],true,(G_timeAfter)⟩
noncomputable def Γ_q16q:Ctx:={ tk:=assoc tks,ar:=assoc ars,fs:=assoc [(103,S_q6q),(165,S_q21q)],cs:=assoc [],w1:=inL [76] }
noncomputable def F_q16q (N:Nat) (d:Int×((List Int×Unit)×List (List Int)×List (List Int)×List (List Int)×Unit)×Int×Unit):Option (Bool×Unit):=
 let a0:=d.1
 let a1:=d.2.1
 let a2:=d.2.2.1
 if (idxIn a0 (List.length a1.2.1))=true then
 ((F_q6q 0) ((at_ K_Si a1.2.1 a0.toNat,(a2,())))).bind fun r1=>
 if (r1.1)=true then
  some (true,())
 else
  if (idxIn a0 (List.length a1.2.2.2.1))=true then
  (G_timeAfter ((a1.1,(at_ K_Si a1.2.2.2.1 a0.toNat,(a2,()))))).bind fun r2=>
  some ((decide (r2.1>=(0:Int)),()))
  else none
 else none
noncomputable def S_q16q:FSig:=⟨[(I,false),(K_BBPPZiqZSiSSiSSiq,false),(K_Bi,false)],[.bool],true,(F_q16q 0)⟩
noncomputable def FV_q16q (d:Int×(Unit×((List Int×Unit)×List (List Int)×List (List Int)×List (List Int)×Unit)×Int×Unit)×Unit):Option (Bool×Unit):=(F_q16q 0) (d.1,d.2.1.2)
noncomputable def SV_q16q:FSig:=⟨[(I,false),(K_F_q16q_qPBBPPZiqZSiSSiSSiqBiq,false)],[.bool],true,FV_q16q⟩
noncomputable def Γ_q4q:Ctx:={ tk:=assoc tks,ar:=assoc ars,fs:=assoc [],cs:=assoc [(164,SV_q16q)] }
abbrev q4q_l0_H:=List Int×(Unit×((List Int×Unit)×List (List Int)×List (List Int)×List (List Int)×Unit)×Int×Unit)×Int×Int×Unit
abbrev q4q_l0_O:=(Int×Unit)⊕Unit⊕Empty
def q4q_l0_h:Form:=[(0,.v K_Si),(1,.v K_F_q16q_qPBBPPZiqZSiSSiSSiqBiq),(7,.v I),(8,.v I)]
def q4q_l0_o:Outs:=[(.ret,[(4,.v I)]),(.normal,[])]
noncomputable def q4q_l0_r (N:Nat) (back:q4q_l0_H->Option q4q_l0_O) (d:q4q_l0_H):Option q4q_l0_O:=
 let s0:=d.1
 let s1:=d.2.1
 let s7:=d.2.2.1
 let s8:=d.2.2.2.1
 if (decide (s8<s7))=true then
  if (idxIn s8 (List.length s0))=true then
  (FV_q16q ((at_ I s0 s8.toNat,(s1,())))).bind fun r6=>
  if (r6.1)=true then
   some (.inl (s8,()))
  else
   let x7:=IntKind.wrap .i64 (s8+(1:Int))
   back ((s0,(s1,(s7,(x7,())))))
  else none
 else
  some (.inr (.inl ()))
noncomputable def q4q_l0 (N:Nat):Nat->q4q_l0_H->Option q4q_l0_O
 | 0,_=>none
 | k+1,d=>q4q_l0_r N (q4q_l0 N k) d
noncomputable def F_q4q (N:Nat) (d:List Int×(Unit×((List Int×Unit)×List (List Int)×List (List Int)×List (List Int)×Unit)×Int×Unit)×Unit):Option (Int×Unit):=
 let a0:=d.1
 let a1:=d.2.1
 (q4q_l0 N N ((a0,(a1,((List.length a0:Int),((0:Int),())))))).bind fun o3=>match o3 with
 | .inl d4=>
  some (d4.1,())
 | .inr (.inl d5)=>
  some ((-1:Int),())
noncomputable def S_q4q:FSig:=⟨[(K_Si,false),(K_F_q16q_qPBBPPZiqZSiSSiSSiqBiq,false)],[I],true,(G_gameCan)⟩
noncomputable def Γ_q3q:Ctx:={ tk:=assoc tks,ar:=assoc ars,fs:=assoc [(180,S_q4q)] }
noncomputable def F_q3q (N:Nat) (d:List Int×(Unit×((List Int×Unit)×List (List Int)×List (List Int)×List (List Int)×Unit)×Int×Unit)×Unit):Option (Bool×Unit):=
 let a0:=d.1
 let a1:=d.2.1
 (G_gameCan ((a0,(a1,())))).bind fun r1=>
 some ((decide (r1.1>=(0:Int)),()))
noncomputable def S_q3q:FSig:=⟨[(K_Si,false),(K_F_q16q_qPBBPPZiqZSiSSiSSiqBiq,false)],[.bool],true,(F_q3q 0)⟩
noncomputable def Γ_q32q:Ctx:={ tk:=assoc tks,ar:=assoc ars,fs:=assoc [(163,S_q3q)],cs:=assoc [],w1:=inL [76],fz:=fun t=>Nat.beq t 3||Nat.beq t 5 }
noncomputable def F_q32q (N:Nat) (d:((List Int×Unit)×List (List Int)×List (List Int)×List (List Int)×Unit)×Int×Int×Unit):Option (Bool×Unit):=
 let a0:=d.1
 let a1:=d.2.1
 let a2:=d.2.2.1
 if (idxIn a1 (List.length a0.2.2.1))=true then
 ((F_q3q 0) ((at_ K_Si a0.2.2.1 a1.toNat,(((),(a0,(a2,()))),())))).bind fun r1=>
 some (r1.1,())
 else none
noncomputable def S_q32q:FSig:=⟨[(K_BPPZiqZSiSSiSSiq,false),(I,false),(I,false)],[.bool],true,(F_q32q 0)⟩
noncomputable def Γ_q26q:Ctx:={ tk:=assoc tks,ar:=assoc ars,fs:=assoc [(124,S_q8q),(125,S_q54q),(126,S_q32q)],cs:=assoc [],gs:=assoc [(110,(S_q23q,md0))],eqt:=inL [],md:=md0 }
abbrev q26q_l2_H:=(List Int×Unit)×((List Int×Unit)×List (List Int)×List (List Int)×List (List Int)×Unit)×List Int×List (List Int)×Int×Int×List Int×Int×Int×Unit
abbrev q26q_l2_O:=((List Int×Unit)×((List Int×Unit)×List (List Int)×List (List Int)×List (List Int)×Unit)×List Int×List (List Int)×Int×Int×Unit)⊕Empty
def q26q_l2_h:Form:=[(2,.box K_PSiq 0),(5,.box K_PPZiqZSiSSiSSiq 99),(8,.own K_Si 99),(26,.v K_SSi),(27,.v I),(28,.v I),(36,.v K_Si),(37,.v I),(38,.v I)]
def q26q_l2_o:Outs:=[(.normal,[(2,.box K_PSiq 0),(5,.box K_PPZiqZSiSSiSSiq 99),(8,.own K_Si 99),(26,.v K_SSi),(27,.v I),(28,.v I)])]
noncomputable def q26q_l2_r (N:Nat) (back:q26q_l2_H->Option q26q_l2_O) (d:q26q_l2_H):Option q26q_l2_O:=
 let s2:=d.1
 let s5:=d.2.1
 let s8:=d.2.2.1
 let s26:=d.2.2.2.1
 let s27:=d.2.2.2.2.1
 let s28:=d.2.2.2.2.2.1
 let s36:=d.2.2.2.2.2.2.1
 let s37:=d.2.2.2.2.2.2.2.1
 let s38:=d.2.2.2.2.2.2.2.2.1
 if (decide (s38<s37))=true then
  if (idxIn s38 (List.length s36))=true then
  if (idxIn (at_ I s36 s38.toNat) (List.length s8))=true then
  let x35:=List.set s8 (at_ I s36 s38.toNat).toNat (0:Int)
  let x36:=IntKind.wrap .i64 (s38+(1:Int))
  back ((s2,(s5,(x35,(s26,(s27,(s28,(s36,(s37,(x36,()))))))))))
  else none
  else none
 else
  some (.inl ((s2,(s5,(s8,(s26,(s27,(s28,()))))))))
noncomputable def q26q_l2 (N:Nat):Nat->q26q_l2_H->Option q26q_l2_O
 | 0,_=>none
 | k+1,d=>q26q_l2_r N (q26q_l2 N k) d
abbrev q26q_l0_H:=(List Int×Unit)×((List Int×Unit)×List (List Int)×List (List Int)×List (List Int)×Unit)×List (List Int)×Int×Int×Unit
abbrev q26q_l0_O:=(((List Int×Unit)×List (List Int)×List (List Int)×List (List Int)×Unit)×Unit)⊕Empty
def q26q_l0_h:Form:=[(2,.box K_PSiq 0),(5,.box K_PPZiqZSiSSiSSiq 99),(26,.v K_SSi),(27,.v I),(28,.v I)]
def q26q_l0_o:Outs:=[(.normal,[(5,.box K_PPZiqZSiSSiSSiq 99)])]
noncomputable def q26q_l0_r (N:Nat) (back:q26q_l0_H->Option q26q_l0_O) (d:q26q_l0_H):Option q26q_l0_O:=
 let s2:=d.1
 let s5:=d.2.1
 let s26:=d.2.2.1
 let s27:=d.2.2.2.1
 let s28:=d.2.2.2.2.1
 if (decide (s28<s27))=true then
  if (idxIn s28 (List.length s26))=true then
  let r27:=g_q54q (s2,())
  (G_repeat (([(-1:Int)],(r27.1,())))).bind fun r28=>
  (q26q_l2 N N ((s2,(s5,(r28.1,(s26,(s27,(s28,(at_ K_Si s26 s28.toNat,((List.length (at_ K_Si s26 s28.toNat):Int),((0:Int),()))))))))))).bind fun o31=>match o31 with
  | .inl d32=>
   if (decide (List.length d32.2.1.2.2.2.1+List.length ([d32.2.2.1])<=lim))=true then
   let x33:=d32.2.1.2.2.2.1++([d32.2.2.1])
   let x34:=IntKind.wrap .i64 (d32.2.2.2.2.2.1+(1:Int))
   back ((d32.1,((d32.2.1.1,(d32.2.1.2.1,(d32.2.1.2.2.1,(x33,d32.2.1.2.2.2.2)))),(d32.2.2.2.1,(d32.2.2.2.2.1,(x34,()))))))
   else none
  else none
 else
  some (.inl (s5,()))
noncomputable def q26q_l0 (N:Nat):Nat->q26q_l0_H->Option q26q_l0_O
 | 0,_=>none
 | k+1,d=>q26q_l0_r N (q26q_l0 N k) d
abbrev q26q_l8_H:=((List Int×Unit)×List (List Int)×List (List Int)×List (List Int)×Unit)×Int×Bool×(List (Int×Int×Unit))×Int×Int×Int×Int×Int×Unit×Int×Unit
abbrev q26q_l8_O:=(((List Int×Unit)×List (List Int)×List (List Int)×List (List Int)×Unit)×Int×Bool×(List (Int×Int×Unit))×Int×Int×Unit×Unit)⊕Empty
def q26q_l8_h:Form:=[(5,.box K_PPZiqZSiSSiSSiq 99),(11,.v I),(12,.v .bool),(13,.own K_SPiiq 99),(14,.v I),(64,.v I),(65,.v I),(71,.v I),(72,.v I),(63,.same 5 [.r,.r,.r,.l]),(70,.hole 5 [.r,.r,.r,.l] [])]
def q26q_l8_o:Outs:=[(.normal,[(5,.box K_PPZiqZSiSSiSSiq 99),(11,.v I),(12,.v .bool),(13,.own K_SPiiq 99),(64,.v I),(65,.v I),(63,.same 5 [.r,.r,.r,.l])])]
noncomputable def q26q_l8_r (N:Nat) (back:q26q_l8_H->Option q26q_l8_O) (d:q26q_l8_H):Option q26q_l8_O:=
 let s5:=d.1
 let s11:=d.2.1
 let s12:=d.2.2.1
 let s13:=d.2.2.2.1
 let s14:=d.2.2.2.2.1
 let s64:=d.2.2.2.2.2.1
 let s65:=d.2.2.2.2.2.2.1
 let s71:=d.2.2.2.2.2.2.2.1
 let s72:=d.2.2.2.2.2.2.2.2.1
 let s63:=d.2.2.2.2.2.2.2.2.2.1
 let s70:=d.2.2.2.2.2.2.2.2.2.2.1
 if (decide (s72<s71))=true then
  if (idxIn s72 (List.length (at_ K_Si s5.2.2.2.1 (Int.toNat s70))))=true then
  if (decide (at_ I (at_ K_Si s5.2.2.2.1 (Int.toNat s70)) s72.toNat<(0:Int)))=true then
   ((F_q32q 0) ((s5,(s14,(s72,()))))).bind fun r57=>
   if (r57.1)=true then
    if (decide (List.length s13+List.length ([(s14,(s72,()))])<=lim))=true then
    let x58:=IntKind.wrap .i64 (s72+(1:Int))
    back ((s5,(s11,(s12,(s13++([(s14,(s72,()))]),(s14,(s64,(s65,(s71,(x58,((),((((Int.toNat s70):Nat):Int),()))))))))))))
    else none
   else
    let x59:=IntKind.wrap .i64 (s72+(1:Int))
    back ((s5,(s11,(s12,(s13,(s14,(s64,(s65,(s71,(x59,((),((((Int.toNat s70):Nat):Int),()))))))))))))
  else
   let x60:=IntKind.wrap .i64 (s72+(1:Int))
   back ((s5,(s11,(s12,(s13,(s14,(s64,(s65,(s71,(x60,((),((((Int.toNat s70):Nat):Int),()))))))))))))
  else none
 else
  some (.inl ((s5,(s11,(s12,(s13,(s64,(s65,((),())))))))))
noncomputable def q26q_l8 (N:Nat):Nat->q26q_l8_H->Option q26q_l8_O
 | 0,_=>none
 | k+1,d=>q26q_l8_r N (q26q_l8 N k) d
abbrev q26q_l6_H:=((List Int×Unit)×List (List Int)×List (List Int)×List (List Int)×Unit)×Int×Bool×(List (Int×Int×Unit))×Int×Int×Unit×Unit
abbrev q26q_l6_O:=(((List Int×Unit)×List (List Int)×List (List Int)×List (List Int)×Unit)×Int×Bool×(List (Int×Int×Unit))×Unit)⊕Empty
def q26q_l6_h:Form:=[(5,.box K_PPZiqZSiSSiSSiq 99),(11,.v I),(12,.v .bool),(13,.own K_SPiiq 99),(64,.v I),(65,.v I),(63,.same 5 [.r,.r,.r,.l])]
def q26q_l6_o:Outs:=[(.normal,[(5,.box K_PPZiqZSiSSiSSiq 99),(11,.v I),(12,.v .bool),(13,.own K_SPiiq 99)])]
noncomputable def q26q_l6_r (N:Nat) (back:q26q_l6_H->Option q26q_l6_O) (d:q26q_l6_H):Option q26q_l6_O:=
 let s5:=d.1
 let s11:=d.2.1
 let s12:=d.2.2.1
 let s13:=d.2.2.2.1
 let s64:=d.2.2.2.2.1
 let s65:=d.2.2.2.2.2.1
 let s63:=d.2.2.2.2.2.2.1
 if (decide (s65<s64))=true then
  if (idxIn s65 (List.length s5.2.2.2.1))=true then
  (q26q_l8 N N ((s5,(s11,(s12,(s13,(s65,(s64,(s65,((List.length (at_ K_Si s5.2.2.2.1 s65.toNat):Int),((0:Int),((),(((s65.toNat:Nat):Int),()))))))))))))).bind fun o54=>match o54 with
  | .inl d55=>
   let x56:=IntKind.wrap .i64 (d55.2.2.2.2.2.1+(1:Int))
   back ((d55.1,(d55.2.1,(d55.2.2.1,(d55.2.2.2.1,(d55.2.2.2.2.1,(x56,((),()))))))))
  else none
 else
  some (.inl ((s5,(s11,(s12,(s13,()))))))
noncomputable def q26q_l6 (N:Nat):Nat->q26q_l6_H->Option q26q_l6_O
 | 0,_=>none
 | k+1,d=>q26q_l6_r N (q26q_l6 N k) d
abbrev q26q_l10_H:=((List Int×Unit)×List (List Int)×List (List Int)×List (List Int)×Unit)×Int×Bool×(List (Int×Int×Unit))×Int×Int×Unit
abbrev q26q_l10_O:=(((List Int×Unit)×List (List Int)×List (List Int)×List (List Int)×Unit)×Int×Bool×Unit)⊕Empty
def q26q_l10_h:Form:=[(5,.box K_PPZiqZSiSSiSSiq 99),(11,.v I),(12,.v .bool),(93,.own K_SPiiq 99),(94,.v I),(95,.v I)]
def q26q_l10_o:Outs:=[(.normal,[(5,.box K_PPZiqZSiSSiSSiq 99),(11,.v I),(12,.v .bool)])]
noncomputable def q26q_l10_r (N:Nat) (back:q26q_l10_H->Option q26q_l10_O) (d:q26q_l10_H):Option q26q_l10_O:=
 let s5:=d.1
 let s11:=d.2.1
 let s12:=d.2.2.1
 let s93:=d.2.2.2.1
 let s94:=d.2.2.2.2.1
 let s95:=d.2.2.2.2.2.1
 if (decide (s95<s94))=true then
  if (idxIn s95 (List.length s93))=true then
  if (idxIn (at_ K_Piiq s93 s95.toNat).1 (List.length s5.2.2.2.1))=true then
  if (idxIn (at_ K_Piiq s93 s95.toNat).2.1 (List.length (at_ K_Si s5.2.2.2.1 (at_ K_Piiq s93 s95.toNat).1.toNat)))=true then
  let x61:=IntKind.wrap .i64 (s95+(1:Int))
  back (((s5.1,(s5.2.1,(s5.2.2.1,(List.set s5.2.2.2.1 (at_ K_Piiq s93 s95.toNat).1.toNat (List.set (at_ K_Si s5.2.2.2.1 (at_ K_Piiq s93 s95.toNat).1.toNat) (at_ K_Piiq s93 s95.toNat).2.1.toNat s11),s5.2.2.2.2)))),(s11,(true,(s93,(s94,(x61,())))))))
  else none
  else none
  else none
 else
  some (.inl ((s5,(s11,(s12,())))))
noncomputable def q26q_l10 (N:Nat):Nat->q26q_l10_H->Option q26q_l10_O
 | 0,_=>none
 | k+1,d=>q26q_l10_r N (q26q_l10 N k) d
abbrev q26q_l4_H:=((List Int×Unit)×List (List Int)×List (List Int)×List (List Int)×Unit)×Int×Bool×Unit
abbrev q26q_l4_O:=(((List Int×Unit)×List (List Int)×List (List Int)×List (List Int)×Unit)×Unit)⊕Empty
def q26q_l4_h:Form:=[(5,.box K_PPZiqZSiSSiSSiq 99),(11,.v I),(12,.v .bool)]
def q26q_l4_o:Outs:=[(.normal,[(5,.box K_PPZiqZSiSSiSSiq 99)])]
noncomputable def q26q_l4_r (N:Nat) (back:q26q_l4_H->Option q26q_l4_O) (d:q26q_l4_H):Option q26q_l4_O:=
 let s5:=d.1
 let s11:=d.2.1
 let s12:=d.2.2.1
 if (s12)=true then
  (q26q_l6 N N ((s5,(s11,(false,(([]:List (Int×Int×Unit)),((List.length s5.2.2.2.1:Int),((0:Int),((),()))))))))).bind fun o44=>match o44 with
  | .inl d45=>
   (q26q_l10 N N ((d45.1,(d45.2.1,(d45.2.2.1,(d45.2.2.2.1,((List.length d45.2.2.2.1:Int),((0:Int),())))))))).bind fun o47=>match o47 with
   | .inl d48=>
    let x49:=IntKind.wrap .i64 (d48.2.1+(1:Int))
    back ((d48.1,(x49,(d48.2.2.1,()))))
 else
  some (.inl (s5,()))
noncomputable def q26q_l4 (N:Nat):Nat->q26q_l4_H->Option q26q_l4_O
 | 0,_=>none
 | k+1,d=>q26q_l4_r N (q26q_l4 N k) d
noncomputable def F_q26q (N:Nat) (d:(List Int×Unit)×Int×Unit):Option (((List Int×Unit)×List (List Int)×List (List Int)×List (List Int)×Unit)×Unit):=
 let a0:=d.1
 let a1:=d.2.1
 (G_copBoard ((a0,(a1,())))).bind fun r1=>
 (q26q_l0 N N ((a0,(r1.1,(r1.1.2.1,((List.length r1.1.2.1:Int),((0:Int),()))))))).bind fun o10=>match o10 with
 | .inl d11=>
  (q26q_l4 N N ((d11.1,((1:Int),(true,()))))).bind fun o25=>match o25 with
  | .inl d26=>
   some (d26.1,())
noncomputable def S_q26q:FSig:=⟨[(K_PSiq,false),(I,false)],[K_BPPZiqZSiSSiSSiq],true,(G_copGame)⟩
noncomputable def Γ_q15q:Ctx:={ tk:=assoc tks,ar:=assoc ars,fs:=assoc [] }
abbrev q15q_l0_H:=List Int×Int×Int×Unit
abbrev q15q_l0_O:=(Int×Unit)⊕Empty
def q15q_l0_h:Form:=[(0,.v K_Si),(3,.v I),(4,.v I)]
def q15q_l0_o:Outs:=[(.normal,[(3,.v I)])]
noncomputable def q15q_l0_r (N:Nat) (back:q15q_l0_H->Option q15q_l0_O) (d:q15q_l0_H):Option q15q_l0_O:=
 let s0:=d.1
 let s3:=d.2.1
 let s4:=d.2.2.1
 if (decide (s4<(List.length s0:Int)))=true then
  if (idxIn s4 (List.length s0))=true then
  let x5:=if s3<at_ I s0 s4.toNat then at_ I s0 s4.toNat else s3
  let x6:=IntKind.wrap .i64 (s4+(1:Int))
  back ((s0,(x5,(x6,()))))
  else none
 else
  some (.inl (s3,()))
noncomputable def q15q_l0 (N:Nat):Nat->q15q_l0_H->Option q15q_l0_O
 | 0,_=>none
 | k+1,d=>q15q_l0_r N (q15q_l0 N k) d
noncomputable def F_q15q (N:Nat) (d:List Int×Unit):Option (Int×Unit):=
 let a0:=d.1
 if (decide ((List.length a0:Int)<(1:Int)))=true then
  none
 else
  if (idxIn (0:Int) (List.length a0))=true then
  (q15q_l0 N N ((a0,(at_ I a0 (0:Int).toNat,((1:Int),()))))).bind fun o3=>match o3 with
  | .inl d4=>
   some (d4.1,())
  else none
noncomputable def S_q15q:FSig:=⟨[(K_Si,false)],[I],true,(G_max)⟩
noncomputable def Γ_q22q:Ctx:={ tk:=assoc tks,ar:=assoc ars,fs:=assoc [(103,S_q6q),(114,S_q11q),(127,S_q15q)] }
abbrev q22q_l0_H:=((List Int×Unit)×List (List Int)×List (List Int)×List (List Int)×Unit)×Int×Int×List (List Int)×Int×Int×Unit
abbrev q22q_l0_O:=(((List Int×Unit)×List (List Int)×List (List Int)×List (List Int)×Unit)×Int×Int×Unit)⊕Empty
def q22q_l0_h:Form:=[(0,.v K_BPPZiqZSiSSiSSiq),(5,.v I),(6,.v I),(13,.v K_SSi),(14,.v I),(15,.v I)]
def q22q_l0_o:Outs:=[(.normal,[(0,.v K_BPPZiqZSiSSiSSiq),(5,.v I),(6,.v I)])]
noncomputable def q22q_l0_r (N:Nat) (back:q22q_l0_H->Option q22q_l0_O) (d:q22q_l0_H):Option q22q_l0_O:=
 let s0:=d.1
 let s5:=d.2.1
 let s6:=d.2.2.1
 let s13:=d.2.2.2.1
 let s14:=d.2.2.2.2.1
 let s15:=d.2.2.2.2.2.1
 if (decide (s15<s14))=true then
  if (idxIn s15 (List.length s13))=true then
  ((F_q6q 0) ((at_ K_Si s13 s15.toNat,((-1:Int),())))).bind fun r10=>
  if (r10.1)=true then
   let x11:=IntKind.wrap .i64 (s15+(1:Int))
   back ((s0,(s5,(s6,(s13,(s14,(x11,())))))))
  else
   (G_max (at_ K_Si s13 s15.toNat,())).bind fun r12=>
   if (decide (s5<(0:Int)))=true then
    let x13:=IntKind.wrap .i64 (s15+(1:Int))
    back ((s0,(s15,(r12.1,(s13,(s14,(x13,())))))))
   else
    if (decide (r12.1<s6))=true then
     let x14:=IntKind.wrap .i64 (s15+(1:Int))
     back ((s0,(s15,(r12.1,(s13,(s14,(x14,())))))))
    else
     let x15:=IntKind.wrap .i64 (s15+(1:Int))
     back ((s0,(s5,(s6,(s13,(s14,(x15,())))))))
  else none
 else
  some (.inl ((s0,(s5,(s6,())))))
noncomputable def q22q_l0 (N:Nat):Nat->q22q_l0_H->Option q22q_l0_O
 | 0,_=>none
 | k+1,d=>q22q_l0_r N (q22q_l0 N k) d
noncomputable def F_q22q (N:Nat) (d:((List Int×Unit)×List (List Int)×List (List Int)×List (List Int)×Unit)×Unit):Option (List Int×Int×Bool×Unit):=
 let a0:=d.1
 (q22q_l0 N N ((a0,((-1:Int),((0:Int),(a0.2.2.2.1,((List.length a0.2.2.2.1:Int),((0:Int),())))))))).bind fun o7=>match o7 with
 | .inl d8=>
  if (decide (d8.2.1<(0:Int)))=true then
   some ((([]:List Int),((0:Int),(false,()))))
  else
   if (idxIn d8.2.1 (List.length d8.1.2.1))=true then
   (G_toIntS (at_ K_Si d8.1.2.1 d8.2.1.toNat,())).bind fun r9=>
   some ((r9.1,(d8.2.2.1,(true,()))))
   else none
noncomputable def S_q22q:FSig:=⟨[(K_BPPZiqZSiSSiSSiq,false)],[K_Si,I,.bool],true,(G_copBest)⟩
noncomputable def Γ_q40q:Ctx:={ tk:=assoc tks,ar:=assoc ars,fs:=assoc [(53,S_q41q),(54,S_impl_netOf),(65,S_q22q)],cs:=assoc [],gs:=assoc [(64,(S_q26q,md0))],eqt:=inL [],md:=md0 }
abbrev q40q_l0_H:=(Int×(List (Int×Int×Unit))×Unit)×Int×Unit
abbrev q40q_l0_O:=(Int×Bool×Unit)⊕Unit⊕Empty
def q40q_l0_h:Form:=[(1,.box K_PiSPiiqq 0),(4,.v I)]
def q40q_l0_o:Outs:=[(.ret,[(2,.v I),(3,.v .bool)]),(.normal,[])]
noncomputable def q40q_l0_r (N:Nat) (back:q40q_l0_H->Option q40q_l0_O) (d:q40q_l0_H):Option q40q_l0_O:=
 let s1:=d.1
 let s4:=d.2.1
 if (decide (s4<=(3:Int)))=true then
  (G_netOf (s1,())).bind fun r9=>
  (G_copGame ((r9.1,(s4,())))).bind fun r10=>
  (G_copBest (r10.1,())).bind fun r11=>
  if (r11.2.2.1)=true then
   some (.inl ((s4,(true,()))))
  else
   let x12:=IntKind.wrap .i64 (s4+(1:Int))
   back ((s1,(x12,())))
 else
  some (.inr (.inl ()))
noncomputable def q40q_l0 (N:Nat):Nat->q40q_l0_H->Option q40q_l0_O
 | 0,_=>none
 | k+1,d=>q40q_l0_r N (q40q_l0 N k) d
noncomputable def F_q40q (N:Nat) (d:(Int×(List (Int×Int×Unit))×Unit)×Unit):Option (Int×Bool×Unit):=
 let a0:=d.1
 ((F_q41q 0) ((a0,((1:Int),())))).bind fun r1=>
 if (!r1.1)=true then
  some (((0:Int),(false,())))
 else
  (q40q_l0 N N ((a0,((1:Int),())))).bind fun o6=>match o6 with
  | .inl d7=>
   some ((d7.1,(d7.2.1,())))
  | .inr (.inl d8)=>
   some (((0:Int),(false,())))
noncomputable def S_q40q:FSig:=⟨[(K_PiSPiiqq,false)],[I,.bool],true,(G_copNum)⟩
noncomputable def Γ_spec_l1In:Ctx:={ tk:=assoc tks,ar:=assoc ars,fs:=assoc [] }
noncomputable def F_spec_l1In (N:Nat) (d:Int×Int×Int×Unit):Option (Bool×Unit):=
 let a0:=d.1
 let a1:=d.2.1
 let a2:=d.2.2.1
 if (decide (a0>=a1))=true then
  some (decide (a0<=a2),())
 else
  some (false,())
noncomputable def g_spec_l1In (d:Int×Int×Int×Unit):Bool×Unit:=
 let a0:=d.1
 let a1:=d.2.1
 let a2:=d.2.2.1
 if (decide (a0>=a1))=true then
  (decide (a0<=a2),())
 else
  (false,())
theorem F_spec_l1In_tot (N:Nat) (d):F_spec_l1In N d=some (g_spec_l1In d):=by
 unfold F_spec_l1In g_spec_l1In
 first
  | rfl
  | (dsimp only; (repeat' split)<;>rfl)
noncomputable def S_spec_l1In:FSig:=⟨[(I,false),(I,false),(I,false)],[.bool],true,(fun d=>some (g_spec_l1In d))⟩
noncomputable def Γ_q76q:Ctx:={ tk:=assoc tks,ar:=assoc ars,fs:=assoc [(104,S_spec_l1In),(131,S_q49q)] }
abbrev q76q_l0_H:=(Int×(List (Int×Int×Unit))×Unit)×Int×Unit
abbrev q76q_l0_O:=(Bool×Unit)⊕((Int×(List (Int×Int×Unit))×Unit)×Unit)⊕Empty
def q76q_l0_h:Form:=[(1,.box K_PiSPiiqq 0),(3,.v I)]
def q76q_l0_o:Outs:=[(.ret,[(2,.v .bool)]),(.normal,[(1,.box K_PiSPiiqq 0)])]
noncomputable def q76q_l0_r (N:Nat) (back:q76q_l0_H->Option q76q_l0_O) (d:q76q_l0_H):Option q76q_l0_O:=
 let s1:=d.1
 let s3:=d.2.1
 if (decide (s3<(List.length s1.2.1:Int)))=true then
  if (idxIn s3 (List.length s1.2.1))=true then
  let x13:=IntKind.wrap .i64 (s1.1-(1:Int))
  let r14:=g_spec_l1In (((at_ K_Piiq s1.2.1 s3.toNat).1,((0:Int),(x13,()))))
  if (!r14.1)=true then
   some (.inl (false,()))
  else
   let x15:=IntKind.wrap .i64 (s1.1-(1:Int))
   let r16:=g_spec_l1In (((at_ K_Piiq s1.2.1 s3.toNat).2.1,((0:Int),(x15,()))))
   if (!r16.1)=true then
    some (.inl (false,()))
   else
    if (decide ((at_ K_Piiq s1.2.1 s3.toNat).1>=(at_ K_Piiq s1.2.1 s3.toNat).2.1))=true then
     some (.inl (false,()))
    else
     if (decide (s3>(0:Int)))=true then
      let x17:=IntKind.wrap .i64 (s3-(1:Int))
      if (idxIn x17 (List.length s1.2.1))=true then
      let r18:=g_q49q ((at_ K_Piiq s1.2.1 x17.toNat,(at_ K_Piiq s1.2.1 s3.toNat,())))
      if (!r18.1)=true then
       some (.inl (false,()))
      else
       let x19:=IntKind.wrap .i64 (s3+(1:Int))
       back ((s1,(x19,())))
      else none
     else
      let x20:=IntKind.wrap .i64 (s3+(1:Int))
      back ((s1,(x20,())))
  else none
 else
  some (.inr (.inl (s1,())))
noncomputable def q76q_l0 (N:Nat):Nat->q76q_l0_H->Option q76q_l0_O
 | 0,_=>none
 | k+1,d=>q76q_l0_r N (q76q_l0 N k) d
noncomputable def F_q76q (N:Nat) (d:(Int×(List (Int×Int×Unit))×Unit)×Unit):Option (Bool×Unit):=
 let a0:=d.1
 (q76q_l0 N N ((a0,((0:Int),())))).bind fun o9=>match o9 with
 | .inl d10=>
  some (d10.1,())
 | .inr (.inl d11)=>
  let r12:=g_spec_l1In ((d11.1.1,((0:Int),((8:Int),()))))
  some (r12.1,())
noncomputable def S_q76q:FSig:=⟨[(K_PiSPiiqq,false)],[.bool],true,(G_graph)⟩
noncomputable def Γ_q63q:Ctx:={ tk:=assoc tks,ar:=assoc ars,fs:=assoc [(70,S_q76q),(104,S_spec_l1In)] }
noncomputable def F_q63q (N:Nat) (d:(Int×(List (Int×Int×Unit))×Unit)×Int×Unit):Option (Bool×Unit):=
 let a0:=d.1
 let a1:=d.2.1
 (G_graph (a0,())).bind fun r1=>
 if (r1.1)=true then
  if (decide (a0.1>(0:Int)))=true then
   let r2:=g_spec_l1In ((a1,((1:Int),((3:Int),()))))
   some (r2.1,())
  else
   some (false,())
 else
  some (false,())
noncomputable def S_q63q:FSig:=⟨[(K_PiSPiiqq,false),(I,false)],[.bool],true,(F_q63q 0)⟩
noncomputable def Γ_spec_l1Own:Ctx:={ tk:=assoc tks,ar:=assoc ars,fs:=assoc [] }
noncomputable def F_spec_l1Own (N:Nat) (d:List Int×Unit):Option (List Int×Unit):=
 let a0:=d.1
 if (decide (List.length ([]:List Int)+List.length a0<=lim))=true then
 some (([]:List Int)++a0,())
 else none
noncomputable def S_spec_l1Own:FSig:=⟨[(K_Si,false)],[K_Si],true,(F_spec_l1Own 0)⟩
noncomputable def Γ_q45q:Ctx:={ tk:=assoc tks,ar:=assoc ars,fs:=assoc [(76,S_spec_l1Own)] }
abbrev q45q_l4_H:=Int×Int×List (List Int)×Int×List (List Int)×Int×Int×Unit
abbrev q45q_l4_O:=(Int×Int×List (List Int)×Int×List (List Int)×Int×Unit)⊕Empty
def q45q_l4_h:Form:=[(0,.v I),(1,.v I),(5,.own K_SSi 100),(6,.v I),(7,.own K_SSi 100),(8,.v I),(10,.v I)]
def q45q_l4_o:Outs:=[(.normal,[(0,.v I),(1,.v I),(5,.own K_SSi 100),(6,.v I),(7,.own K_SSi 100),(8,.v I)])]
noncomputable def q45q_l4_r (N:Nat) (back:q45q_l4_H->Option q45q_l4_O) (d:q45q_l4_H):Option q45q_l4_O:=
 let s0:=d.1
 let s1:=d.2.1
 let s5:=d.2.2.1
 let s6:=d.2.2.2.1
 let s7:=d.2.2.2.2.1
 let s8:=d.2.2.2.2.2.1
 let s10:=d.2.2.2.2.2.2.1
 if (decide (s10<s0))=true then
  if (idxIn s8 (List.length s5))=true then
  ((F_spec_l1Own 0) (at_ K_Si s5 s8.toNat,())).bind fun r36=>
  if (decide (List.length r36.1+List.length ([s10])<=lim))=true then
  if (decide (List.length s7+List.length ([r36.1++([s10])])<=lim))=true then
  let x37:=IntKind.wrap .i64 (s10+(1:Int))
  back ((s0,(s1,(s5,(s6,(s7++([r36.1++([s10])]),(s8,(x37,()))))))))
  else none
  else none
  else none
 else
  some (.inl ((s0,(s1,(s5,(s6,(s7,(s8,()))))))))
noncomputable def q45q_l4 (N:Nat):Nat->q45q_l4_H->Option q45q_l4_O
 | 0,_=>none
 | k+1,d=>q45q_l4_r N (q45q_l4 N k) d
abbrev q45q_l2_H:=Int×Int×List (List Int)×Int×List (List Int)×Int×Unit
abbrev q45q_l2_O:=(Int×Int×Int×List (List Int)×Unit)⊕Empty
def q45q_l2_h:Form:=[(0,.v I),(1,.v I),(5,.own K_SSi 100),(6,.v I),(7,.own K_SSi 100),(8,.v I)]
def q45q_l2_o:Outs:=[(.normal,[(0,.v I),(1,.v I),(6,.v I),(7,.own K_SSi 100)])]
noncomputable def q45q_l2_r (N:Nat) (back:q45q_l2_H->Option q45q_l2_O) (d:q45q_l2_H):Option q45q_l2_O:=
 let s0:=d.1
 let s1:=d.2.1
 let s5:=d.2.2.1
 let s6:=d.2.2.2.1
 let s7:=d.2.2.2.2.1
 let s8:=d.2.2.2.2.2.1
 if (decide (s8<(List.length s5:Int)))=true then
  if (decide (s6>(0:Int)))=true then
   if (idxIn s8 (List.length s5))=true then
   let x27:=IntKind.wrap .i64 (s6-(1:Int))
   if (idxIn x27 (List.length (at_ K_Si s5 s8.toNat)))=true then
   (q45q_l4 N N ((s0,(s1,(s5,(s6,(s7,(s8,(at_ I (at_ K_Si s5 s8.toNat) x27.toNat,()))))))))).bind fun o30=>match o30 with
   | .inl d31=>
    let x32:=IntKind.wrap .i64 (d31.2.2.2.2.2.1+(1:Int))
    back ((d31.1,(d31.2.1,(d31.2.2.1,(d31.2.2.2.1,(d31.2.2.2.2.1,(x32,())))))))
   else none
   else none
  else
   (q45q_l4 N N ((s0,(s1,(s5,(s6,(s7,(s8,((0:Int),()))))))))).bind fun o33=>match o33 with
   | .inl d34=>
    let x35:=IntKind.wrap .i64 (d34.2.2.2.2.2.1+(1:Int))
    back ((d34.1,(d34.2.1,(d34.2.2.1,(d34.2.2.2.1,(d34.2.2.2.2.1,(x35,())))))))
 else
  some (.inl ((s0,(s1,(s6,(s7,()))))))
noncomputable def q45q_l2 (N:Nat):Nat->q45q_l2_H->Option q45q_l2_O
 | 0,_=>none
 | k+1,d=>q45q_l2_r N (q45q_l2 N k) d
abbrev q45q_l0_H:=Int×Int×List (List Int)×Int×Unit
abbrev q45q_l0_O:=(List (List Int)×Unit)⊕Empty
def q45q_l0_h:Form:=[(0,.v I),(1,.v I),(5,.own K_SSi 100),(6,.v I)]
def q45q_l0_o:Outs:=[(.normal,[(5,.own K_SSi 100)])]
noncomputable def q45q_l0_r (N:Nat) (back:q45q_l0_H->Option q45q_l0_O) (d:q45q_l0_H):Option q45q_l0_O:=
 let s0:=d.1
 let s1:=d.2.1
 let s5:=d.2.2.1
 let s6:=d.2.2.2.1
 if (decide (s6<s1))=true then
  (q45q_l2 N N ((s0,(s1,(s5,(s6,(([]:List (List Int)),((0:Int),())))))))).bind fun o24=>match o24 with
  | .inl d25=>
   let x26:=IntKind.wrap .i64 (d25.2.2.1+(1:Int))
   back ((d25.1,(d25.2.1,(d25.2.2.2.1,(x26,())))))
 else
  some (.inl (s5,()))
noncomputable def q45q_l0 (N:Nat):Nat->q45q_l0_H->Option q45q_l0_O
 | 0,_=>none
 | k+1,d=>q45q_l0_r N (q45q_l0 N k) d
noncomputable def F_q45q (N:Nat) (d:Int×Int×Unit):Option (List (List Int)×Unit):=
 let a0:=d.1
 let a1:=d.2.1
 (q45q_l0 N N ((a0,(a1,([([]:List Int)],((0:Int),())))))).bind fun o13=>match o13 with
 | .inl d14=>
  some (d14.1,())
noncomputable def S_q45q:FSig:=⟨[(I,false),(I,false)],[K_SSi],true,(G_configs)⟩
noncomputable def Γ_q29q:Ctx:={ tk:=assoc tks,ar:=assoc ars,fs:=assoc [(121,S_q71q)] }
abbrev q29q_l0_H:=Int×(Int×(List (Int×Int×Unit))×Unit)×List Int×Int×Unit
abbrev q29q_l0_O:=(List Int×Unit)⊕Empty
def q29q_l0_h:Form:=[(1,.v I),(2,.box K_PiSPiiqq 0),(5,.own K_Si 99),(6,.v I)]
def q29q_l0_o:Outs:=[(.normal,[(5,.own K_Si 99)])]
noncomputable def q29q_l0_r (N:Nat) (back:q29q_l0_H->Option q29q_l0_O) (d:q29q_l0_H):Option q29q_l0_O:=
 let s1:=d.1
 let s2:=d.2.1
 let s5:=d.2.2.1
 let s6:=d.2.2.2.1
 if (decide (s6<s2.1))=true then
  (G_l2Near ((s2,(s1,(s6,()))))).bind fun r6=>
  if (r6.1)=true then
   if (decide (List.length s5+List.length ([s6])<=lim))=true then
   let x7:=IntKind.wrap .i64 (s6+(1:Int))
   back ((s1,(s2,(s5++([s6]),(x7,())))))
   else none
  else
   let x8:=IntKind.wrap .i64 (s6+(1:Int))
   back ((s1,(s2,(s5,(x8,())))))
 else
  some (.inl (s5,()))
noncomputable def q29q_l0 (N:Nat):Nat->q29q_l0_H->Option q29q_l0_O
 | 0,_=>none
 | k+1,d=>q29q_l0_r N (q29q_l0 N k) d
noncomputable def F_q29q (N:Nat) (d:(Int×(List (Int×Int×Unit))×Unit)×Int×Unit):Option (List Int×Unit):=
 let a0:=d.1
 let a1:=d.2.1
 (q29q_l0 N N ((a1,(a0,(([]:List Int),((0:Int),())))))).bind fun o4=>match o4 with
 | .inl d5=>
  some (d5.1,())
noncomputable def S_q29q:FSig:=⟨[(K_PiSPiiqq,false),(I,false)],[K_Si],true,(G_l2Neighbors)⟩
noncomputable def Γ_spec_l1Put:Ctx:={ tk:=assoc tks,ar:=assoc ars,fs:=assoc [] }
abbrev spec_l1Put_l0_H:=List Int×Int×Int×Unit
abbrev spec_l1Put_l0_O:=(List Int×Int×Int×Unit)⊕Empty
def spec_l1Put_l0_h:Form:=[(0,.v K_Si),(1,.v I),(5,.v I)]
def spec_l1Put_l0_o:Outs:=[(.normal,[(0,.v K_Si),(1,.v I),(5,.v I)])]
noncomputable def spec_l1Put_l0_r (N:Nat) (back:spec_l1Put_l0_H->Option spec_l1Put_l0_O) (d:spec_l1Put_l0_H):Option spec_l1Put_l0_O:=
 let s0:=d.1
 let s1:=d.2.1
 let s5:=d.2.2.1
 if (decide (s5<(List.length s0:Int)))=true then
  if (idxIn s5 (List.length s0))=true then
  if (decide (at_ I s0 s5.toNat<s1))=true then
   let x11:=IntKind.wrap .i64 (s5+(1:Int))
   back ((s0,(s1,(x11,()))))
  else
   some (.inl ((s0,(s1,(s5,())))))
  else none
 else
  some (.inl ((s0,(s1,(s5,())))))
noncomputable def spec_l1Put_l0 (N:Nat):Nat->spec_l1Put_l0_H->Option spec_l1Put_l0_O
 | 0,_=>none
 | k+1,d=>spec_l1Put_l0_r N (spec_l1Put_l0 N k) d
noncomputable def F_spec_l1Put (N:Nat) (d:List Int×Int×Unit):Option (List Int×Unit):=
 let a0:=d.1
 let a1:=d.2.1
 (spec_l1Put_l0 N N ((a0,(a1,((0:Int),()))))).bind fun o5=>match o5 with
 | .inl d6=>
  if (decide (d6.2.2.1<(List.length d6.1:Int)))=true then
   if (idxIn d6.2.2.1 (List.length d6.1))=true then
   if (at_ I d6.1 d6.2.2.1.toNat==d6.2.1)=true then
    some (d6.1,())
   else
    if ((decide (0<=(0:Int))&&decide ((0:Int)<=d6.2.2.1)&&decide (d6.2.2.1<=(List.length d6.1:Int))))=true then
    if (decide (List.length ([]:List Int)+List.length (sub_ d6.1 (0:Int) d6.2.2.1)<=lim))=true then
    let x7:=([]:List Int)++(sub_ d6.1 (0:Int) d6.2.2.1)
    if (decide (List.length x7+List.length ([d6.2.1])<=lim))=true then
    if ((decide (0<=d6.2.2.1)&&decide (d6.2.2.1<=(List.length d6.1:Int))&&decide ((List.length d6.1:Int)<=(List.length d6.1:Int))))=true then
    let x8:=sub_ d6.1 d6.2.2.1 (List.length d6.1:Int)
    if (decide (List.length (x7++([d6.2.1]))+List.length x8<=lim))=true then
    some (((x7++([d6.2.1]))++x8,()))
    else none
    else none
    else none
    else none
    else none
   else none
  else
   if ((decide (0<=(0:Int))&&decide ((0:Int)<=d6.2.2.1)&&decide (d6.2.2.1<=(List.length d6.1:Int))))=true then
   if (decide (List.length ([]:List Int)+List.length (sub_ d6.1 (0:Int) d6.2.2.1)<=lim))=true then
   let x9:=([]:List Int)++(sub_ d6.1 (0:Int) d6.2.2.1)
   if (decide (List.length x9+List.length ([d6.2.1])<=lim))=true then
   if ((decide (0<=d6.2.2.1)&&decide (d6.2.2.1<=(List.length d6.1:Int))&&decide ((List.length d6.1:Int)<=(List.length d6.1:Int))))=true then
   let x10:=sub_ d6.1 d6.2.2.1 (List.length d6.1:Int)
   if (decide (List.length (x9++([d6.2.1]))+List.length x10<=lim))=true then
   some (((x9++([d6.2.1]))++x10,()))
   else none
   else none
   else none
   else none
   else none
noncomputable def S_spec_l1Put:FSig:=⟨[(K_Si,false),(I,false)],[K_Si],false,(G_l1Put)⟩
noncomputable def Γ_q58q:Ctx:={ tk:=assoc tks,ar:=assoc ars,fs:=assoc [],cs:=assoc [],gs:=assoc [],eqt:=inL [],md:={ gone:=[0],deep:=[] },cut:=fun t=>bif Nat.beq t 33 then 1 else 0 }
abbrev q58q_l0_H:=List Int×Int×Int×Unit
abbrev q58q_l0_O:=(List Int×Int×Int×Unit)⊕Empty
def q58q_l0_h:Form:=[(0,.own K_Si 1),(1,.v I),(5,.v I)]
def q58q_l0_o:Outs:=[(.normal,[(0,.own K_Si 1),(1,.v I),(5,.v I)])]
noncomputable def q58q_l0_r (N:Nat) (back:q58q_l0_H->Option q58q_l0_O) (d:q58q_l0_H):Option q58q_l0_O:=
 let s0:=d.1
 let s1:=d.2.1
 let s5:=d.2.2.1
 if (decide (s5<(List.length s0:Int)))=true then
  if (idxIn s5 (List.length s0))=true then
  if (decide (at_ I s0 s5.toNat<s1))=true then
   let x8:=IntKind.wrap .i64 (s5+(1:Int))
   back ((s0,(s1,(x8,()))))
  else
   some (.inl ((s0,(s1,(s5,())))))
  else none
 else
  some (.inl ((s0,(s1,(s5,())))))
noncomputable def q58q_l0 (N:Nat):Nat->q58q_l0_H->Option q58q_l0_O
 | 0,_=>none
 | k+1,d=>q58q_l0_r N (q58q_l0 N k) d
noncomputable def F_q58q (N:Nat) (d:List Int×Int×Unit):Option (List Int×List Int×Unit):=
 let a0:=d.1
 let a1:=d.2.1
 (q58q_l0 N N ((a0,(a1,((0:Int),()))))).bind fun o2=>match o2 with
 | .inl d3=>
  if (decide (d3.2.2.1<(List.length d3.1:Int)))=true then
   if (idxIn d3.2.2.1 (List.length d3.1))=true then
   if (at_ I d3.1 d3.2.2.1.toNat==d3.2.1)=true then
    some ((d3.1,(([]:List Int),())))
   else
    if ((decide (0<=(0:Int))&&decide ((0:Int)<=d3.2.2.1)&&decide (d3.2.2.1<=(List.length d3.1:Int))))=true then
    if (decide (List.length ([]:List Int)+List.length (sub_ d3.1 (0:Int) d3.2.2.1)<=lim))=true then
    let x4:=([]:List Int)++(sub_ d3.1 (0:Int) d3.2.2.1)
    if (decide (List.length x4+List.length ([d3.2.1])<=lim))=true then
    if ((decide (0<=d3.2.2.1)&&decide (d3.2.2.1<=(List.length d3.1:Int))&&decide ((List.length d3.1:Int)<=(List.length d3.1:Int))))=true then
    let x5:=sub_ d3.1 d3.2.2.1 (List.length d3.1:Int)
    if (decide (List.length (x4++([d3.2.1]))+List.length x5<=lim))=true then
    some (((x4++([d3.2.1]))++x5,(([]:List Int),())))
    else none
    else none
    else none
    else none
    else none
   else none
  else
   if ((decide (0<=(0:Int))&&decide ((0:Int)<=d3.2.2.1)&&decide (d3.2.2.1<=(List.length d3.1:Int))))=true then
   if (decide (List.length ([]:List Int)+List.length (sub_ d3.1 (0:Int) d3.2.2.1)<=lim))=true then
   let x6:=([]:List Int)++(sub_ d3.1 (0:Int) d3.2.2.1)
   if (decide (List.length x6+List.length ([d3.2.1])<=lim))=true then
   if ((decide (0<=d3.2.2.1)&&decide (d3.2.2.1<=(List.length d3.1:Int))&&decide ((List.length d3.1:Int)<=(List.length d3.1:Int))))=true then
   let x7:=sub_ d3.1 d3.2.2.1 (List.length d3.1:Int)
   if (decide (List.length (x6++([d3.2.1]))+List.length x7<=lim))=true then
   some (((x6++([d3.2.1]))++x7,(([]:List Int),())))
   else none
   else none
   else none
   else none
   else none
noncomputable def S_q58q:FSig:=⟨[(K_Si,true),(I,false)],[K_Si],true,(G_l1PutW)⟩
noncomputable def Γ_q70q:Ctx:={ tk:=assoc tks,ar:=assoc ars,fs:=assoc [(173,S_q29q)],cs:=assoc [],gs:=assoc [(159,(S_q58q,{ gone:=[0],deep:=[] }))],eqt:=inL [],md:=md0 }
noncomputable def F_q70q (N:Nat) (d:(Int×(List (Int×Int×Unit))×Unit)×Int×Unit):Option (List Int×Unit):=
 let a0:=d.1
 let a1:=d.2.1
 (G_l2Neighbors ((a0,(a1,())))).bind fun r1=>
 (G_l1PutW ((r1.1,(a1,())))).bind fun r2=>
 some (r2.1,())
noncomputable def S_q70q:FSig:=⟨[(K_PiSPiiqq,false),(I,false)],[K_Si],true,(F_q70q 0)⟩
noncomputable def Γ_q55q:Ctx:={ tk:=assoc tks,ar:=assoc ars,fs:=assoc [],dm:=fun t=>Nat.beq t 3,cs:=assoc [] }
abbrev q55q_l2_H:=List Int×List Int×Int×Int×Unit
abbrev q55q_l2_O:=(List Int×List Int×Int×Int×Unit)⊕Empty
def q55q_l2_h:Form:=[(0,.v K_Si),(3,.v K_Si),(4,.v I),(5,.v I)]
def q55q_l2_o:Outs:=[(.normal,[(0,.v K_Si),(3,.v K_Si),(4,.v I),(5,.v I)])]
noncomputable def q55q_l2_r (N:Nat) (back:q55q_l2_H->Option q55q_l2_O) (d:q55q_l2_H):Option q55q_l2_O:=
 let s0:=d.1
 let s3:=d.2.1
 let s4:=d.2.2.1
 let s5:=d.2.2.2.1
 if (decide (s5<(List.length s3:Int)))=true then
  if (idxIn s5 (List.length s3))=true then
  if (idxIn s4 (List.length s0))=true then
  if (decide (at_ I s3 s5.toNat<=at_ I s0 s4.toNat))=true then
   let x26:=IntKind.wrap .i64 (s5+(1:Int))
   back ((s0,(s3,(s4,(x26,())))))
  else
   some (.inl ((s0,(s3,(s4,(s5,()))))))
  else none
  else none
 else
  some (.inl ((s0,(s3,(s4,(s5,()))))))
noncomputable def q55q_l2 (N:Nat):Nat->q55q_l2_H->Option q55q_l2_O
 | 0,_=>none
 | k+1,d=>q55q_l2_r N (q55q_l2 N k) d
abbrev q55q_l0_H:=List Int×List Int×Int×Unit
abbrev q55q_l0_O:=(List Int×Unit)⊕Empty
def q55q_l0_h:Form:=[(0,.v K_Si),(3,.v K_Si),(4,.v I)]
def q55q_l0_o:Outs:=[(.normal,[(3,.v K_Si)])]
noncomputable def q55q_l0_r (N:Nat) (back:q55q_l0_H->Option q55q_l0_O) (d:q55q_l0_H):Option q55q_l0_O:=
 let s0:=d.1
 let s3:=d.2.1
 let s4:=d.2.2.1
 if (decide (s4<(List.length s0:Int)))=true then
  (q55q_l2 N N ((s0,(s3,(s4,((0:Int),())))))).bind fun o20=>match o20 with
  | .inl d21=>
   if ((decide (0<=(0:Int))&&decide ((0:Int)<=d21.2.2.2.1)&&decide (d21.2.2.2.1<=(List.length d21.2.1:Int))))=true then
   let x22:=sub_ d21.2.1 (0:Int) d21.2.2.2.1
   if (decide (List.length ([]:List Int)+List.length x22<=lim))=true then
   if (idxIn d21.2.2.1 (List.length d21.1))=true then
   if (decide (List.length (([]:List Int)++x22)+List.length ([at_ I d21.1 d21.2.2.1.toNat])<=lim))=true then
   let x23:=(([]:List Int)++x22)++([at_ I d21.1 d21.2.2.1.toNat])
   if ((decide (0<=d21.2.2.2.1)&&decide (d21.2.2.2.1<=(List.length d21.2.1:Int))&&decide ((List.length d21.2.1:Int)<=(List.length d21.2.1:Int))))=true then
   let x24:=sub_ d21.2.1 d21.2.2.2.1 (List.length d21.2.1:Int)
   if (decide (List.length x23+List.length x24<=lim))=true then
   let x25:=IntKind.wrap .i64 (d21.2.2.1+(1:Int))
   back ((d21.1,(x23++x24,(x25,()))))
   else none
   else none
   else none
   else none
   else none
   else none
 else
  some (.inl (s3,()))
noncomputable def q55q_l0 (N:Nat):Nat->q55q_l0_H->Option q55q_l0_O
 | 0,_=>none
 | k+1,d=>q55q_l0_r N (q55q_l0 N k) d
noncomputable def F_q55q (N:Nat) (d:List Int×Unit):Option (List Int×Unit):=
 let a0:=d.1
 (q55q_l0 N N ((a0,(([]:List Int),((0:Int),()))))).bind fun o17=>match o17 with
 | .inl d18=>
  some (d18.1,())
noncomputable def S_q55q:FSig:=⟨[(K_Si,false)],[K_Si],false,(G_l4Sorted)⟩
noncomputable def Γ_q67q:Ctx:={ tk:=assoc tks,ar:=assoc ars,fs:=assoc [] }
abbrev q67q_l0_H:=List Int×List Int×Int×Unit
abbrev q67q_l0_O:=(Bool×Unit)⊕Unit⊕Empty
def q67q_l0_h:Form:=[(0,.v K_Si),(1,.v K_Si),(5,.v I)]
def q67q_l0_o:Outs:=[(.ret,[(4,.v .bool)]),(.normal,[])]
noncomputable def q67q_l0_r (N:Nat) (back:q67q_l0_H->Option q67q_l0_O) (d:q67q_l0_H):Option q67q_l0_O:=
 let s0:=d.1
 let s1:=d.2.1
 let s5:=d.2.2.1
 if (decide (s5<(List.length s0:Int)))=true then
  if (idxIn s5 (List.length s0))=true then
  if (idxIn s5 (List.length s1))=true then
  if (at_ I s0 s5.toNat != at_ I s1 s5.toNat)=true then
   if (idxIn s5 (List.length s0))=true then
   if (idxIn s5 (List.length s1))=true then
   some (.inl (decide (at_ I s0 s5.toNat<at_ I s1 s5.toNat),()))
   else none
   else none
  else
   let x5:=IntKind.wrap .i64 (s5+(1:Int))
   back ((s0,(s1,(x5,()))))
  else none
  else none
 else
  some (.inr (.inl ()))
noncomputable def q67q_l0 (N:Nat):Nat->q67q_l0_H->Option q67q_l0_O
 | 0,_=>none
 | k+1,d=>q67q_l0_r N (q67q_l0 N k) d
noncomputable def F_q67q (N:Nat) (d:List Int×List Int×Unit):Option (Bool×Unit):=
 let a0:=d.1
 let a1:=d.2.1
 (q67q_l0 N N ((a0,(a1,((0:Int),()))))).bind fun o2=>match o2 with
 | .inl d3=>
  some (d3.1,())
 | .inr (.inl d4)=>
  some (false,())
noncomputable def S_q67q:FSig:=⟨[(K_Si,false),(K_Si,false)],[.bool],true,(G_l4Less)⟩
noncomputable def Γ_q75q:Ctx:={ tk:=assoc tks,ar:=assoc ars,fs:=assoc [] }
abbrev q75q_l0_H:=List Int×List Int×Int×Unit
abbrev q75q_l0_O:=(Bool×Unit)⊕Unit⊕Empty
def q75q_l0_h:Form:=[(0,.v K_Si),(1,.v K_Si),(5,.v I)]
def q75q_l0_o:Outs:=[(.ret,[(4,.v .bool)]),(.normal,[])]
noncomputable def q75q_l0_r (N:Nat) (back:q75q_l0_H->Option q75q_l0_O) (d:q75q_l0_H):Option q75q_l0_O:=
 let s0:=d.1
 let s1:=d.2.1
 let s5:=d.2.2.1
 if (decide (s5<(List.length s0:Int)))=true then
  if (idxIn s5 (List.length s0))=true then
  if (idxIn s5 (List.length s1))=true then
  if (at_ I s0 s5.toNat != at_ I s1 s5.toNat)=true then
   some (.inl (false,()))
  else
   let x5:=IntKind.wrap .i64 (s5+(1:Int))
   back ((s0,(s1,(x5,()))))
  else none
  else none
 else
  some (.inr (.inl ()))
noncomputable def q75q_l0 (N:Nat):Nat->q75q_l0_H->Option q75q_l0_O
 | 0,_=>none
 | k+1,d=>q75q_l0_r N (q75q_l0 N k) d
noncomputable def F_q75q (N:Nat) (d:List Int×List Int×Unit):Option (Bool×Unit):=
 let a0:=d.1
 let a1:=d.2.1
 if ((List.length a0:Int) != (List.length a1:Int))=true then
  some (false,())
 else
  (q75q_l0 N N ((a0,(a1,((0:Int),()))))).bind fun o2=>match o2 with
  | .inl d3=>
   some (d3.1,())
  | .inr (.inl d4)=>
   some (true,())
noncomputable def S_q75q:FSig:=⟨[(K_Si,false),(K_Si,false)],[.bool],true,(G_l1Same)⟩
noncomputable def Γ_spec_l4Put:Ctx:={ tk:=assoc tks,ar:=assoc ars,fs:=assoc [(172,S_q75q),(189,S_q67q)] }
abbrev spec_l4Put_l0_H:=List (List Int)×List Int×Int×Unit
abbrev spec_l4Put_l0_O:=(List (List Int)×List Int×Int×Unit)⊕Empty
def spec_l4Put_l0_h:Form:=[(0,.v K_SSi),(1,.v K_Si),(5,.v I)]
def spec_l4Put_l0_o:Outs:=[(.normal,[(0,.v K_SSi),(1,.v K_Si),(5,.v I)])]
noncomputable def spec_l4Put_l0_r (N:Nat) (back:spec_l4Put_l0_H->Option spec_l4Put_l0_O) (d:spec_l4Put_l0_H):Option spec_l4Put_l0_O:=
 let s0:=d.1
 let s1:=d.2.1
 let s5:=d.2.2.1
 if (decide (s5<(List.length s0:Int)))=true then
  if (idxIn s5 (List.length s0))=true then
  (G_l4Less ((at_ K_Si s0 s5.toNat,(s1,())))).bind fun r15=>
  if (r15.1)=true then
   let x16:=IntKind.wrap .i64 (s5+(1:Int))
   back ((s0,(s1,(x16,()))))
  else
   some (.inl ((s0,(s1,(s5,())))))
  else none
 else
  some (.inl ((s0,(s1,(s5,())))))
noncomputable def spec_l4Put_l0 (N:Nat):Nat->spec_l4Put_l0_H->Option spec_l4Put_l0_O
 | 0,_=>none
 | k+1,d=>spec_l4Put_l0_r N (spec_l4Put_l0 N k) d
noncomputable def F_spec_l4Put (N:Nat) (d:List (List Int)×List Int×Unit):Option (List (List Int)×Unit):=
 let a0:=d.1
 let a1:=d.2.1
 (spec_l4Put_l0 N N ((a0,(a1,((0:Int),()))))).bind fun o8=>match o8 with
 | .inl d9=>
  if (decide (d9.2.2.1<(List.length d9.1:Int)))=true then
   if (idxIn d9.2.2.1 (List.length d9.1))=true then
   (G_l1Same ((at_ K_Si d9.1 d9.2.2.1.toNat,(d9.2.1,())))).bind fun r10=>
   if (r10.1)=true then
    some (d9.1,())
   else
    if ((decide (0<=(0:Int))&&decide ((0:Int)<=d9.2.2.1)&&decide (d9.2.2.1<=(List.length d9.1:Int))))=true then
    if (decide (List.length ([]:List (List Int))+List.length (sub_ d9.1 (0:Int) d9.2.2.1)<=lim))=true then
    let x11:=([]:List (List Int))++(sub_ d9.1 (0:Int) d9.2.2.1)
    if (decide (List.length x11+List.length ([d9.2.1])<=lim))=true then
    if ((decide (0<=d9.2.2.1)&&decide (d9.2.2.1<=(List.length d9.1:Int))&&decide ((List.length d9.1:Int)<=(List.length d9.1:Int))))=true then
    let x12:=sub_ d9.1 d9.2.2.1 (List.length d9.1:Int)
    if (decide (List.length (x11++([d9.2.1]))+List.length x12<=lim))=true then
    some (((x11++([d9.2.1]))++x12,()))
    else none
    else none
    else none
    else none
    else none
   else none
  else
   if ((decide (0<=(0:Int))&&decide ((0:Int)<=d9.2.2.1)&&decide (d9.2.2.1<=(List.length d9.1:Int))))=true then
   if (decide (List.length ([]:List (List Int))+List.length (sub_ d9.1 (0:Int) d9.2.2.1)<=lim))=true then
   let x13:=([]:List (List Int))++(sub_ d9.1 (0:Int) d9.2.2.1)
   if (decide (List.length x13+List.length ([d9.2.1])<=lim))=true then
   if ((decide (0<=d9.2.2.1)&&decide (d9.2.2.1<=(List.length d9.1:Int))&&decide ((List.length d9.1:Int)<=(List.length d9.1:Int))))=true then
   let x14:=sub_ d9.1 d9.2.2.1 (List.length d9.1:Int)
   if (decide (List.length (x13++([d9.2.1]))+List.length x14<=lim))=true then
   some (((x13++([d9.2.1]))++x14,()))
   else none
   else none
   else none
   else none
   else none
noncomputable def S_spec_l4Put:FSig:=⟨[(K_SSi,false),(K_Si,false)],[K_SSi],false,(G_l4Put)⟩
noncomputable def Γ_q65q:Ctx:={ tk:=assoc tks,ar:=assoc ars,fs:=assoc [(76,S_spec_l1Own),(137,S_q70q),(170,S_spec_l4Put),(171,S_q55q)],dm:=fun t=>Nat.beq t 5||Nat.beq t 11,cs:=assoc [] }
abbrev q65q_l4_H:=List Int×(Int×(List (Int×Int×Unit))×Unit)×List (List Int)×Int×List (List Int)×List Int×Int×Int×Unit
abbrev q65q_l4_O:=(List Int×(Int×(List (Int×Int×Unit))×Unit)×List (List Int)×Int×List (List Int)×List Int×Int×Unit)⊕Empty
def q65q_l4_h:Form:=[(1,.v K_Si),(2,.box K_PiSPiiqq 0),(5,.v K_SSi),(6,.v I),(7,.own K_SSi 100),(8,.own K_Si 99),(9,.v I),(10,.v I)]
def q65q_l4_o:Outs:=[(.normal,[(1,.v K_Si),(2,.box K_PiSPiiqq 0),(5,.v K_SSi),(6,.v I),(7,.own K_SSi 100),(8,.own K_Si 99),(9,.v I)])]
noncomputable def q65q_l4_r (N:Nat) (back:q65q_l4_H->Option q65q_l4_O) (d:q65q_l4_H):Option q65q_l4_O:=
 let s1:=d.1
 let s2:=d.2.1
 let s5:=d.2.2.1
 let s6:=d.2.2.2.1
 let s7:=d.2.2.2.2.1
 let s8:=d.2.2.2.2.2.1
 let s9:=d.2.2.2.2.2.2.1
 let s10:=d.2.2.2.2.2.2.2.1
 if (decide (s10<(List.length s8:Int)))=true then
  if (idxIn s9 (List.length s5))=true then
  ((F_spec_l1Own 0) (at_ K_Si s5 s9.toNat,())).bind fun r51=>
  if (idxIn s10 (List.length s8))=true then
  if (decide (List.length r51.1+List.length ([at_ I s8 s10.toNat])<=lim))=true then
  let x52:=r51.1++([at_ I s8 s10.toNat])
  if (decide (List.length s7+List.length ([x52])<=lim))=true then
  let x53:=IntKind.wrap .i64 (s10+(1:Int))
  back ((s1,(s2,(s5,(s6,(s7++([x52]),(s8,(s9,(x53,())))))))))
  else none
  else none
  else none
  else none
 else
  some (.inl ((s1,(s2,(s5,(s6,(s7,(s8,(s9,())))))))))
noncomputable def q65q_l4 (N:Nat):Nat->q65q_l4_H->Option q65q_l4_O
 | 0,_=>none
 | k+1,d=>q65q_l4_r N (q65q_l4 N k) d
abbrev q65q_l2_H:=List Int×(Int×(List (Int×Int×Unit))×Unit)×List (List Int)×Int×List (List Int)×List Int×Int×Unit
abbrev q65q_l2_O:=(List Int×(Int×(List (Int×Int×Unit))×Unit)×Int×List (List Int)×Unit)⊕Empty
def q65q_l2_h:Form:=[(1,.v K_Si),(2,.box K_PiSPiiqq 0),(5,.v K_SSi),(6,.v I),(7,.own K_SSi 100),(8,.own K_Si 99),(9,.v I)]
def q65q_l2_o:Outs:=[(.normal,[(1,.v K_Si),(2,.box K_PiSPiiqq 0),(6,.v I),(7,.own K_SSi 100)])]
noncomputable def q65q_l2_r (N:Nat) (back:q65q_l2_H->Option q65q_l2_O) (d:q65q_l2_H):Option q65q_l2_O:=
 let s1:=d.1
 let s2:=d.2.1
 let s5:=d.2.2.1
 let s6:=d.2.2.2.1
 let s7:=d.2.2.2.2.1
 let s8:=d.2.2.2.2.2.1
 let s9:=d.2.2.2.2.2.2.1
 if (decide (s9<(List.length s5:Int)))=true then
  (q65q_l4 N N ((s1,(s2,(s5,(s6,(s7,(s8,(s9,((0:Int),())))))))))).bind fun o48=>match o48 with
  | .inl d49=>
   let x50:=IntKind.wrap .i64 (d49.2.2.2.2.2.2.1+(1:Int))
   back ((d49.1,(d49.2.1,(d49.2.2.1,(d49.2.2.2.1,(d49.2.2.2.2.1,(d49.2.2.2.2.2.1,(x50,()))))))))
 else
  some (.inl ((s1,(s2,(s6,(s7,()))))))
noncomputable def q65q_l2 (N:Nat):Nat->q65q_l2_H->Option q65q_l2_O
 | 0,_=>none
 | k+1,d=>q65q_l2_r N (q65q_l2 N k) d
abbrev q65q_l0_H:=List Int×(Int×(List (Int×Int×Unit))×Unit)×List (List Int)×Int×Unit
abbrev q65q_l0_O:=(List (List Int)×Unit)⊕Empty
def q65q_l0_h:Form:=[(1,.v K_Si),(2,.box K_PiSPiiqq 0),(5,.v K_SSi),(6,.v I)]
def q65q_l0_o:Outs:=[(.normal,[(5,.v K_SSi)])]
noncomputable def q65q_l0_r (N:Nat) (back:q65q_l0_H->Option q65q_l0_O) (d:q65q_l0_H):Option q65q_l0_O:=
 let s1:=d.1
 let s2:=d.2.1
 let s5:=d.2.2.1
 let s6:=d.2.2.2.1
 if (decide (s6<(List.length s1:Int)))=true then
  if (idxIn s6 (List.length s1))=true then
  ((F_q70q 0) ((s2,(at_ I s1 s6.toNat,())))).bind fun r35=>
  (q65q_l2 N N ((s1,(s2,(s5,(s6,(([]:List (List Int)),(r35.1,((0:Int),()))))))))).bind fun o42=>match o42 with
  | .inl d43=>
   let x44:=IntKind.wrap .i64 (d43.2.2.1+(1:Int))
   back ((d43.1,(d43.2.1,(d43.2.2.2.1,(x44,())))))
  else none
 else
  some (.inl (s5,()))
noncomputable def q65q_l0 (N:Nat):Nat->q65q_l0_H->Option q65q_l0_O
 | 0,_=>none
 | k+1,d=>q65q_l0_r N (q65q_l0 N k) d
abbrev q65q_l6_H:=List (List Int)×List (List Int)×Int×Unit
abbrev q65q_l6_O:=(List (List Int)×Unit)⊕Empty
def q65q_l6_h:Form:=[(5,.v K_SSi),(11,.v K_SSi),(12,.v I)]
def q65q_l6_o:Outs:=[(.normal,[(11,.v K_SSi)])]
noncomputable def q65q_l6_r (N:Nat) (back:q65q_l6_H->Option q65q_l6_O) (d:q65q_l6_H):Option q65q_l6_O:=
 let s5:=d.1
 let s11:=d.2.1
 let s12:=d.2.2.1
 if (decide (s12<(List.length s5:Int)))=true then
  if (idxIn s12 (List.length s5))=true then
  (G_l4Sorted (at_ K_Si s5 s12.toNat,())).bind fun r54=>
  (G_l4Put ((s11,(r54.1,())))).bind fun r55=>
  let x56:=IntKind.wrap .i64 (s12+(1:Int))
  back ((s5,(r55.1,(x56,()))))
  else none
 else
  some (.inl (s11,()))
noncomputable def q65q_l6 (N:Nat):Nat->q65q_l6_H->Option q65q_l6_O
 | 0,_=>none
 | k+1,d=>q65q_l6_r N (q65q_l6 N k) d
noncomputable def F_q65q (N:Nat) (d:(Int×(List (Int×Int×Unit))×Unit)×List Int×Unit):Option (List (List Int)×Unit):=
 let a0:=d.1
 let a1:=d.2.1
 (q65q_l0 N N ((a1,(a0,([([]:List Int)],((0:Int),())))))).bind fun o28=>match o28 with
 | .inl d29=>
  (q65q_l6 N N ((d29.1,(([]:List (List Int)),((0:Int),()))))).bind fun o33=>match o33 with
  | .inl d34=>
   some (d34.1,())
noncomputable def S_q65q:FSig:=⟨[(K_PiSPiiqq,false),(K_Si,false)],[K_SSi],false,(G_l4Moves)⟩
noncomputable def Γ_spec_l4At:Ctx:={ tk:=assoc tks,ar:=assoc ars,fs:=assoc [(172,S_q75q)] }
abbrev spec_l4At_l0_H:=List (List Int)×List Int×Int×Unit
abbrev spec_l4At_l0_O:=(Int×Unit)⊕Unit⊕Empty
def spec_l4At_l0_h:Form:=[(0,.v K_SSi),(1,.v K_Si),(5,.v I)]
def spec_l4At_l0_o:Outs:=[(.ret,[(4,.v I)]),(.normal,[])]
noncomputable def spec_l4At_l0_r (N:Nat) (back:spec_l4At_l0_H->Option spec_l4At_l0_O) (d:spec_l4At_l0_H):Option spec_l4At_l0_O:=
 let s0:=d.1
 let s1:=d.2.1
 let s5:=d.2.2.1
 if (decide (s5<(List.length s0:Int)))=true then
  if (idxIn s5 (List.length s0))=true then
  (G_l1Same ((at_ K_Si s0 s5.toNat,(s1,())))).bind fun r6=>
  if (r6.1)=true then
   some (.inl (s5,()))
  else
   let x7:=IntKind.wrap .i64 (s5+(1:Int))
   back ((s0,(s1,(x7,()))))
  else none
 else
  some (.inr (.inl ()))
noncomputable def spec_l4At_l0 (N:Nat):Nat->spec_l4At_l0_H->Option spec_l4At_l0_O
 | 0,_=>none
 | k+1,d=>spec_l4At_l0_r N (spec_l4At_l0 N k) d
noncomputable def F_spec_l4At (N:Nat) (d:List (List Int)×List Int×Unit):Option (Int×Unit):=
 let a0:=d.1
 let a1:=d.2.1
 (spec_l4At_l0 N N ((a0,(a1,((0:Int),()))))).bind fun o3=>match o3 with
 | .inl d4=>
  some (d4.1,())
 | .inr (.inl d5)=>
  some ((-1:Int),())
noncomputable def S_spec_l4At:FSig:=⟨[(K_SSi,false),(K_Si,false)],[I],true,(G_l4At)⟩
noncomputable def Γ_q73q:Ctx:={ tk:=assoc tks,ar:=assoc ars,fs:=assoc [(134,S_q45q),(135,S_q65q),(136,S_spec_l4At),(137,S_q70q)],cs:=assoc [],gs:=assoc [],eqt:=inL [],md:=md0,ad:=fun t=>bif Nat.beq t 5 then 1 else 99 }
abbrev q73q_l2_H:=(Int×(List (Int×Int×Unit))×Unit)×(List (List Int)×List (List Int)×List (List Int)×Unit)×(List (List Int)×List (List Int)×List (List Int)×Unit)×Int×List (List Int)×List Int×Int×Unit
abbrev q73q_l2_O:=((Int×(List (Int×Int×Unit))×Unit)×(List (List Int)×List (List Int)×List (List Int)×Unit)×(List (List Int)×List (List Int)×List (List Int)×Unit)×Int×List Int×Unit)⊕Empty
def q73q_l2_h:Form:=[(2,.box K_PiSPiiqq 0),(4,.box K_PZSiSSiSSiq 99),(5,.box K_PZSiSSiSSiq 1),(6,.v I),(7,.v K_SSi),(8,.own K_Si 99),(9,.v I)]
def q73q_l2_o:Outs:=[(.normal,[(2,.box K_PiSPiiqq 0),(4,.box K_PZSiSSiSSiq 99),(5,.box K_PZSiSSiSSiq 1),(6,.v I),(8,.own K_Si 99)])]
noncomputable def q73q_l2_r (N:Nat) (back:q73q_l2_H->Option q73q_l2_O) (d:q73q_l2_H):Option q73q_l2_O:=
 let s2:=d.1
 let s4:=d.2.1
 let s5:=d.2.2.1
 let s6:=d.2.2.2.1
 let s7:=d.2.2.2.2.1
 let s8:=d.2.2.2.2.2.1
 let s9:=d.2.2.2.2.2.2.1
 if (decide (s9<(List.length s7:Int)))=true then
  if (idxIn s9 (List.length s7))=true then
  (G_l4At ((s5.1,(at_ K_Si s7 s9.toNat,())))).bind fun r36=>
  if (decide (List.length s8+List.length ([r36.1])<=lim))=true then
  let x37:=IntKind.wrap .i64 (s9+(1:Int))
  back ((s2,(s4,(s5,(s6,(s7,(s8++([r36.1]),(x37,()))))))))
  else none
  else none
 else
  some (.inl ((s2,(s4,(s5,(s6,(s8,())))))))
noncomputable def q73q_l2 (N:Nat):Nat->q73q_l2_H->Option q73q_l2_O
 | 0,_=>none
 | k+1,d=>q73q_l2_r N (q73q_l2 N k) d
abbrev q73q_l0_H:=(Int×(List (Int×Int×Unit))×Unit)×(List (List Int)×List (List Int)×List (List Int)×Unit)×(List (List Int)×List (List Int)×List (List Int)×Unit)×Int×Unit
abbrev q73q_l0_O:=((Int×(List (Int×Int×Unit))×Unit)×(List (List Int)×List (List Int)×List (List Int)×Unit)×(List (List Int)×List (List Int)×List (List Int)×Unit)×Unit)⊕Empty
def q73q_l0_h:Form:=[(2,.box K_PiSPiiqq 0),(4,.box K_PZSiSSiSSiq 99),(5,.box K_PZSiSSiSSiq 1),(6,.v I)]
def q73q_l0_o:Outs:=[(.normal,[(2,.box K_PiSPiiqq 0),(4,.box K_PZSiSSiSSiq 99),(5,.box K_PZSiSSiSSiq 1)])]
noncomputable def q73q_l0_r (N:Nat) (back:q73q_l0_H->Option q73q_l0_O) (d:q73q_l0_H):Option q73q_l0_O:=
 let s2:=d.1
 let s4:=d.2.1
 let s5:=d.2.2.1
 let s6:=d.2.2.2.1
 if (decide (s6<(List.length s5.1:Int)))=true then
  if (idxIn s6 (List.length s5.1))=true then
  (G_l4Moves ((s2,(at_ K_Si s5.1 s6.toNat,())))).bind fun r29=>
  (q73q_l2 N N ((s2,(s4,(s5,(s6,(r29.1,(([]:List Int),((0:Int),()))))))))).bind fun o32=>match o32 with
  | .inl d33=>
   if (decide (List.length d33.2.2.1.2.1+List.length ([d33.2.2.2.2.1])<=lim))=true then
   let x34:=d33.2.2.1.2.1++([d33.2.2.2.2.1])
   let x35:=IntKind.wrap .i64 (d33.2.2.2.1+(1:Int))
   back ((d33.1,(d33.2.1,((d33.2.2.1.1,(x34,d33.2.2.1.2.2)),(x35,())))))
   else none
  else none
 else
  some (.inl ((s2,(s4,(s5,())))))
noncomputable def q73q_l0 (N:Nat):Nat->q73q_l0_H->Option q73q_l0_O
 | 0,_=>none
 | k+1,d=>q73q_l0_r N (q73q_l0 N k) d
abbrev q73q_l4_H:=(Int×(List (Int×Int×Unit))×Unit)×(List (List Int)×List (List Int)×List (List Int)×Unit)×(List (List Int)×List (List Int)×List (List Int)×Unit)×Int×Unit
abbrev q73q_l4_O:=((List (List Int)×List (List Int)×List (List Int)×Unit)×(List (List Int)×List (List Int)×List (List Int)×Unit)×Unit)⊕Empty
def q73q_l4_h:Form:=[(2,.box K_PiSPiiqq 0),(4,.box K_PZSiSSiSSiq 99),(5,.box K_PZSiSSiSSiq 1),(10,.v I)]
def q73q_l4_o:Outs:=[(.normal,[(4,.box K_PZSiSSiSSiq 99),(5,.box K_PZSiSSiSSiq 1)])]
noncomputable def q73q_l4_r (N:Nat) (back:q73q_l4_H->Option q73q_l4_O) (d:q73q_l4_H):Option q73q_l4_O:=
 let s2:=d.1
 let s4:=d.2.1
 let s5:=d.2.2.1
 let s10:=d.2.2.2.1
 if (decide (s10<s2.1))=true then
  ((F_q70q 0) ((s2,(s10,())))).bind fun r38=>
  if (decide (List.length s5.2.2.1+List.length ([r38.1])<=lim))=true then
  let x39:=IntKind.wrap .i64 (s10+(1:Int))
  back ((s2,(s4,((s5.1,(s5.2.1,(s5.2.2.1++([r38.1]),s5.2.2.2))),(x39,())))))
  else none
 else
  some (.inl ((s4,(s5,()))))
noncomputable def q73q_l4 (N:Nat):Nat->q73q_l4_H->Option q73q_l4_O
 | 0,_=>none
 | k+1,d=>q73q_l4_r N (q73q_l4 N k) d
noncomputable def F_q73q (N:Nat) (d:(Int×(List (Int×Int×Unit))×Unit)×Int×Unit):Option ((List (List Int)×List (List Int)×List (List Int)×Unit)×Unit):=
 let a0:=d.1
 let a1:=d.2.1
 (G_configs ((a0.1,(a1,())))).bind fun r15=>
 (q73q_l0 N N ((a0,((([]:List (List Int)),(([]:List (List Int)),(([]:List (List Int)),()))),((r15.1,(([]:List (List Int)),(([]:List (List Int)),()))),((0:Int),())))))).bind fun o23=>match o23 with
 | .inl d24=>
  (q73q_l4 N N ((d24.1,(d24.2.1,(d24.2.2.1,((0:Int),())))))).bind fun o27=>match o27 with
  | .inl d28=>
   some (d28.2.1,())
noncomputable def S_q73q:FSig:=⟨[(K_PiSPiiqq,false),(I,false)],[K_PZSiSSiSSiq],false,(G_l4Make)⟩
noncomputable def Γ_spec_l1Has:Ctx:={ tk:=assoc tks,ar:=assoc ars,fs:=assoc [] }
abbrev spec_l1Has_l0_H:=List Int×Int×Int×Unit
abbrev spec_l1Has_l0_O:=(Bool×Unit)⊕Unit⊕Empty
def spec_l1Has_l0_h:Form:=[(0,.v K_Si),(1,.v I),(5,.v I)]
def spec_l1Has_l0_o:Outs:=[(.ret,[(4,.v .bool)]),(.normal,[])]
noncomputable def spec_l1Has_l0_r (N:Nat) (back:spec_l1Has_l0_H->Option spec_l1Has_l0_O) (d:spec_l1Has_l0_H):Option spec_l1Has_l0_O:=
 let s0:=d.1
 let s1:=d.2.1
 let s5:=d.2.2.1
 if (decide (s5<(List.length s0:Int)))=true then
  if (idxIn s5 (List.length s0))=true then
  if (at_ I s0 s5.toNat==s1)=true then
   some (.inl (true,()))
  else
   let x5:=IntKind.wrap .i64 (s5+(1:Int))
   back ((s0,(s1,(x5,()))))
  else none
 else
  some (.inr (.inl ()))
noncomputable def spec_l1Has_l0 (N:Nat):Nat->spec_l1Has_l0_H->Option spec_l1Has_l0_O
 | 0,_=>none
 | k+1,d=>spec_l1Has_l0_r N (spec_l1Has_l0 N k) d
noncomputable def F_spec_l1Has (N:Nat) (d:List Int×Int×Unit):Option (Bool×Unit):=
 let a0:=d.1
 let a1:=d.2.1
 (spec_l1Has_l0 N N ((a0,(a1,((0:Int),()))))).bind fun o2=>match o2 with
 | .inl d3=>
  some (d3.1,())
 | .inr (.inl d4)=>
  some (false,())
noncomputable def S_spec_l1Has:FSig:=⟨[(K_Si,false),(I,false)],[.bool],true,(G_l1Has)⟩
noncomputable def Γ_q66q:Ctx:={ tk:=assoc tks,ar:=assoc ars,fs:=assoc [(120,S_q68q),(138,S_spec_l1Has)] }
abbrev q66q_l0_H:=List (List Int)×Int×Int×List Int×Int×Unit
abbrev q66q_l0_O:=(Int×Unit)⊕(Int×Unit)⊕Empty
def q66q_l0_h:Form:=[(1,.v K_SSi),(2,.v I),(9,.v I),(10,.v K_Si),(11,.v I)]
def q66q_l0_o:Outs:=[(.ret,[(8,.v I)]),(.normal,[(9,.v I)])]
noncomputable def q66q_l0_r (N:Nat) (back:q66q_l0_H->Option q66q_l0_O) (d:q66q_l0_H):Option q66q_l0_O:=
 let s1:=d.1
 let s2:=d.2.1
 let s9:=d.2.2.1
 let s10:=d.2.2.2.1
 let s11:=d.2.2.2.2.1
 if (decide (s11<(List.length s10:Int)))=true then
  if (idxIn s2 (List.length s1))=true then
  if (idxIn s11 (List.length s10))=true then
  if (idxIn (at_ I s10 s11.toNat) (List.length (at_ K_Si s1 s2.toNat)))=true then
  if (decide (at_ I (at_ K_Si s1 s2.toNat) (at_ I s10 s11.toNat).toNat<(0:Int)))=true then
   some (.inl ((-1:Int),()))
  else
   if (idxIn s2 (List.length s1))=true then
   if (idxIn s11 (List.length s10))=true then
   if (idxIn (at_ I s10 s11.toNat) (List.length (at_ K_Si s1 s2.toNat)))=true then
   let r7:=g_q68q ((s9,(at_ I (at_ K_Si s1 s2.toNat) (at_ I s10 s11.toNat).toNat,())))
   let x8:=IntKind.wrap .i64 (s11+(1:Int))
   back ((s1,(s2,(r7.1,(s10,(x8,()))))))
   else none
   else none
   else none
  else none
  else none
  else none
 else
  some (.inr (.inl (s9,())))
noncomputable def q66q_l0 (N:Nat):Nat->q66q_l0_H->Option q66q_l0_O
 | 0,_=>none
 | k+1,d=>q66q_l0_r N (q66q_l0 N k) d
noncomputable def F_q66q (N:Nat) (d:(List (List Int)×List (List Int)×List (List Int)×Unit)×List (List Int)×Int×Int×Unit):Option (Int×Unit):=
 let a0:=d.1
 let a1:=d.2.1
 let a2:=d.2.2.1
 let a3:=d.2.2.2.1
 if (idxIn a2 (List.length a0.1))=true then
 (G_l1Has ((at_ K_Si a0.1 a2.toNat,(a3,())))).bind fun r1=>
 if (r1.1)=true then
  some ((0:Int),())
 else
  if (idxIn a3 (List.length a0.2.2.1))=true then
  (q66q_l0 N N ((a1,(a2,((0:Int),(at_ K_Si a0.2.2.1 a3.toNat,((0:Int),()))))))).bind fun o4=>match o4 with
  | .inl d5=>
   some (d5.1,())
  | .inr (.inl d6)=>
   some (d6.1,())
  else none
 else none
noncomputable def S_q66q:FSig:=⟨[(K_PZSiSSiSSiq,false),(K_SSi,false),(I,false),(I,false)],[I],true,(G_l4After)⟩
noncomputable def Γ_q64q:Ctx:={ tk:=assoc tks,ar:=assoc ars,fs:=assoc [(76,S_spec_l1Own),(138,S_spec_l1Has),(139,S_q66q)] }
abbrev q64q_l2_H:=(List (List Int)×List (List Int)×List (List Int)×Unit)×List (List Int)×Int×List Int×Int×Unit
abbrev q64q_l2_O:=((List (List Int)×List (List Int)×List (List Int)×Unit)×List (List Int)×Int×List Int×Unit)⊕Empty
def q64q_l2_h:Form:=[(1,.box K_PZSiSSiSSiq 0),(3,.own K_SSi 100),(4,.v I),(5,.own K_Si 99),(6,.v I)]
def q64q_l2_o:Outs:=[(.normal,[(1,.box K_PZSiSSiSSiq 0),(3,.own K_SSi 100),(4,.v I),(5,.own K_Si 99)])]
noncomputable def q64q_l2_r (N:Nat) (back:q64q_l2_H->Option q64q_l2_O) (d:q64q_l2_H):Option q64q_l2_O:=
 let s1:=d.1
 let s3:=d.2.1
 let s4:=d.2.2.1
 let s5:=d.2.2.2.1
 let s6:=d.2.2.2.2.1
 if (decide (s6<(List.length s1.2.2.1:Int)))=true then
  if (idxIn s4 (List.length s1.1))=true then
  (G_l1Has ((at_ K_Si s1.1 s4.toNat,(s6,())))).bind fun r31=>
  if (r31.1)=true then
   if (decide (List.length s5+List.length ([(0:Int)])<=lim))=true then
   let x32:=IntKind.wrap .i64 (s6+(1:Int))
   back ((s1,(s3,(s4,(s5++([(0:Int)]),(x32,()))))))
   else none
  else
   if (decide (List.length s5+List.length ([(-1:Int)])<=lim))=true then
   let x33:=IntKind.wrap .i64 (s6+(1:Int))
   back ((s1,(s3,(s4,(s5++([(-1:Int)]),(x33,()))))))
   else none
  else none
 else
  some (.inl ((s1,(s3,(s4,(s5,()))))))
noncomputable def q64q_l2 (N:Nat):Nat->q64q_l2_H->Option q64q_l2_O
 | 0,_=>none
 | k+1,d=>q64q_l2_r N (q64q_l2 N k) d
abbrev q64q_l0_H:=(List (List Int)×List (List Int)×List (List Int)×Unit)×List (List Int)×Int×Unit
abbrev q64q_l0_O:=((List (List Int)×List (List Int)×List (List Int)×Unit)×List (List Int)×Unit)⊕Empty
def q64q_l0_h:Form:=[(1,.box K_PZSiSSiSSiq 0),(3,.own K_SSi 100),(4,.v I)]
def q64q_l0_o:Outs:=[(.normal,[(1,.box K_PZSiSSiSSiq 0),(3,.own K_SSi 100)])]
noncomputable def q64q_l0_r (N:Nat) (back:q64q_l0_H->Option q64q_l0_O) (d:q64q_l0_H):Option q64q_l0_O:=
 let s1:=d.1
 let s3:=d.2.1
 let s4:=d.2.2.1
 if (decide (s4<(List.length s1.1:Int)))=true then
  (q64q_l2 N N ((s1,(s3,(s4,(([]:List Int),((0:Int),()))))))).bind fun o28=>match o28 with
  | .inl d29=>
   if (decide (List.length d29.2.1+List.length ([d29.2.2.2.1])<=lim))=true then
   let x30:=IntKind.wrap .i64 (d29.2.2.1+(1:Int))
   back ((d29.1,(d29.2.1++([d29.2.2.2.1]),(x30,()))))
   else none
 else
  some (.inl ((s1,(s3,()))))
noncomputable def q64q_l0 (N:Nat):Nat->q64q_l0_H->Option q64q_l0_O
 | 0,_=>none
 | k+1,d=>q64q_l0_r N (q64q_l0 N k) d
abbrev q64q_l10_H:=(List (List Int)×List (List Int)×List (List Int)×Unit)×List (List Int)×Int×List (List Int)×Bool×Int×List Int×Int×Int×Unit
abbrev q64q_l10_O:=((List (List Int)×List (List Int)×List (List Int)×Unit)×List (List Int)×Int×List (List Int)×Bool×Int×List Int×Int×Unit)⊕Empty
def q64q_l10_h:Form:=[(1,.box K_PZSiSSiSSiq 0),(3,.own K_SSi 100),(7,.v I),(8,.own K_SSi 100),(9,.v .bool),(10,.v I),(11,.own K_Si 99),(12,.v I),(13,.v I)]
def q64q_l10_o:Outs:=[(.normal,[(1,.box K_PZSiSSiSSiq 0),(3,.own K_SSi 100),(7,.v I),(8,.own K_SSi 100),(9,.v .bool),(10,.v I),(11,.own K_Si 99),(12,.v I)])]
noncomputable def q64q_l10_r (N:Nat) (back:q64q_l10_H->Option q64q_l10_O) (d:q64q_l10_H):Option q64q_l10_O:=
 let s1:=d.1
 let s3:=d.2.1
 let s7:=d.2.2.1
 let s8:=d.2.2.2.1
 let s9:=d.2.2.2.2.1
 let s10:=d.2.2.2.2.2.1
 let s11:=d.2.2.2.2.2.2.1
 let s12:=d.2.2.2.2.2.2.2.1
 let s13:=d.2.2.2.2.2.2.2.2.1
 if (idxIn s10 (List.length s1.2.1))=true then
 if (decide (s13<(List.length (at_ K_Si s1.2.1 s10.toNat):Int)))=true then
  if (idxIn s12 (List.length s11))=true then
  if (decide (at_ I s11 s12.toNat<(0:Int)))=true then
   if (idxIn s10 (List.length s1.2.1))=true then
   if (idxIn s13 (List.length (at_ K_Si s1.2.1 s10.toNat)))=true then
   (G_l4After ((s1,(s3,(at_ I (at_ K_Si s1.2.1 s10.toNat) s13.toNat,(s12,())))))).bind fun r65=>
   if (decide (r65.1>=(0:Int)))=true then
    if (idxIn s12 (List.length s11))=true then
    let x66:=IntKind.wrap .i64 (s13+(1:Int))
    back ((s1,(s3,(s7,(s8,(true,(s10,(List.set s11 s12.toNat s7,(s12,(x66,()))))))))))
    else none
   else
    let x67:=IntKind.wrap .i64 (s13+(1:Int))
    back ((s1,(s3,(s7,(s8,(s9,(s10,(s11,(s12,(x67,()))))))))))
   else none
   else none
  else
   some (.inl ((s1,(s3,(s7,(s8,(s9,(s10,(s11,(s12,()))))))))))
  else none
 else
  some (.inl ((s1,(s3,(s7,(s8,(s9,(s10,(s11,(s12,()))))))))))
 else none
noncomputable def q64q_l10 (N:Nat):Nat->q64q_l10_H->Option q64q_l10_O
 | 0,_=>none
 | k+1,d=>q64q_l10_r N (q64q_l10 N k) d
abbrev q64q_l8_H:=(List (List Int)×List (List Int)×List (List Int)×Unit)×List (List Int)×Int×List (List Int)×Bool×Int×List Int×Int×Unit
abbrev q64q_l8_O:=((List (List Int)×List (List Int)×List (List Int)×Unit)×List (List Int)×Int×List (List Int)×Bool×Int×List Int×Unit)⊕Empty
def q64q_l8_h:Form:=[(1,.box K_PZSiSSiSSiq 0),(3,.own K_SSi 100),(7,.v I),(8,.own K_SSi 100),(9,.v .bool),(10,.v I),(11,.own K_Si 99),(12,.v I)]
def q64q_l8_o:Outs:=[(.normal,[(1,.box K_PZSiSSiSSiq 0),(3,.own K_SSi 100),(7,.v I),(8,.own K_SSi 100),(9,.v .bool),(10,.v I),(11,.own K_Si 99)])]
noncomputable def q64q_l8_r (N:Nat) (back:q64q_l8_H->Option q64q_l8_O) (d:q64q_l8_H):Option q64q_l8_O:=
 let s1:=d.1
 let s3:=d.2.1
 let s7:=d.2.2.1
 let s8:=d.2.2.2.1
 let s9:=d.2.2.2.2.1
 let s10:=d.2.2.2.2.2.1
 let s11:=d.2.2.2.2.2.2.1
 let s12:=d.2.2.2.2.2.2.2.1
 if (decide (s12<(List.length s11:Int)))=true then
  (q64q_l10 N N ((s1,(s3,(s7,(s8,(s9,(s10,(s11,(s12,((0:Int),()))))))))))).bind fun o62=>match o62 with
  | .inl d63=>
   let x64:=IntKind.wrap .i64 (d63.2.2.2.2.2.2.2.1+(1:Int))
   back ((d63.1,(d63.2.1,(d63.2.2.1,(d63.2.2.2.1,(d63.2.2.2.2.1,(d63.2.2.2.2.2.1,(d63.2.2.2.2.2.2.1,(x64,())))))))))
 else
  some (.inl ((s1,(s3,(s7,(s8,(s9,(s10,(s11,())))))))))
noncomputable def q64q_l8 (N:Nat):Nat->q64q_l8_H->Option q64q_l8_O
 | 0,_=>none
 | k+1,d=>q64q_l8_r N (q64q_l8 N k) d
abbrev q64q_l6_H:=(List (List Int)×List (List Int)×List (List Int)×Unit)×List (List Int)×Int×List (List Int)×Bool×Int×Unit
abbrev q64q_l6_O:=((List (List Int)×List (List Int)×List (List Int)×Unit)×Int×List (List Int)×Bool×Unit)⊕Empty
def q64q_l6_h:Form:=[(1,.box K_PZSiSSiSSiq 0),(3,.own K_SSi 100),(7,.v I),(8,.own K_SSi 100),(9,.v .bool),(10,.v I)]
def q64q_l6_o:Outs:=[(.normal,[(1,.box K_PZSiSSiSSiq 0),(7,.v I),(8,.own K_SSi 100),(9,.v .bool)])]
noncomputable def q64q_l6_r (N:Nat) (back:q64q_l6_H->Option q64q_l6_O) (d:q64q_l6_H):Option q64q_l6_O:=
 let s1:=d.1
 let s3:=d.2.1
 let s7:=d.2.2.1
 let s8:=d.2.2.2.1
 let s9:=d.2.2.2.2.1
 let s10:=d.2.2.2.2.2.1
 if (decide (s10<(List.length s3:Int)))=true then
  if (idxIn s10 (List.length s3))=true then
  ((F_spec_l1Own 0) (at_ K_Si s3 s10.toNat,())).bind fun r48=>
  (q64q_l8 N N ((s1,(s3,(s7,(s8,(s9,(s10,(r48.1,((0:Int),())))))))))).bind fun o55=>match o55 with
  | .inl d56=>
   if (decide (List.length d56.2.2.2.1+List.length ([d56.2.2.2.2.2.2.1])<=lim))=true then
   let x57:=d56.2.2.2.1++([d56.2.2.2.2.2.2.1])
   let x58:=IntKind.wrap .i64 (d56.2.2.2.2.2.1+(1:Int))
   back ((d56.1,(d56.2.1,(d56.2.2.1,(x57,(d56.2.2.2.2.1,(x58,())))))))
   else none
  else none
 else
  some (.inl ((s1,(s7,(s8,(s9,()))))))
noncomputable def q64q_l6 (N:Nat):Nat->q64q_l6_H->Option q64q_l6_O
 | 0,_=>none
 | k+1,d=>q64q_l6_r N (q64q_l6 N k) d
abbrev q64q_l4_H:=(List (List Int)×List (List Int)×List (List Int)×Unit)×List (List Int)×Int×Unit
abbrev q64q_l4_O:=(List (List Int)×Unit)⊕Empty
def q64q_l4_h:Form:=[(1,.box K_PZSiSSiSSiq 0),(3,.own K_SSi 100),(7,.v I)]
def q64q_l4_o:Outs:=[(.ret,[(2,.own K_SSi 100)])]
noncomputable def q64q_l4_r (N:Nat) (back:q64q_l4_H->Option q64q_l4_O) (d:q64q_l4_H):Option q64q_l4_O:=
 let s1:=d.1
 let s3:=d.2.1
 let s7:=d.2.2.1
 (q64q_l6 N N ((s1,(s3,(s7,(([]:List (List Int)),(false,((0:Int),())))))))).bind fun o45=>match o45 with
 | .inl d46=>
  if (!d46.2.2.2.1)=true then
   some (.inl (d46.2.2.1,()))
  else
   let x47:=IntKind.wrap .i64 (d46.2.1+(1:Int))
   back ((d46.1,(d46.2.2.1,(x47,()))))
noncomputable def q64q_l4 (N:Nat):Nat->q64q_l4_H->Option q64q_l4_O
 | 0,_=>none
 | k+1,d=>q64q_l4_r N (q64q_l4 N k) d
noncomputable def F_q64q (N:Nat) (d:(List (List Int)×List (List Int)×List (List Int)×Unit)×Unit):Option (List (List Int)×Unit):=
 let a0:=d.1
 (q64q_l0 N N ((a0,(([]:List (List Int)),((0:Int),()))))).bind fun o7=>match o7 with
 | .inl d8=>
  (q64q_l4 N N ((d8.1,(d8.2.1,((1:Int),()))))).bind fun o23=>match o23 with
  | .inl d24=>
   some (d24.1,())
noncomputable def S_q64q:FSig:=⟨[(K_PZSiSSiSSiq,false)],[K_SSi],true,(G_l4Times)⟩
noncomputable def Γ_q56q:Ctx:={ tk:=assoc tks,ar:=assoc ars,fs:=assoc [(120,S_q68q)] }
abbrev q56q_l0_H:=List Int×Int×Int×Unit
abbrev q56q_l0_O:=(Int×Unit)⊕(Int×Unit)⊕Empty
def q56q_l0_h:Form:=[(0,.v K_Si),(3,.v I),(4,.v I)]
def q56q_l0_o:Outs:=[(.ret,[(2,.v I)]),(.normal,[(3,.v I)])]
noncomputable def q56q_l0_r (N:Nat) (back:q56q_l0_H->Option q56q_l0_O) (d:q56q_l0_H):Option q56q_l0_O:=
 let s0:=d.1
 let s3:=d.2.1
 let s4:=d.2.2.1
 if (decide (s4<(List.length s0:Int)))=true then
  if (idxIn s4 (List.length s0))=true then
  if (decide (at_ I s0 s4.toNat<(0:Int)))=true then
   some (.inl ((-1:Int),()))
  else
   if (idxIn s4 (List.length s0))=true then
   let r6:=g_q68q ((s3,(at_ I s0 s4.toNat,())))
   let x7:=IntKind.wrap .i64 (s4+(1:Int))
   back ((s0,(r6.1,(x7,()))))
   else none
  else none
 else
  some (.inr (.inl (s3,())))
noncomputable def q56q_l0 (N:Nat):Nat->q56q_l0_H->Option q56q_l0_O
 | 0,_=>none
 | k+1,d=>q56q_l0_r N (q56q_l0 N k) d
noncomputable def F_q56q (N:Nat) (d:List Int×Unit):Option (Int×Unit):=
 let a0:=d.1
 (q56q_l0 N N ((a0,((0:Int),((0:Int),()))))).bind fun o3=>match o3 with
 | .inl d4=>
  some (d4.1,())
 | .inr (.inl d5)=>
  some (d5.1,())
noncomputable def S_q56q:FSig:=⟨[(K_Si,false)],[I],true,(G_l4Worst)⟩
noncomputable def Γ_q69q:Ctx:={ tk:=assoc tks,ar:=assoc ars,fs:=assoc [(73,S_q73q),(74,S_q64q),(75,S_q56q)] }
abbrev q69q_l0_H:=List (List Int)×Int×Unit
abbrev q69q_l0_O:=(Bool×Unit)⊕Unit⊕Empty
def q69q_l0_h:Form:=[(5,.own K_SSi 99),(6,.v I)]
def q69q_l0_o:Outs:=[(.ret,[(4,.v .bool)]),(.normal,[])]
noncomputable def q69q_l0_r (N:Nat) (back:q69q_l0_H->Option q69q_l0_O) (d:q69q_l0_H):Option q69q_l0_O:=
 let s5:=d.1
 let s6:=d.2.1
 if (decide (s6<(List.length s5:Int)))=true then
  if (idxIn s6 (List.length s5))=true then
  (G_l4Worst (at_ K_Si s5 s6.toNat,())).bind fun r8=>
  if (decide (r8.1>=(0:Int)))=true then
   some (.inl (true,()))
  else
   let x9:=IntKind.wrap .i64 (s6+(1:Int))
   back ((s5,(x9,())))
  else none
 else
  some (.inr (.inl ()))
noncomputable def q69q_l0 (N:Nat):Nat->q69q_l0_H->Option q69q_l0_O
 | 0,_=>none
 | k+1,d=>q69q_l0_r N (q69q_l0 N k) d
noncomputable def F_q69q (N:Nat) (d:(Int×(List (Int×Int×Unit))×Unit)×Int×Unit):Option (Bool×Unit):=
 let a0:=d.1
 let a1:=d.2.1
 (G_l4Make ((a0,(a1,())))).bind fun r1=>
 (G_l4Times (r1.1,())).bind fun r2=>
 (q69q_l0 N N ((r2.1,((0:Int),())))).bind fun o5=>match o5 with
 | .inl d6=>
  some (d6.1,())
 | .inr (.inl d7)=>
  some (false,())
noncomputable def S_q69q:FSig:=⟨[(K_PiSPiiqq,false),(I,false)],[.bool],true,(G_l4Wins)⟩
noncomputable def Γ_q44q:Ctx:={ tk:=assoc tks,ar:=assoc ars,fs:=assoc [(50,S_q63q),(66,S_q69q)] }
abbrev q44q_l0_H:=(Int×(List (Int×Int×Unit))×Unit)×Int×Unit
abbrev q44q_l0_O:=(Int×Bool×Unit)⊕Unit⊕Empty
def q44q_l0_h:Form:=[(1,.box K_PiSPiiqq 0),(4,.v I)]
def q44q_l0_o:Outs:=[(.ret,[(2,.v I),(3,.v .bool)]),(.normal,[])]
noncomputable def q44q_l0_r (N:Nat) (back:q44q_l0_H->Option q44q_l0_O) (d:q44q_l0_H):Option q44q_l0_O:=
 let s1:=d.1
 let s4:=d.2.1
 if (decide (s4<=(3:Int)))=true then
  (G_l4Wins ((s1,(s4,())))).bind fun r7=>
  if (r7.1)=true then
   some (.inl ((s4,(true,()))))
  else
   let x8:=IntKind.wrap .i64 (s4+(1:Int))
   back ((s1,(x8,())))
 else
  some (.inr (.inl ()))
noncomputable def q44q_l0 (N:Nat):Nat->q44q_l0_H->Option q44q_l0_O
 | 0,_=>none
 | k+1,d=>q44q_l0_r N (q44q_l0 N k) d
noncomputable def F_q44q (N:Nat) (d:(Int×(List (Int×Int×Unit))×Unit)×Unit):Option (Int×Bool×Unit):=
 let a0:=d.1
 ((F_q63q 0) ((a0,((1:Int),())))).bind fun r1=>
 if (!r1.1)=true then
  some (((0:Int),(false,())))
 else
  (q44q_l0 N N ((a0,((1:Int),())))).bind fun o4=>match o4 with
  | .inl d5=>
   some ((d5.1,(d5.2.1,())))
  | .inr (.inl d6)=>
   some (((0:Int),(false,())))
noncomputable def S_q44q:FSig:=⟨[(K_PiSPiiqq,false)],[I,.bool],true,(G_copNum)⟩
noncomputable def Γ_q46q:Ctx:={ tk:=assoc tks,ar:=assoc ars,fs:=assoc [(91,S_impl_setOf)] }
abbrev q46q_l0_H:=Int×(List Int×Unit)×Int×List Int×Int×Int×Unit
abbrev q46q_l0_O:=(Int×Unit)⊕Empty
def q46q_l0_h:Form:=[(1,.v I),(2,.box K_PSiq 0),(5,.v I),(9,.own K_Si 99),(10,.v I),(11,.v I)]
def q46q_l0_o:Outs:=[(.normal,[(5,.v I)])]
noncomputable def q46q_l0_r (N:Nat) (back:q46q_l0_H->Option q46q_l0_O) (d:q46q_l0_H):Option q46q_l0_O:=
 let s1:=d.1
 let s2:=d.2.1
 let s5:=d.2.2.1
 let s9:=d.2.2.2.1
 let s10:=d.2.2.2.2.1
 let s11:=d.2.2.2.2.2.1
 if (decide (s11<s10))=true then
  if (idxIn s11 (List.length s9))=true then
  if (idxIn (at_ I s9 s11.toNat) (List.length s2.1))=true then
  let x8:=bits .andNot .i64 (at_ I s2.1 (at_ I s9 s11.toNat).toNat) s1
  if (x8 != (0:Int))=true then
   if (decide (0<=at_ I s9 s11.toNat))=true then
   let x9:=shl .i64 (1:Int) (at_ I s9 s11.toNat)
   let x10:=IntKind.wrap .i64 (s11+(1:Int))
   back ((s1,(s2,(bits .or .i64 s5 x9,(s9,(s10,(x10,())))))))
   else none
  else
   let x11:=IntKind.wrap .i64 (s11+(1:Int))
   back ((s1,(s2,(s5,(s9,(s10,(x11,())))))))
  else none
  else none
 else
  some (.inl (s5,()))
noncomputable def q46q_l0 (N:Nat):Nat->q46q_l0_H->Option q46q_l0_O
 | 0,_=>none
 | k+1,d=>q46q_l0_r N (q46q_l0 N k) d
noncomputable def F_q46q (N:Nat) (d:(List Int×Unit)×Int×Unit):Option (Int×Unit):=
 let a0:=d.1
 let a1:=d.2.1
 (G_setOf (a1,())).bind fun r1=>
 (q46q_l0 N N ((a1,(a0,((0:Int),(r1.1,((List.length r1.1:Int),((0:Int),())))))))).bind fun o6=>match o6 with
 | .inl d7=>
  some (d7.1,())
noncomputable def S_q46q:FSig:=⟨[(K_PSiq,false),(I,false)],[I],true,(G_netFront)⟩
noncomputable def Γ_q9q:Ctx:={ tk:=assoc tks,ar:=assoc ars,fs:=assoc [] }
noncomputable def F_q9q (N:Nat) (d:Int×Unit):Option (Int×Unit):=
 let a0:=d.1
 if (decide (0<=(1:Int)))=true then
 let x1:=bits .and .u64 (shr .u64 a0 (1:Int)) (6148914691236517205:Int)
 let x2:=bits .and .u64 a0 (6148914691236517205:Int)
 if (decide (0<=(2:Int)))=true then
 let x3:=shr .u64 (IntKind.wrap .u64 (x1+x2)) (2:Int)
 let x4:=bits .and .u64 x3 (3689348814741910323:Int)
 let x5:=bits .and .u64 (IntKind.wrap .u64 (x1+x2)) (3689348814741910323:Int)
 if (decide (0<=(4:Int)))=true then
 let x6:=shr .u64 (IntKind.wrap .u64 (x4+x5)) (4:Int)
 let x7:=IntKind.wrap .u64 (x6+IntKind.wrap .u64 (x4+x5))
 let x8:=bits .and .u64 x7 (1085102592571150095:Int)
 if (decide (0<=(8:Int)))=true then
 let x9:=IntKind.wrap .u64 (x8+shr .u64 x8 (8:Int))
 if (decide (0<=(16:Int)))=true then
 let x10:=IntKind.wrap .u64 (x9+shr .u64 x9 (16:Int))
 if (decide (0<=(32:Int)))=true then
 let x11:=IntKind.wrap .u64 (x10+shr .u64 x10 (32:Int))
 let x12:=bits .and .i64 (IntKind.wrap .i64 x11) (127:Int)
 some (x12,())
 else none
 else none
 else none
 else none
 else none
 else none
noncomputable def S_q9q:FSig:=⟨[((.int .u64),false)],[I],true,(F_q9q 0)⟩
noncomputable def Γ_q14q:Ctx:={ tk:=assoc tks,ar:=assoc ars,fs:=assoc [(188,S_q9q)] }
noncomputable def F_q14q (N:Nat) (d:Int×Unit):Option (Int×Unit):=
 let a0:=d.1
 ((F_q9q 0) (a0,())).bind fun r1=>
 some (r1.1,())
noncomputable def S_q14q:FSig:=⟨[((.int .u64),false)],[I],true,(F_q14q 0)⟩
noncomputable def Γ_q17q:Ctx:={ tk:=assoc tks,ar:=assoc ars,fs:=assoc [(167,S_q14q),(168,S_q46q)] }
noncomputable def F_q17q (N:Nat) (d:(List Int×Unit)×Int×Int×Unit):Option (Int×Unit):=
 let a0:=d.1
 let a1:=d.2.1
 let a2:=d.2.2.1
 if (decide (0<=a2))=true then
 let x1:=bits .or .i64 a1 (shl .i64 (1:Int) a2)
 (G_netFront ((a0,(x1,())))).bind fun r2=>
 ((F_q14q 0) (IntKind.wrap .u64 r2.1,())).bind fun r3=>
 some (r3.1,())
 else none
noncomputable def S_q17q:FSig:=⟨[(K_PSiq,false),(I,false),(I,false)],[I],true,(F_q17q 0)⟩
noncomputable def Γ_q62q:Ctx:={ tk:=assoc tks,ar:=assoc ars,fs:=assoc [] }
noncomputable def F_q62q (N:Nat) (d:(List Int×Unit)×Unit):Option (Int×Unit):=
 let a0:=d.1
 if (decide (0<=(List.length a0.1:Int)))=true then
 let x1:=shl .i64 (1:Int) (List.length a0.1:Int)
 let x2:=IntKind.wrap .i64 (x1-(1:Int))
 some (x2,())
 else none
noncomputable def S_q62q:FSig:=⟨[(K_PSiq,false)],[I],true,(F_q62q 0)⟩
noncomputable def FV_q17q (d:Int×Int×(((List Int×Unit)×Unit)×Unit)×Unit):Option (Int×Unit):=(F_q17q 0) (d.2.2.1.1.1,d.1,d.2.1,d.2.2.1.2)
noncomputable def SV_q17q:FSig:=⟨[(I,false),(I,false),(K_F_q17q_PPSiqqq,false)],[I],true,FV_q17q⟩
noncomputable def Γ_q5q:Ctx:={ tk:=assoc tks,ar:=assoc ars,fs:=assoc [(91,S_impl_setOf),(97,S_q62q)],cs:=assoc [(130,SV_q17q)] }
abbrev q5q_l2_H:=Int×(((List Int×Unit)×Unit)×Unit)×(List Int×Unit)×List Int×Int×List Int×Int×Int×Unit
abbrev q5q_l2_O:=(Int×(((List Int×Unit)×Unit)×Unit)×(List Int×Unit)×List Int×Int×Unit)⊕Empty
def q5q_l2_h:Form:=[(1,.v I),(2,.v K_F_q17q_PPSiqqq),(3,.box K_PSiq 0),(7,.own K_Si 99),(8,.v I),(30,.own K_Si 99),(31,.v I),(32,.v I)]
def q5q_l2_o:Outs:=[(.normal,[(1,.v I),(2,.v K_F_q17q_PPSiqqq),(3,.box K_PSiq 0),(7,.own K_Si 99),(8,.v I)])]
noncomputable def q5q_l2_r (N:Nat) (back:q5q_l2_H->Option q5q_l2_O) (d:q5q_l2_H):Option q5q_l2_O:=
 let s1:=d.1
 let s2:=d.2.1
 let s3:=d.2.2.1
 let s7:=d.2.2.2.1
 let s8:=d.2.2.2.2.1
 let s30:=d.2.2.2.2.2.1
 let s31:=d.2.2.2.2.2.2.1
 let s32:=d.2.2.2.2.2.2.2.1
 if (decide (s32<s31))=true then
  if (idxIn s32 (List.length s30))=true then
  (FV_q17q ((s8,(at_ I s30 s32.toNat,(s2,()))))).bind fun r29=>
  if (decide (0<=at_ I s30 s32.toNat))=true then
  let x30:=shl .i64 (1:Int) (at_ I s30 s32.toNat)
  if (idxIn (bits .or .i64 s8 x30) (List.length s7))=true then
  let x31:=if r29.1<at_ I s7 (bits .or .i64 s8 x30).toNat then at_ I s7 (bits .or .i64 s8 x30).toNat else r29.1
  if (s32==(0:Int))=true then
   if (idxIn s8 (List.length s7))=true then
   let x32:=IntKind.wrap .i64 (s32+(1:Int))
   back ((s1,(s2,(s3,(List.set s7 s8.toNat x31,(s8,(s30,(s31,(x32,())))))))))
   else none
  else
   if (idxIn s8 (List.length s7))=true then
   if (decide (x31<at_ I s7 s8.toNat))=true then
    if (idxIn s8 (List.length s7))=true then
    let x33:=IntKind.wrap .i64 (s32+(1:Int))
    back ((s1,(s2,(s3,(List.set s7 s8.toNat x31,(s8,(s30,(s31,(x33,())))))))))
    else none
   else
    let x34:=IntKind.wrap .i64 (s32+(1:Int))
    back ((s1,(s2,(s3,(s7,(s8,(s30,(s31,(x34,())))))))))
   else none
  else none
  else none
  else none
 else
  some (.inl ((s1,(s2,(s3,(s7,(s8,())))))))
noncomputable def q5q_l2 (N:Nat):Nat->q5q_l2_H->Option q5q_l2_O
 | 0,_=>none
 | k+1,d=>q5q_l2_r N (q5q_l2 N k) d
abbrev q5q_l0_H:=Int×(((List Int×Unit)×Unit)×Unit)×(List Int×Unit)×List Int×Int×Unit
abbrev q5q_l0_O:=(List Int×Unit)⊕Empty
def q5q_l0_h:Form:=[(1,.v I),(2,.v K_F_q17q_PPSiqqq),(3,.box K_PSiq 0),(7,.own K_Si 99),(8,.v I)]
def q5q_l0_o:Outs:=[(.normal,[(7,.own K_Si 99)])]
noncomputable def q5q_l0_r (N:Nat) (back:q5q_l0_H->Option q5q_l0_O) (d:q5q_l0_H):Option q5q_l0_O:=
 let s1:=d.1
 let s2:=d.2.1
 let s3:=d.2.2.1
 let s7:=d.2.2.2.1
 let s8:=d.2.2.2.2.1
 if (decide (s8>=(0:Int)))=true then
  if (idxIn s8 (List.length s7))=true then
  ((F_q62q 0) (s3,())).bind fun r18=>
  (G_setOf (bits .andNot .i64 r18.1 s8,())).bind fun r19=>
  (q5q_l2 N N ((s1,(s2,(s3,(List.set s7 s8.toNat s1,(s8,(r19.1,((List.length r19.1:Int),((0:Int),())))))))))).bind fun o26=>match o26 with
  | .inl d27=>
   let x28:=IntKind.wrap .i64 (d27.2.2.2.2.1-(1:Int))
   back ((d27.1,(d27.2.1,(d27.2.2.1,(d27.2.2.2.1,(x28,()))))))
  else none
 else
  some (.inl (s7,()))
noncomputable def q5q_l0 (N:Nat):Nat->q5q_l0_H->Option q5q_l0_O
 | 0,_=>none
 | k+1,d=>q5q_l0_r N (q5q_l0 N k) d
noncomputable def F_q5q (N:Nat) (d:(List Int×Unit)×Int×(((List Int×Unit)×Unit)×Unit)×Unit):Option (List Int×Unit):=
 let a0:=d.1
 let a1:=d.2.1
 let a2:=d.2.2.1
 ((F_q62q 0) (a0,())).bind fun r1=>
 let x2:=IntKind.wrap .i64 (r1.1+(1:Int))
 if ((decide (0<=x2)&&decide (x2<=x2)&&decide (x2<=(lim:Int))))=true then
 let x3:=List.replicate x2.toNat (0:Int)
 ((F_q62q 0) (a0,())).bind fun r4=>
 (q5q_l0 N N ((a1,(a2,(a0,(x3,(r4.1,()))))))).bind fun o16=>match o16 with
 | .inl d17=>
  some (d17.1,())
 else none
noncomputable def S_q5q:FSig:=⟨[(K_PSiq,false),(I,false),(K_F_q17q_PPSiqqq,false)],[K_Si],true,(G_bestO)⟩
noncomputable def Γ_q18q:Ctx:={ tk:=assoc tks,ar:=assoc ars,fs:=assoc [(129,S_q5q)] }
noncomputable def F_q18q (N:Nat) (d:(List Int×Unit)×Unit):Option (Int×Unit):=
 let a0:=d.1
 (G_bestO ((a0,((0:Int),(((a0,()),()),()))))).bind fun r1=>
 if (idxIn (0:Int) (List.length r1.1))=true then
 some (at_ I r1.1 (0:Int).toNat,())
 else none
noncomputable def S_q18q:FSig:=⟨[(K_PSiq,false)],[I],true,(F_q18q 0)⟩
noncomputable def Γ_q31q:Ctx:={ tk:=assoc tks,ar:=assoc ars,fs:=assoc [(20,S_q59q),(54,S_impl_netOf),(69,S_q18q)] }
noncomputable def F_q31q (N:Nat) (d:(Int×(List (Int×Int×Unit))×Unit)×Unit):Option (Int×Bool×Unit):=
 let a0:=d.1
 (G_graph (a0,())).bind fun r1=>
 if (!r1.1)=true then
  some (((0:Int),(false,())))
 else
  (G_netOf (a0,())).bind fun r2=>
  ((F_q18q 0) (r2.1,())).bind fun r3=>
  some ((r3.1,(true,())))
noncomputable def S_q31q:FSig:=⟨[(K_PiSPiiqq,false)],[I,.bool],true,(F_q31q 0)⟩
noncomputable def Γ_q72q:Ctx:={ tk:=assoc tks,ar:=assoc ars,fs:=assoc [] }
abbrev q72q_l0_H:=Int×Int×List Int×Int×Unit
abbrev q72q_l0_O:=(List Int×Unit)⊕Empty
def q72q_l0_h:Form:=[(0,.v I),(1,.v I),(5,.own K_Si 99),(6,.v I)]
def q72q_l0_o:Outs:=[(.normal,[(5,.own K_Si 99)])]
noncomputable def q72q_l0_r (N:Nat) (back:q72q_l0_H->Option q72q_l0_O) (d:q72q_l0_H):Option q72q_l0_O:=
 let s0:=d.1
 let s1:=d.2.1
 let s5:=d.2.2.1
 let s6:=d.2.2.2.1
 if (decide (s6<s0))=true then
  if (decide (0<=s6))=true then
  let x6:=bits .and .i64 (shr .i64 s1 s6) (1:Int)
  if (x6==(1:Int))=true then
   if (decide (List.length s5+List.length ([s6])<=lim))=true then
   let x7:=IntKind.wrap .i64 (s6+(1:Int))
   back ((s0,(s1,(s5++([s6]),(x7,())))))
   else none
  else
   let x8:=IntKind.wrap .i64 (s6+(1:Int))
   back ((s0,(s1,(s5,(x8,())))))
  else none
 else
  some (.inl (s5,()))
noncomputable def q72q_l0 (N:Nat):Nat->q72q_l0_H->Option q72q_l0_O
 | 0,_=>none
 | k+1,d=>q72q_l0_r N (q72q_l0 N k) d
noncomputable def F_q72q (N:Nat) (d:Int×Int×Unit):Option (List Int×Unit):=
 let a0:=d.1
 let a1:=d.2.1
 (q72q_l0 N N ((a0,(a1,(([]:List Int),((0:Int),())))))).bind fun o4=>match o4 with
 | .inl d5=>
  some (d5.1,())
noncomputable def S_q72q:FSig:=⟨[(I,false),(I,false)],[K_Si],true,(G_l2Bits)⟩
noncomputable def Γ_q61q:Ctx:={ tk:=assoc tks,ar:=assoc ars,fs:=assoc [(121,S_q71q),(138,S_spec_l1Has),(159,S_spec_l1Put)],dm:=fun t=>Nat.beq t 5,cs:=assoc [] }
abbrev q61q_l2_H:=List Int×(Int×(List (Int×Int×Unit))×Unit)×List Int×Int×Int×Unit
abbrev q61q_l2_O:=(List Int×(Int×(List (Int×Int×Unit))×Unit)×List Int×Int×Unit)⊕Empty
def q61q_l2_h:Form:=[(1,.v K_Si),(2,.box K_PiSPiiqq 0),(5,.v K_Si),(6,.v I),(7,.v I)]
def q61q_l2_o:Outs:=[(.normal,[(1,.v K_Si),(2,.box K_PiSPiiqq 0),(5,.v K_Si),(6,.v I)])]
noncomputable def q61q_l2_r (N:Nat) (back:q61q_l2_H->Option q61q_l2_O) (d:q61q_l2_H):Option q61q_l2_O:=
 let s1:=d.1
 let s2:=d.2.1
 let s5:=d.2.2.1
 let s6:=d.2.2.2.1
 let s7:=d.2.2.2.2.1
 if (decide (s7<s2.1))=true then
  if (idxIn s6 (List.length s1))=true then
  (G_l2Near ((s2,(at_ I s1 s6.toNat,(s7,()))))).bind fun r32=>
  if (r32.1)=true then
   (G_l1Has ((s1,(s7,())))).bind fun r33=>
   if (!r33.1)=true then
    if (idxIn s6 (List.length s1))=true then
    (G_l1Put ((s5,(at_ I s1 s6.toNat,())))).bind fun r34=>
    let x35:=IntKind.wrap .i64 (s7+(1:Int))
    back ((s1,(s2,(r34.1,(s6,(x35,()))))))
    else none
   else
    let x36:=IntKind.wrap .i64 (s7+(1:Int))
    back ((s1,(s2,(s5,(s6,(x36,()))))))
  else
   let x37:=IntKind.wrap .i64 (s7+(1:Int))
   back ((s1,(s2,(s5,(s6,(x37,()))))))
  else none
 else
  some (.inl ((s1,(s2,(s5,(s6,()))))))
noncomputable def q61q_l2 (N:Nat):Nat->q61q_l2_H->Option q61q_l2_O
 | 0,_=>none
 | k+1,d=>q61q_l2_r N (q61q_l2 N k) d
abbrev q61q_l0_H:=List Int×(Int×(List (Int×Int×Unit))×Unit)×List Int×Int×Unit
abbrev q61q_l0_O:=(List Int×Unit)⊕Empty
def q61q_l0_h:Form:=[(1,.v K_Si),(2,.box K_PiSPiiqq 0),(5,.v K_Si),(6,.v I)]
def q61q_l0_o:Outs:=[(.normal,[(5,.v K_Si)])]
noncomputable def q61q_l0_r (N:Nat) (back:q61q_l0_H->Option q61q_l0_O) (d:q61q_l0_H):Option q61q_l0_O:=
 let s1:=d.1
 let s2:=d.2.1
 let s5:=d.2.2.1
 let s6:=d.2.2.2.1
 if (decide (s6<(List.length s1:Int)))=true then
  (q61q_l2 N N ((s1,(s2,(s5,(s6,((0:Int),()))))))).bind fun o29=>match o29 with
  | .inl d30=>
   let x31:=IntKind.wrap .i64 (d30.2.2.2.1+(1:Int))
   back ((d30.1,(d30.2.1,(d30.2.2.1,(x31,())))))
 else
  some (.inl (s5,()))
noncomputable def q61q_l0 (N:Nat):Nat->q61q_l0_H->Option q61q_l0_O
 | 0,_=>none
 | k+1,d=>q61q_l0_r N (q61q_l0 N k) d
noncomputable def F_q61q (N:Nat) (d:(Int×(List (Int×Int×Unit))×Unit)×List Int×Unit):Option (List Int×Unit):=
 let a0:=d.1
 let a1:=d.2.1
 (q61q_l0 N N ((a1,(a0,(([]:List Int),((0:Int),())))))).bind fun o21=>match o21 with
 | .inl d22=>
  some (d22.1,())
noncomputable def S_q61q:FSig:=⟨[(K_PiSPiiqq,false),(K_Si,false)],[K_Si],false,(G_l6Front)⟩
noncomputable def Γ_q51q:Ctx:={ tk:=assoc tks,ar:=assoc ars,fs:=assoc [(98,S_q72q),(120,S_q68q),(169,S_q61q)] }
abbrev q51q_l2_H:=(Int×(List (Int×Int×Unit))×Unit)×List Int×Int×Int×Int×Unit
abbrev q51q_l2_O:=((Int×(List (Int×Int×Unit))×Unit)×List Int×Int×Int×Unit)⊕Empty
def q51q_l2_h:Form:=[(1,.box K_PiSPiiqq 0),(3,.own K_Si 99),(4,.v I),(5,.v I),(6,.v I)]
def q51q_l2_o:Outs:=[(.normal,[(1,.box K_PiSPiiqq 0),(3,.own K_Si 99),(4,.v I),(5,.v I)])]
noncomputable def q51q_l2_r (N:Nat) (back:q51q_l2_H->Option q51q_l2_O) (d:q51q_l2_H):Option q51q_l2_O:=
 let s1:=d.1
 let s3:=d.2.1
 let s4:=d.2.2.1
 let s5:=d.2.2.2.1
 let s6:=d.2.2.2.2.1
 if (decide (s6<s1.1))=true then
  if (decide (0<=s6))=true then
  let x31:=bits .and .i64 (shr .i64 s4 s6) (1:Int)
  if (x31==(1:Int))=true then
   if (decide (s5<(0:Int)))=true then
    if (decide (0<=s6))=true then
    let x32:=IntKind.wrap .i64 (s4-shl .i64 (1:Int) s6)
    if (idxIn x32 (List.length s3))=true then
    let x33:=IntKind.wrap .i64 (s6+(1:Int))
    back ((s1,(s3,(s4,(at_ I s3 x32.toNat,(x33,()))))))
    else none
    else none
   else
    if (decide (0<=s6))=true then
    let x34:=IntKind.wrap .i64 (s4-shl .i64 (1:Int) s6)
    if (idxIn x34 (List.length s3))=true then
    if (decide (at_ I s3 x34.toNat<s5))=true then
     if (decide (0<=s6))=true then
     let x35:=IntKind.wrap .i64 (s4-shl .i64 (1:Int) s6)
     if (idxIn x35 (List.length s3))=true then
     let x36:=IntKind.wrap .i64 (s6+(1:Int))
     back ((s1,(s3,(s4,(at_ I s3 x35.toNat,(x36,()))))))
     else none
     else none
    else
     let x37:=IntKind.wrap .i64 (s6+(1:Int))
     back ((s1,(s3,(s4,(s5,(x37,()))))))
    else none
    else none
  else
   let x38:=IntKind.wrap .i64 (s6+(1:Int))
   back ((s1,(s3,(s4,(s5,(x38,()))))))
  else none
 else
  some (.inl ((s1,(s3,(s4,(s5,()))))))
noncomputable def q51q_l2 (N:Nat):Nat->q51q_l2_H->Option q51q_l2_O
 | 0,_=>none
 | k+1,d=>q51q_l2_r N (q51q_l2 N k) d
end Go.V.W
namespace Go.V.W
open Go.Proofs
abbrev q51q_l0_H:=(Int×(List (Int×Int×Unit))×Unit)×List Int×Int×Unit
abbrev q51q_l0_O:=(List Int×Unit)⊕Empty
def q51q_l0_h:Form:=[(1,.box K_PiSPiiqq 0),(3,.own K_Si 99),(4,.v I)]
def q51q_l0_o:Outs:=[(.normal,[(3,.own K_Si 99)])]
noncomputable def q51q_l0_r (N:Nat) (back:q51q_l0_H->Option q51q_l0_O) (d:q51q_l0_H):Option q51q_l0_O:=
 let s1:=d.1
 let s3:=d.2.1
 let s4:=d.2.2.1
 if (decide (0<=s1.1))=true then
 if (decide (s4<shl .i64 (1:Int) s1.1))=true then
  (q51q_l2 N N ((s1,(s3,(s4,((-1:Int),((0:Int),()))))))).bind fun o25=>match o25 with
  | .inl d26=>
   (G_l2Bits ((d26.1.1,(d26.2.2.1,())))).bind fun r27=>
   (G_l6Front ((d26.1,(r27.1,())))).bind fun r28=>
   let r29:=g_q68q ((d26.2.2.2.1,((List.length r28.1:Int),())))
   if (decide (List.length d26.2.1+List.length ([r29.1])<=lim))=true then
   let x30:=IntKind.wrap .i64 (d26.2.2.1+(1:Int))
   back ((d26.1,(d26.2.1++([r29.1]),(x30,()))))
   else none
 else
  some (.inl (s3,()))
 else none
noncomputable def q51q_l0 (N:Nat):Nat->q51q_l0_H->Option q51q_l0_O
 | 0,_=>none
 | k+1,d=>q51q_l0_r N (q51q_l0 N k) d
noncomputable def F_q51q (N:Nat) (d:(Int×(List (Int×Int×Unit))×Unit)×Unit):Option (List Int×Unit):=
 let a0:=d.1
 (q51q_l0 N N ((a0,([(0:Int)],((1:Int),()))))).bind fun o15=>match o15 with
 | .inl d16=>
  some (d16.1,())
noncomputable def S_q51q:FSig:=⟨[(K_PiSPiiqq,false)],[K_Si],true,(G_widths)⟩
noncomputable def Γ_q27q:Ctx:={ tk:=assoc tks,ar:=assoc ars,fs:=assoc [(132,S_q51q)] }
noncomputable def F_q27q (N:Nat) (d:(Int×(List (Int×Int×Unit))×Unit)×Unit):Option (Int×Unit):=
 let a0:=d.1
 (G_widths (a0,())).bind fun r1=>
 if (decide (0<=a0.1))=true then
 let x2:=IntKind.wrap .i64 (shl .i64 (1:Int) a0.1-(1:Int))
 if (idxIn x2 (List.length r1.1))=true then
 some (at_ I r1.1 x2.toNat,())
 else none
 else none
noncomputable def S_q27q:FSig:=⟨[(K_PiSPiiqq,false)],[I],true,(F_q27q 0)⟩
noncomputable def Γ_q33q:Ctx:={ tk:=assoc tks,ar:=assoc ars,fs:=assoc [(70,S_q76q),(71,S_q27q)] }
noncomputable def F_q33q (N:Nat) (d:(Int×(List (Int×Int×Unit))×Unit)×Unit):Option (Int×Bool×Unit):=
 let a0:=d.1
 (G_graph (a0,())).bind fun r1=>
 if (!r1.1)=true then
  some (((0:Int),(false,())))
 else
  ((F_q27q 0) (a0,())).bind fun r2=>
  some ((r2.1,(true,())))
noncomputable def S_q33q:FSig:=⟨[(K_PiSPiiqq,false)],[I,.bool],true,(F_q33q 0)⟩
noncomputable def Γ_q36q:Ctx:={ tk:=assoc tks,ar:=assoc ars,fs:=assoc [] }
abbrev q36q_l0_H:=Int×Int×List Int×Int×Int×Unit
abbrev q36q_l0_O:=(Int×Unit)⊕Empty
def q36q_l0_h:Form:=[(1,.v I),(5,.v I),(10,.v K_Si),(11,.v I),(12,.v I)]
def q36q_l0_o:Outs:=[(.normal,[(5,.v I)])]
noncomputable def q36q_l0_r (N:Nat) (back:q36q_l0_H->Option q36q_l0_O) (d:q36q_l0_H):Option q36q_l0_O:=
 let s1:=d.1
 let s5:=d.2.1
 let s10:=d.2.2.1
 let s11:=d.2.2.2.1
 let s12:=d.2.2.2.2.1
 if (decide (s12<s11))=true then
  if (idxIn s12 (List.length s10))=true then
  if (decide (0<=s12))=true then
  let x7:=bits .and .i64 (shr .i64 s1 s12) (1:Int)
  if (x7==(1:Int))=true then
   let x8:=bits .or .i64 s5 (at_ I s10 s12.toNat)
   let x9:=IntKind.wrap .i64 (s12+(1:Int))
   back ((s1,(x8,(s10,(s11,(x9,()))))))
  else
   let x10:=IntKind.wrap .i64 (s12+(1:Int))
   back ((s1,(s5,(s10,(s11,(x10,()))))))
  else none
  else none
 else
  some (.inl (s5,()))
noncomputable def q36q_l0 (N:Nat):Nat->q36q_l0_H->Option q36q_l0_O
 | 0,_=>none
 | k+1,d=>q36q_l0_r N (q36q_l0 N k) d
noncomputable def F_q36q (N:Nat) (d:(List Int×Unit)×Int×Unit):Option (Int×Unit):=
 let a0:=d.1
 let a1:=d.2.1
 (q36q_l0 N N ((a1,(a1,(a0.1,((List.length a0.1:Int),((0:Int),()))))))).bind fun o5=>match o5 with
 | .inl d6=>
  some (d6.1,())
noncomputable def S_q36q:FSig:=⟨[(K_PSiq,false),(I,false)],[I],true,(G_around)⟩
noncomputable def Γ_q42q:Ctx:={ tk:=assoc tks,ar:=assoc ars,fs:=assoc [(133,S_q36q)] }
abbrev q42q_l2_H:=Int×(List Int×Unit)×List Int×Int×Unit
abbrev q42q_l2_O:=(Int×(List Int×Unit)×List Int×Int×Unit)⊕Empty
def q42q_l2_h:Form:=[(1,.v I),(2,.box K_PSiq 0),(5,.own K_Si 99),(6,.v I)]
def q42q_l2_o:Outs:=[(.normal,[(1,.v I),(2,.box K_PSiq 0),(5,.own K_Si 99),(6,.v I)])]
noncomputable def q42q_l2_r (N:Nat) (back:q42q_l2_H->Option q42q_l2_O) (d:q42q_l2_H):Option q42q_l2_O:=
 let s1:=d.1
 let s2:=d.2.1
 let s5:=d.2.2.1
 let s6:=d.2.2.2.1
 (G_around ((s2,(s6,())))).bind fun r13=>
 if (bits .and .i64 r13.1 s1==s6)=true then
  some (.inl ((s1,(s2,(s5,(s6,()))))))
 else
  back ((s1,(s2,(s5,(bits .and .i64 r13.1 s1,())))))
noncomputable def q42q_l2 (N:Nat):Nat->q42q_l2_H->Option q42q_l2_O
 | 0,_=>none
 | k+1,d=>q42q_l2_r N (q42q_l2 N k) d
abbrev q42q_l0_H:=Int×(List Int×Unit)×List Int×Unit
abbrev q42q_l0_O:=(List Int×Unit)⊕Empty
def q42q_l0_h:Form:=[(1,.v I),(2,.box K_PSiq 0),(5,.own K_Si 99)]
def q42q_l0_o:Outs:=[(.normal,[(5,.own K_Si 99)])]
noncomputable def q42q_l0_r (N:Nat) (back:q42q_l0_H->Option q42q_l0_O) (d:q42q_l0_H):Option q42q_l0_O:=
 let s1:=d.1
 let s2:=d.2.1
 let s5:=d.2.2.1
 if (s1 != (0:Int))=true then
  let x8:=bits .and .i64 s1 (IntKind.wrap .i64 (0-s1))
  (q42q_l2 N N ((s1,(s2,(s5,(x8,())))))).bind fun o10=>match o10 with
  | .inl d11=>
   if (decide (List.length d11.2.2.1+List.length ([d11.2.2.2.1])<=lim))=true then
   let x12:=bits .andNot .i64 d11.1 d11.2.2.2.1
   back ((x12,(d11.2.1,(d11.2.2.1++([d11.2.2.2.1]),()))))
   else none
 else
  some (.inl (s5,()))
noncomputable def q42q_l0 (N:Nat):Nat->q42q_l0_H->Option q42q_l0_O
 | 0,_=>none
 | k+1,d=>q42q_l0_r N (q42q_l0 N k) d
noncomputable def F_q42q (N:Nat) (d:(List Int×Unit)×Int×Unit):Option (List Int×Unit):=
 let a0:=d.1
 let a1:=d.2.1
 (q42q_l0 N N ((a1,(a0,(([]:List Int),()))))).bind fun o6=>match o6 with
 | .inl d7=>
  some (d7.1,())
noncomputable def S_q42q:FSig:=⟨[(K_PSiq,false),(I,false)],[K_Si],true,(G_parts)⟩
noncomputable def Γ_q28q:Ctx:={ tk:=assoc tks,ar:=assoc ars,fs:=assoc [(20,S_q59q),(54,S_impl_netOf),(72,S_q42q)] }
noncomputable def F_q28q (N:Nat) (d:(Int×(List (Int×Int×Unit))×Unit)×Unit):Option (Bool×Bool×Unit):=
 let a0:=d.1
 (G_graph (a0,())).bind fun r1=>
 if (!r1.1)=true then
  some ((false,(false,())))
 else
  (G_netOf (a0,())).bind fun r2=>
  if (decide (0<=a0.1))=true then
  let x3:=IntKind.wrap .i64 (shl .i64 (1:Int) a0.1-(1:Int))
  (G_parts ((r2.1,(x3,())))).bind fun r4=>
  some ((decide ((List.length r4.1:Int)<=(1:Int)),(true,())))
  else none
noncomputable def S_q28q:FSig:=⟨[(K_PiSPiiqq,false)],[.bool,.bool],true,(F_q28q 0)⟩
noncomputable def Γ_q52q:Ctx:={ tk:=assoc tks,ar:=assoc ars,fs:=assoc [(53,S_q41q),(54,S_impl_netOf),(65,S_q22q)],cs:=assoc [],gs:=assoc [(64,(S_q26q,md0))],eqt:=inL [],md:=md0 }
noncomputable def F_q52q (N:Nat) (d:(Int×(List (Int×Int×Unit))×Unit)×Int×Unit):Option (Bool×Bool×Unit):=
 let a0:=d.1
 let a1:=d.2.1
 ((F_q41q 0) ((a0,(a1,())))).bind fun r1=>
 if (!r1.1)=true then
  some ((false,(false,())))
 else
  (G_netOf (a0,())).bind fun r2=>
  (G_copGame ((r2.1,(a1,())))).bind fun r3=>
  (G_copBest (r3.1,())).bind fun r4=>
  some ((r4.2.2.1,(true,())))
noncomputable def S_q52q:FSig:=⟨[(K_PiSPiiqq,false),(I,false)],[.bool,.bool],true,(F_q52q 0)⟩
noncomputable def Γ_q50q:Ctx:={ tk:=assoc tks,ar:=assoc ars,fs:=assoc [(53,S_q41q),(54,S_impl_netOf),(65,S_q22q)],cs:=assoc [],gs:=assoc [(64,(S_q26q,md0))],eqt:=inL [],md:=md0 }
noncomputable def F_q50q (N:Nat) (d:(Int×(List (Int×Int×Unit))×Unit)×Int×Unit):Option (List Int×Int×Bool×Unit):=
 let a0:=d.1
 let a1:=d.2.1
 ((F_q41q 0) ((a0,(a1,())))).bind fun r1=>
 if (!r1.1)=true then
  some ((([]:List Int),((0:Int),(false,()))))
 else
  (G_netOf (a0,())).bind fun r2=>
  (G_copGame ((r2.1,(a1,())))).bind fun r3=>
  (G_copBest (r3.1,())).bind fun r4=>
  some ((r4.1,(r4.2.1,(r4.2.2.1,()))))
noncomputable def S_q50q:FSig:=⟨[(K_PiSPiiqq,false),(I,false)],[K_Si,I,.bool],true,(F_q50q 0)⟩
noncomputable def Γ_q48q:Ctx:={ tk:=assoc tks,ar:=assoc ars,fs:=assoc [(50,S_q63q),(73,S_q73q),(74,S_q64q),(75,S_q56q),(76,S_spec_l1Own)] }
abbrev q48q_l0_H:=(List (List Int)×List (List Int)×List (List Int)×Unit)×List (List Int)×Int×Int×Unit
abbrev q48q_l0_O:=((List (List Int)×List (List Int)×List (List Int)×Unit)×List (List Int)×Int×Unit)⊕Empty
def q48q_l0_h:Form:=[(7,.box K_PZSiSSiSSiq 0),(8,.own K_SSi 99),(9,.v I),(10,.v I)]
def q48q_l0_o:Outs:=[(.normal,[(7,.box K_PZSiSSiSSiq 0),(8,.own K_SSi 99),(9,.v I)])]
noncomputable def q48q_l0_r (N:Nat) (back:q48q_l0_H->Option q48q_l0_O) (d:q48q_l0_H):Option q48q_l0_O:=
 let s7:=d.1
 let s8:=d.2.1
 let s9:=d.2.2.1
 let s10:=d.2.2.2.1
 if (decide (s10<(List.length s8:Int)))=true then
  if (idxIn s10 (List.length s8))=true then
  (G_l4Worst (at_ K_Si s8 s10.toNat,())).bind fun r14=>
  if (decide (r14.1>=(0:Int)))=true then
   if (decide (s9<(0:Int)))=true then
    let x15:=IntKind.wrap .i64 (s10+(1:Int))
    back ((s7,(s8,(s10,(x15,())))))
   else
    if (idxIn s9 (List.length s8))=true then
    (G_l4Worst (at_ K_Si s8 s9.toNat,())).bind fun r16=>
    if (decide (r14.1<r16.1))=true then
     let x17:=IntKind.wrap .i64 (s10+(1:Int))
     back ((s7,(s8,(s10,(x17,())))))
    else
     let x18:=IntKind.wrap .i64 (s10+(1:Int))
     back ((s7,(s8,(s9,(x18,())))))
    else none
  else
   let x19:=IntKind.wrap .i64 (s10+(1:Int))
   back ((s7,(s8,(s9,(x19,())))))
  else none
 else
  some (.inl ((s7,(s8,(s9,())))))
noncomputable def q48q_l0 (N:Nat):Nat->q48q_l0_H->Option q48q_l0_O
 | 0,_=>none
 | k+1,d=>q48q_l0_r N (q48q_l0 N k) d
noncomputable def F_q48q (N:Nat) (d:(Int×(List (Int×Int×Unit))×Unit)×Int×Unit):Option (List Int×Int×Bool×Unit):=
 let a0:=d.1
 let a1:=d.2.1
 ((F_q63q 0) ((a0,(a1,())))).bind fun r1=>
 if (!r1.1)=true then
  some ((([]:List Int),((0:Int),(false,()))))
 else
  (G_l4Make ((a0,(a1,())))).bind fun r2=>
  (G_l4Times (r2.1,())).bind fun r3=>
  (q48q_l0 N N ((r2.1,(r3.1,((-1:Int),((0:Int),())))))).bind fun o10=>match o10 with
  | .inl d11=>
   if (decide (d11.2.2.1<(0:Int)))=true then
    some ((([]:List Int),((0:Int),(false,()))))
   else
    if (idxIn d11.2.2.1 (List.length d11.1.1))=true then
    ((F_spec_l1Own 0) (at_ K_Si d11.1.1 d11.2.2.1.toNat,())).bind fun r12=>
    if (idxIn d11.2.2.1 (List.length d11.2.1))=true then
    (G_l4Worst (at_ K_Si d11.2.1 d11.2.2.1.toNat,())).bind fun r13=>
    some ((r12.1,(r13.1,(true,()))))
    else none
    else none
noncomputable def S_q48q:FSig:=⟨[(K_PiSPiiqq,false),(I,false)],[K_Si,I,.bool],true,(G_specBest)⟩
noncomputable def Γ_laws_rInts:Ctx:={ tk:=assoc tks,ar:=assoc ars,fs:=assoc [] }
abbrev laws_rInts_l0_H:=List Int×List Int×Int×Unit
abbrev laws_rInts_l0_O:=(Bool×Unit)⊕Unit⊕Empty
def laws_rInts_l0_h:Form:=[(0,.v K_Si),(1,.v K_Si),(5,.v I)]
def laws_rInts_l0_o:Outs:=[(.ret,[(4,.v .bool)]),(.normal,[])]
noncomputable def laws_rInts_l0_r (N:Nat) (back:laws_rInts_l0_H->Option laws_rInts_l0_O) (d:laws_rInts_l0_H):Option laws_rInts_l0_O:=
 let s0:=d.1
 let s1:=d.2.1
 let s5:=d.2.2.1
 if (decide (s5<(List.length s0:Int)))=true then
  if (idxIn s5 (List.length s0))=true then
  if (idxIn s5 (List.length s1))=true then
  if (at_ I s0 s5.toNat != at_ I s1 s5.toNat)=true then
   some (.inl (false,()))
  else
   let x5:=IntKind.wrap .i64 (s5+(1:Int))
   back ((s0,(s1,(x5,()))))
  else none
  else none
 else
  some (.inr (.inl ()))
noncomputable def laws_rInts_l0 (N:Nat):Nat->laws_rInts_l0_H->Option laws_rInts_l0_O
 | 0,_=>none
 | k+1,d=>laws_rInts_l0_r N (laws_rInts_l0 N k) d
noncomputable def F_laws_rInts (N:Nat) (d:List Int×List Int×Unit):Option (Bool×Unit):=
 let a0:=d.1
 let a1:=d.2.1
 if ((List.length a0:Int) != (List.length a1:Int))=true then
  some (false,())
 else
  (laws_rInts_l0 N N ((a0,(a1,((0:Int),()))))).bind fun o2=>match o2 with
  | .inl d3=>
   some (d3.1,())
  | .inr (.inl d4)=>
   some (true,())
noncomputable def S_laws_rInts:FSig:=⟨[(K_Si,false),(K_Si,false)],[.bool],true,(G_rInts)⟩
noncomputable def Γ_laws_FnCopNumbers:Ctx:={ tk:=assoc tks,ar:=assoc ars,fs:=assoc [(16,S_laws_rBig),(17,S_q20q),(18,S_q40q),(19,S_q44q),(20,S_q59q),(21,S_q31q),(22,S_q33q),(23,S_q28q),(24,S_q52q),(25,S_q50q),(26,S_q48q),(27,S_laws_rInts)] }
noncomputable def F_laws_FnCopNumbers (N:Nat) (d:List Int×Unit):Option (Bool×Unit):=
 let a0:=d.1
 let r1:=g_laws_rBig (a0,())
 if (r1.1)=true then
  some (true,())
 else
  ((F_q20q 0) (a0,())).bind fun r2=>
  (G_copNum (r2.1,())).bind fun r3=>
  (G_copNum (r2.1,())).bind fun r4=>
  if (r3.1 != r4.1)=true then
   some (false,())
  else
   if (!(r3.2.1==r4.2.1))=true then
    some (false,())
   else
    (G_graph (r2.1,())).bind fun r5=>
    if (!r5.1)=true then
     some (!r3.2.1,())
    else
     if (r2.1.1==(0:Int))=true then
      some (!r3.2.1,())
     else
      ((F_q31q 0) (r2.1,())).bind fun r6=>
      ((F_q33q 0) (r2.1,())).bind fun r7=>
      if (r6.1 != r7.1)=true then
       some (false,())
      else
       if (!r6.2.1)=true then
        some (false,())
       else
        if (!r7.2.1)=true then
         some (false,())
        else
         ((F_q28q 0) (r2.1,())).bind fun r8=>
         if (!r8.2.1)=true then
          some (false,())
         else
          if (r8.1)=true then
           if (decide (r6.1<(6:Int)))=true then
            if (!r3.2.1)=true then
             some (false,())
            else
             if ((2:Int) != 0)=true then
             let x9:=IntKind.wrap .i64 (r6.1.tdiv (2:Int))
             let x10:=IntKind.wrap .i64 (x9+(1:Int))
             if (decide (r3.1>x10))=true then
              some (false,())
             else
              if (!r3.2.1)=true then
               ((F_q52q 0) ((r2.1,((3:Int),())))).bind fun r11=>
               if (r11.2.1)=true then
                some (!r11.1,())
               else
                some (false,())
              else
               ((F_q52q 0) ((r2.1,(r3.1,())))).bind fun r12=>
               ((F_q50q 0) ((r2.1,(r3.1,())))).bind fun r13=>
               (G_specBest ((r2.1,(r3.1,())))).bind fun r14=>
               if (!r12.2.1)=true then
                some (false,())
               else
                if (!r12.1)=true then
                 some (false,())
                else
                 if (!r13.2.2.1)=true then
                  some (false,())
                 else
                  if (!r14.2.2.1)=true then
                   some (false,())
                  else
                   if (r13.2.1 != r14.2.1)=true then
                    some (false,())
                   else
                    (G_rInts ((r13.1,(r14.1,())))).bind fun r15=>
                    if (!r15.1)=true then
                     some (false,())
                    else
                     if (decide (r3.1>(1:Int)))=true then
                      let x16:=IntKind.wrap .i64 (r3.1-(1:Int))
                      ((F_q52q 0) ((r2.1,(x16,())))).bind fun r17=>
                      if (!r17.2.1)=true then
                       some (false,())
                      else
                       if (r17.1)=true then
                        some (false,())
                       else
                        some (true,())
                     else
                      some (true,())
             else none
           else
            if (!r3.2.1)=true then
             ((F_q52q 0) ((r2.1,((3:Int),())))).bind fun r18=>
             if (r18.2.1)=true then
              some (!r18.1,())
             else
              some (false,())
            else
             ((F_q52q 0) ((r2.1,(r3.1,())))).bind fun r19=>
             ((F_q50q 0) ((r2.1,(r3.1,())))).bind fun r20=>
             (G_specBest ((r2.1,(r3.1,())))).bind fun r21=>
             if (!r19.2.1)=true then
              some (false,())
             else
              if (!r19.1)=true then
               some (false,())
              else
               if (!r20.2.2.1)=true then
                some (false,())
               else
                if (!r21.2.2.1)=true then
                 some (false,())
                else
                 if (r20.2.1 != r21.2.1)=true then
                  some (false,())
                 else
                  (G_rInts ((r20.1,(r21.1,())))).bind fun r22=>
                  if (!r22.1)=true then
                   some (false,())
                  else
                   if (decide (r3.1>(1:Int)))=true then
                    let x23:=IntKind.wrap .i64 (r3.1-(1:Int))
                    ((F_q52q 0) ((r2.1,(x23,())))).bind fun r24=>
                    if (!r24.2.1)=true then
                     some (false,())
                    else
                     if (r24.1)=true then
                      some (false,())
                     else
                      some (true,())
                   else
                    some (true,())
          else
           if (!r3.2.1)=true then
            ((F_q52q 0) ((r2.1,((3:Int),())))).bind fun r25=>
            if (r25.2.1)=true then
             some (!r25.1,())
            else
             some (false,())
           else
            ((F_q52q 0) ((r2.1,(r3.1,())))).bind fun r26=>
            ((F_q50q 0) ((r2.1,(r3.1,())))).bind fun r27=>
            (G_specBest ((r2.1,(r3.1,())))).bind fun r28=>
            if (!r26.2.1)=true then
             some (false,())
            else
             if (!r26.1)=true then
              some (false,())
             else
              if (!r27.2.2.1)=true then
               some (false,())
              else
               if (!r28.2.2.1)=true then
                some (false,())
               else
                if (r27.2.1 != r28.2.1)=true then
                 some (false,())
                else
                 (G_rInts ((r27.1,(r28.1,())))).bind fun r29=>
                 if (!r29.1)=true then
                  some (false,())
                 else
                  if (decide (r3.1>(1:Int)))=true then
                   let x30:=IntKind.wrap .i64 (r3.1-(1:Int))
                   ((F_q52q 0) ((r2.1,(x30,())))).bind fun r31=>
                   if (!r31.2.1)=true then
                    some (false,())
                   else
                    if (r31.1)=true then
                     some (false,())
                    else
                     some (true,())
                  else
                   some (true,())
noncomputable def S_laws_FnCopNumbers:FSig:=⟨[(K_Su8,false)],[.bool],true,(G_law)⟩
end Go.V.W
namespace Go.V.W
theorem wrap_nat {m:Nat} (h:m<9223372036854775808):IntKind.wrap .i64 (m:Int)=(m:Int):=Go.IntWalk.i64_in _ (by omega)
theorem ofInt_nat (m:Nat):BitVec.ofInt 64 (m:Int)=BitVec.ofNat 64 m:=by simp
theorem bits_or {a b:Nat} (ha:a<256) (hb:b<256):bits .or .i64 (a:Int) (b:Int)=((a|||b:Nat):Int):=by
 have hab:a|||b<256:=Nat.or_lt_two_pow (n:=8) ha hb
 have e:(BitVec.ofInt IntKind.i64.bits (a:Int)|||BitVec.ofInt IntKind.i64.bits (b:Int)).toNat=a|||b:=by
  show (BitVec.ofInt 64 (a:Int)|||BitVec.ofInt 64 (b:Int)).toNat=a|||b
  rw [ofInt_nat,ofInt_nat,BitVec.toNat_or,BitVec.toNat_ofNat,BitVec.toNat_ofNat,Nat.mod_eq_of_lt (by omega),Nat.mod_eq_of_lt (by omega)]
 unfold bits bitI
 simp only [Option.getD_some]
 rw [e]
 exact wrap_nat (by omega)
theorem bits_and {a b:Nat} (ha:a<256) (hb:b<256):bits .and .i64 (a:Int) (b:Int)=((a&&&b:Nat):Int):=by
 have hab:a&&&b<=a:=Nat.and_le_left
 have e:(BitVec.ofInt IntKind.i64.bits (a:Int)&&&BitVec.ofInt IntKind.i64.bits (b:Int)).toNat=a&&&b:=by
  show (BitVec.ofInt 64 (a:Int)&&&BitVec.ofInt 64 (b:Int)).toNat=a&&&b
  rw [ofInt_nat,ofInt_nat,BitVec.toNat_and,BitVec.toNat_ofNat,BitVec.toNat_ofNat,Nat.mod_eq_of_lt (by omega),Nat.mod_eq_of_lt (by omega)]
 unfold bits bitI
 simp only [Option.getD_some]
 rw [e]
 exact wrap_nat (by omega)
theorem shl_one {y:Nat} (h:y<8):shl .i64 1 (y:Int)=((2 ^ y:Nat):Int):=by
 have:y=0\/y=1\/y=2\/y=3\/y=4\/y=5\/y=6\/y=7:=by omega
 rcases this with rfl | rfl | rfl | rfl | rfl | rfl | rfl | rfl<;>decide
theorem pow_small {y:Nat} (h:y<8):2 ^ y<256:=by
 have:y=0\/y=1\/y=2\/y=3\/y=4\/y=5\/y=6\/y=7:=by omega
 rcases this with rfl | rfl | rfl | rfl | rfl | rfl | rfl | rfl<;>decide
theorem shr_nat {m y:Nat} (h:y<8):shr .i64 (m:Int) (y:Int)=((m>>>y:Nat):Int):=by
 unfold shr
 have e:min (y:Int).toNat IntKind.i64.bits=y:=by
  show min (y:Int).toNat 64=y
  rw [Int.toNat_natCast]
  omega
 rw [e,Nat.shiftRight_eq_div_pow,Int.fdiv_eq_ediv_of_nonneg _ (by
  have:=Nat.two_pow_pos y
  exact_mod_cast Nat.zero_le (2 ^ y))]
 norm_cast
theorem has_bit {m y:Nat} (hm:m<256) (h:y<8):(bits .and .i64 (shr .i64 (m:Int) (y:Int)) 1==(1:Int))=m.testBit y:=by
 have h1:m>>>y<256:=by
  rw [Nat.shiftRight_eq_div_pow]
  exact Nat.lt_of_le_of_lt (Nat.div_le_self _ _) hm
 rw [shr_nat h]
 have:=bits_and h1 (show 1<256 by omega)
 rw [show ((1:Nat):Int)=1 from rfl] at this
 rw [this,Nat.testBit_eq_decide_div_mod_eq,Nat.shiftRight_eq_div_pow,Nat.and_one_is_mod]
 have:m / 2 ^ y % 2=0\/m / 2 ^ y % 2=1:=by omega
 rcases this with h | h<;>simp [h]
def okN (n:Nat) (ms:List Nat):Prop:=ms.length=n /\ ∀x,ms.getD x 0<256
theorem okN_zero (n:Nat):okN n (List.replicate n 0):=by
 refine ⟨by simp,fun x => ?_⟩
 simp only [List.getD_eq_getElem?_getD,List.getElem?_replicate]
 split<;>simp
theorem getD_set (ms:List Nat) (a x v:Nat) (h:a<ms.length):(ms.set a v).getD x 0=if x=a then v else ms.getD x 0:=by
 simp only [List.getD_eq_getElem?_getD,List.getElem?_set]
 by_cases e:x=a
 ·subst e;simp [h]
 ·simp [e,Ne.symm e]
theorem orN_ok {n:Nat} {ms:List Nat} (h:okN n ms) {a b:Nat} (ha:a<n) (hb:b<8):okN n (orN ms a b):=by
 refine ⟨by simp [orN,h.1],fun x => ?_⟩
 unfold orN
 rw [getD_set _ _ _ _ (by rw [h.1];exact ha)]
 split
 ·exact Nat.or_lt_two_pow (n:=8) (h.2 a) (pow_small hb)
 ·exact h.2 x
theorem orN_bit {n:Nat} {ms:List Nat} (h:okN n ms) {a b:Nat} (ha:a<n) (x y:Nat):((orN ms a b).getD x 0).testBit y=((ms.getD x 0).testBit y||(decide (x=a)&&decide (y=b))):=by
 unfold orN
 rw [getD_set _ _ _ _ (by rw [h.1];exact ha)]
 by_cases e:x=a
 ·subst e
  simp only [if_true,Nat.testBit_or,Nat.testBit_two_pow,decide_true,Bool.true_and]
  congr 1
  by_cases e:y=b
  ·simp [e]
  ·simp [e,Ne.symm e]
 ·simp [e]
theorem edgeB_nat {n:Nat} {e:E} (h:edgeB (n:Int) e=true):e.1.toNat<e.2.1.toNat/\e.2.1.toNat<n/\e.1=(e.1.toNat:Int)/\e.2.1=(e.2.1.toNat:Int):=by
 unfold edgeB at h
 simp only [Bool.and_eq_true,decide_eq_true_eq] at h
 omega
theorem addN_ok {n:Nat} {ms:List Nat} (hn:n<=8) (h:okN n ms) {e:E} (he:edgeB (n:Int) e=true):okN n (addN ms e):=by
 obtain ⟨h1,h2,_,_⟩:=edgeB_nat he
 exact orN_ok (orN_ok h (by omega) (by omega)) h2 (by omega)
def isE (e:E) (x y:Nat):Bool:=(decide (x=e.1.toNat)&&decide (y=e.2.1.toNat))||(decide (x=e.2.1.toNat)&&decide (y=e.1.toNat))
theorem foldN_ok {n:Nat} (hn:n<=8):∀(es:List E) (ms:List Nat),okN n ms->es.all (edgeB (n:Int))=true->okN n (es.foldl addN ms) /\ ∀x y,((es.foldl addN ms).getD x 0).testBit y=((ms.getD x 0).testBit y||es.any (fun e=>isE e x y)):=by
 intro es
 induction es with
 | nil=>intro ms h _;exact ⟨h,fun x y=>by simp⟩
 | cons e es ih=>
  intro ms h he
  simp only [List.all_cons,Bool.and_eq_true] at he
  obtain ⟨h1,h2,_,_⟩:=edgeB_nat he.1
  obtain ⟨k1,k2⟩:=ih (addN ms e) (addN_ok hn h he.1) he.2
  refine ⟨k1,fun x y => ?_⟩
  rw [List.foldl_cons,k2 x y]
  unfold addN
  rw [orN_bit (orN_ok h (show e.1.toNat<n by omega) (by omega)) h2,orN_bit h (show e.1.toNat<n by omega)]
  simp only [List.any_cons,isE,Bool.or_assoc]
theorem netN_ok {n:Nat} (hn:n<=8) {es:List E} (h:es.all (edgeB (n:Int))=true):okN n (netN n es):=(foldN_ok hn es _ (okN_zero n) h).1
theorem netN_bit {n:Nat} (hn:n<=8) {es:List E} (h:es.all (edgeB (n:Int))=true) (x y:Nat):hasN (netN n es) x y=es.any (fun e=>isE e x y):=by
 unfold hasN netN
 rw [(foldN_ok hn es _ (okN_zero n) h).2 x y]
 have:((List.replicate n 0).getD x 0).testBit y=false:=by
  simp only [List.getD_eq_getElem?_getD,List.getElem?_replicate]
  split<;>simp
 rw [this,Bool.false_or]
theorem toI_from (ms:List Nat):fromI (toI ms)=ms:=by
 unfold fromI toI
 rw [List.map_map]
 exact List.map_id' _
theorem at_toI (ms:List Nat) (x:Nat):at_ (.int .i64) (toI ms) x=((ms.getD x 0:Nat):Int):=by
 unfold at_ toI
 simp only [List.getD_eq_getElem?_getD,List.getElem?_map]
 cases ms[x]?<;>rfl
theorem toI_set (ms:List Nat) (x v:Nat):List.set (toI ms) x (v:Int)=toI (ms.set x v):=by
 simp [toI,List.map_set]
theorem toI_len (ms:List Nat):(toI ms).length=ms.length:=by simp [toI]
end Go.V.W
