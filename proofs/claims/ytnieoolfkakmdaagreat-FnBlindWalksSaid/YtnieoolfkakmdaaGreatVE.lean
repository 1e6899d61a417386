/- What the law FnBlindWalks leans on, part 5: an interpreter of the model as plain data, its soundness, the functions as it tells them, and their laws. -/
import Derived.Test.YtnieoolfkakmdaaGreatProg
import Derived.Test.YtnieoolfkakmdaaGreatVD
set_option linter.unusedVariables false
set_option linter.unusedSimpArgs false
set_option maxRecDepth 100000
namespace Go.V.W
open Go.Proofs
abbrev I:Kd:=.int .i64
abbrev K_Su8:Kd:=.slice (.int .u8)
abbrev K_Pu64q:Kd:=.pair (.int .u64) .unit
abbrev K_Piu64q:Kd:=.pair I K_Pu64q
abbrev K_PSu8iu64q:Kd:=.pair K_Su8 K_Piu64q
abbrev K_BPSu8iu64q:Kd:=.bx K_PSu8iu64q
abbrev K_Si:Kd:=.slice I
abbrev K_Piq:Kd:=.pair I .unit
abbrev K_Piiq:Kd:=.pair I K_Piq
abbrev K_SPiiq:Kd:=.slice K_Piiq
abbrev K_PSPiiqq:Kd:=.pair K_SPiiq .unit
abbrev K_PiSPiiqq:Kd:=.pair I K_PSPiiqq
abbrev K_SSi:Kd:=.slice K_Si
abbrev K_ZSi:Kd:=.ssl K_Si
abbrev K_PSSiq:Kd:=.pair K_SSi .unit
abbrev K_PSSiSSiq:Kd:=.pair K_SSi K_PSSiq
abbrev K_PZSiSSiSSiq:Kd:=.pair K_ZSi K_PSSiSSiq
abbrev K_PSiiq:Kd:=.pair K_Si K_Piq
abbrev K_PiSiiq:Kd:=.pair I K_PSiiq
abbrev K_SPiSiiq:Kd:=.slice K_PiSiiq
abbrev K_Sb:Kd:=.slice .bool
abbrev K_PSiq:Kd:=.pair K_Si .unit
abbrev K_F_q6q_qq:Kd:=.clo 199 .unit .unit
abbrev K_F_q9q_qq:Kd:=.clo 204 .unit .unit
abbrev K_BSi:Kd:=.bx K_Si
abbrev K_PBSiq:Kd:=.pair K_BSi .unit
abbrev K_F_q55q_qPBSiq:Kd:=.clo 203 .unit K_PBSiq
def tks:List (Nat×Kd):=[(3,I),(4,.bool),(5,(.int .u8)),(22,K_Su8),(24,K_SPiiq),(26,K_PiSPiiqq),(27,K_SSi),(36,K_Si),(52,K_Piiq),(94,(.int .u64)),(96,K_PSu8iu64q),(107,K_PSiq),(112,K_PZSiSSiSSiq),(192,(.int .u64)),(217,K_SPiSiiq),(218,K_Sb),(220,K_PiSiiq)]
def ars:List (Nat×Nat):=[(52,3)]
noncomputable def Γ_laws_rBig:Ctx:={ tk:=assoc tks,ar:=assoc ars,fs:=assoc [] }
noncomputable def F_laws_rBig (N:Nat) (d:List Int×Unit):Option (Bool×Unit):=
 let a0:=d.1
 some ((decide ((List.length a0:Int)>(65536:Int)),()))
noncomputable def g_laws_rBig (d:List Int×Unit):Bool×Unit:=
 let a0:=d.1
 ((decide ((List.length a0:Int)>(65536:Int)),()))
theorem F_laws_rBig_tot (N:Nat) (d):F_laws_rBig N d=some (g_laws_rBig d):=by
 unfold F_laws_rBig g_laws_rBig
 first
  | rfl
  | (dsimp only; (repeat' split)<;>rfl)
noncomputable def S_laws_rBig:FSig:=⟨[(K_Su8,false)],[.bool],true,(fun d=>some (g_laws_rBig d))⟩
noncomputable def Γ_q39q:Ctx:={ tk:=assoc tks,ar:=assoc ars,fs:=assoc [],lent:=fun t=>Nat.beq t 0 }
noncomputable def F_q39q (N:Nat) (d:(List Int×Int×Int×Unit)×Unit):Option (Int×(List Int×Int×Int×Unit)×Unit):=
 let a0:=d.1
 if (decide (a0.2.1<(List.length a0.1:Int)))=true then
  if (idxIn a0.2.1 (List.length a0.1))=true then
  let x1:=IntKind.wrap .i64 (at_ (.int .u8) a0.1 a0.2.1.toNat)
  let x2:=IntKind.wrap .i64 (a0.2.1+(1:Int))
  let x3:=IntKind.wrap .u64 (a0.2.2.1*(6364136223846793005:Int))
  let x4:=IntKind.wrap .u64 (x3+IntKind.wrap .u64 x1)
  let x5:=IntKind.wrap .u64 (x4+(462197:Int))
  if (decide (x2<=(List.length a0.1:Int)))=true then
   some ((x1,((a0.1,(x2,(x5,a0.2.2.2))),())))
  else
   if (decide (0<=(40:Int)))=true then
   let x6:=bits .and .u64 (shr .u64 x5 (40:Int)) (255:Int)
   some ((IntKind.wrap .i64 x6,((a0.1,(x2,(x5,a0.2.2.2))),())))
   else none
  else none
 else
  let x7:=IntKind.wrap .i64 (a0.2.1+(1:Int))
  let x8:=IntKind.wrap .u64 (a0.2.2.1*(6364136223846793005:Int))
  let x9:=IntKind.wrap .u64 (x8+IntKind.wrap .u64 (0:Int))
  let x10:=IntKind.wrap .u64 (x9+(462197:Int))
  if (decide (x7<=(List.length a0.1:Int)))=true then
   some (((0:Int),((a0.1,(x7,(x10,a0.2.2.2))),())))
  else
   if (decide (0<=(40:Int)))=true then
   let x11:=bits .and .u64 (shr .u64 x10 (40:Int)) (255:Int)
   some ((IntKind.wrap .i64 x11,((a0.1,(x7,(x10,a0.2.2.2))),())))
   else none
noncomputable def S_q39q:FSig:=⟨[(K_BPSu8iu64q,true)],[I],true,(F_q39q 0)⟩
noncomputable def Γ_q31q:Ctx:={ tk:=assoc tks,ar:=assoc ars,fs:=assoc [(187,S_q39q)],lent:=fun t=>Nat.beq t 0 }
noncomputable def F_q31q (N:Nat) (d:(List Int×Int×Int×Unit)×Int×Unit):Option (Int×(List Int×Int×Int×Unit)×Unit):=
 let a0:=d.1
 let a1:=d.2.1
 if (decide (a1<=(1:Int)))=true then
  some (((0:Int),(a0,())))
 else
  ((F_q39q 0) (a0,())).bind fun r1=>
  if (decide (a1>(200:Int)))=true then
   let x2:=IntKind.wrap .i64 (r1.1*(256:Int))
   ((F_q39q 0) (r1.2.1,())).bind fun r3=>
   let x4:=IntKind.wrap .i64 (x2+r3.1)
   if (a1 != 0)=true then
   some ((x4.tmod a1,(r3.2.1,())))
   else none
  else
   if (a1 != 0)=true then
   some ((r1.1.tmod a1,(r1.2.1,())))
   else none
noncomputable def S_q31q:FSig:=⟨[(K_BPSu8iu64q,true),(I,false)],[I],true,(F_q31q 0)⟩
noncomputable def Γ_q43q:Ctx:={ tk:=assoc tks,ar:=assoc ars,fs:=assoc [(91,S_q31q)],lent:=fun t=>Nat.beq t 0 }
noncomputable def F_q43q (N:Nat) (d:(List Int×Int×Int×Unit)×Int×Unit):Option (Bool×(List Int×Int×Int×Unit)×Unit):=
 let a0:=d.1
 let a1:=d.2.1
 ((F_q31q 0) ((a0,(a1,())))).bind fun r1=>
 some ((r1.1==(0:Int),(r1.2.1,())))
noncomputable def S_q43q:FSig:=⟨[(K_BPSu8iu64q,true),(I,false)],[.bool],true,(F_q43q 0)⟩
noncomputable def Γ_q27q:Ctx:={ tk:=assoc tks,ar:=assoc ars,fs:=assoc [(91,S_q31q)],lent:=fun t=>Nat.beq t 0 }
noncomputable def F_q27q (N:Nat) (d:(List Int×Int×Int×Unit)×List Int×Unit):Option (Int×(List Int×Int×Int×Unit)×Unit):=
 let a0:=d.1
 let a1:=d.2.1
 ((F_q31q 0) ((a0,((List.length a1:Int),())))).bind fun r1=>
 if (idxIn r1.1 (List.length a1))=true then
 some ((at_ I a1 r1.1.toNat,(r1.2.1,())))
 else none
noncomputable def S_q27q:FSig:=⟨[(K_BPSu8iu64q,true),(K_Si,false)],[I],true,(F_q27q 0)⟩
noncomputable def Γ_q59q:Ctx:={ tk:=assoc tks,ar:=assoc ars,fs:=assoc [] }
noncomputable def F_q59q (N:Nat) (d:Int×Int×Unit):Option (Int×Unit):=
 let a0:=d.1
 let a1:=d.2.1
 if (decide (a0<a1))=true then
  some (a0,())
 else
  some (a1,())
noncomputable def g_q59q (d:Int×Int×Unit):Int×Unit:=
 let a0:=d.1
 let a1:=d.2.1
 if (decide (a0<a1))=true then
  (a0,())
 else
  (a1,())
theorem F_q59q_tot (N:Nat) (d):F_q59q N d=some (g_q59q d):=by
 unfold F_q59q g_q59q
 first
  | rfl
  | (dsimp only; (repeat' split)<;>rfl)
noncomputable def S_q59q:FSig:=⟨[(I,false),(I,false)],[I],true,(fun d=>some (g_q59q d))⟩
noncomputable def Γ_q76q:Ctx:={ tk:=assoc tks,ar:=assoc ars,fs:=assoc [] }
abbrev q76q_l0_H:=Int×(Int×(List (Int×Int×Unit))×Unit)×(Int×(List (Int×Int×Unit))×Unit)×Int×Unit
abbrev q76q_l0_O:=((Int×(List (Int×Int×Unit))×Unit)×(Int×(List (Int×Int×Unit))×Unit)×Unit)⊕Empty
def q76q_l0_h:Form:=[(0,.v I),(2,.box K_PiSPiiqq 99),(3,.box K_PiSPiiqq 99),(4,.v I)]
def q76q_l0_o:Outs:=[(.normal,[(2,.box K_PiSPiiqq 99),(3,.box K_PiSPiiqq 99)])]
noncomputable def q76q_l0_r (N:Nat) (back:q76q_l0_H->Option q76q_l0_O) (d:q76q_l0_H):Option q76q_l0_O:=
 let s0:=d.1
 let s2:=d.2.1
 let s3:=d.2.2.1
 let s4:=d.2.2.2.1
 let x6:=IntKind.wrap .i64 (s4+(1:Int))
 if (decide (x6<s0))=true then
  let x7:=IntKind.wrap .i64 (s4+(1:Int))
  if (decide (List.length s3.2.1+List.length ([(s4,(x7,()))])<=lim))=true then
  let x8:=IntKind.wrap .i64 (s4+(1:Int))
  back ((s0,(s2,((s3.1,(s3.2.1++([(s4,(x7,()))]),s3.2.2)),(x8,())))))
  else none
 else
  some (.inl ((s2,(s3,()))))
noncomputable def q76q_l0 (N:Nat):Nat->q76q_l0_H->Option q76q_l0_O
 | 0,_=>none
 | k+1,d=>q76q_l0_r N (q76q_l0 N k) d
noncomputable def F_q76q (N:Nat) (d:Int×Unit):Option ((Int×(List (Int×Int×Unit))×Unit)×Unit):=
 let a0:=d.1
 (q76q_l0 N N ((a0,(((0:Int),(([]:List (Int×Int×Unit)),())),((a0,(([]:List (Int×Int×Unit)),())),((0:Int),())))))).bind fun o4=>match o4 with
 | .inl d5=>
  some (d5.2.1,())
noncomputable def S_q76q:FSig:=⟨[(I,false)],[K_PiSPiiqq],true,(pickF F_q76q P_path)⟩
noncomputable def Γ_q51q:Ctx:={ tk:=assoc tks,ar:=assoc ars,fs:=assoc [] }
noncomputable def F_q51q (N:Nat) (d:(Int×Int×Unit)×(Int×Int×Unit)×Unit):Option (Bool×Unit):=
 let a0:=d.1
 let a1:=d.2.1
 if (decide (a0.1<a1.1))=true then
  some (true,())
 else
  if (a0.1==a1.1)=true then
   some (decide (a0.2.1<a1.2.1),())
  else
   some (false,())
noncomputable def g_q51q (d:(Int×Int×Unit)×(Int×Int×Unit)×Unit):Bool×Unit:=
 let a0:=d.1
 let a1:=d.2.1
 if (decide (a0.1<a1.1))=true then
  (true,())
 else
  if (a0.1==a1.1)=true then
   (decide (a0.2.1<a1.2.1),())
  else
   (false,())
theorem F_q51q_tot (N:Nat) (d):F_q51q N d=some (g_q51q d):=by
 unfold F_q51q g_q51q
 first
  | rfl
  | (dsimp only; (repeat' split)<;>rfl)
noncomputable def S_q51q:FSig:=⟨[(K_Piiq,false),(K_Piiq,false)],[.bool],true,(fun d=>some (g_q51q d))⟩
noncomputable def Γ_spec_l2Put:Ctx:={ tk:=assoc tks,ar:=assoc ars,fs:=assoc [(200,S_q51q)] }
abbrev spec_l2Put_l0_H:=(List (Int×Int×Unit))×(Int×Int×Unit)×Int×Unit
abbrev spec_l2Put_l0_O:=((List (Int×Int×Unit))×(Int×Int×Unit)×Int×Unit)⊕Empty
def spec_l2Put_l0_h:Form:=[(0,.v K_SPiiq),(3,.box K_Piiq 99),(5,.v I)]
def spec_l2Put_l0_o:Outs:=[(.normal,[(0,.v K_SPiiq),(3,.box K_Piiq 99),(5,.v I)])]
noncomputable def spec_l2Put_l0_r (N:Nat) (back:spec_l2Put_l0_H->Option spec_l2Put_l0_O) (d:spec_l2Put_l0_H):Option spec_l2Put_l0_O:=
 let s0:=d.1
 let s3:=d.2.1
 let s5:=d.2.2.1
 if (decide (s5<(List.length s0:Int)))=true then
  if (idxIn s5 (List.length s0))=true then
  let r7:=g_q51q ((at_ K_Piiq s0 s5.toNat,(s3,())))
  if (r7.1)=true then
   let x8:=IntKind.wrap .i64 (s5+(1:Int))
   back ((s0,(s3,(x8,()))))
  else
   some (.inl ((s0,(s3,(s5,())))))
  else none
 else
  some (.inl ((s0,(s3,(s5,())))))
noncomputable def spec_l2Put_l0 (N:Nat):Nat->spec_l2Put_l0_H->Option spec_l2Put_l0_O
 | 0,_=>none
 | k+1,d=>spec_l2Put_l0_r N (spec_l2Put_l0 N k) d
noncomputable def F_spec_l2Put (N:Nat) (d:(List (Int×Int×Unit))×(Int×Int×Unit)×Unit):Option ((List (Int×Int×Unit))×Unit):=
 let a0:=d.1
 let a1:=d.2.1
 (spec_l2Put_l0 N N ((a0,(a1,((0:Int),()))))).bind fun o3=>match o3 with
 | .inl d4=>
  if ((decide (0<=(0:Int))&&decide ((0:Int)<=d4.2.2.1)&&decide (d4.2.2.1<=(List.length d4.1:Int))))=true then
  if (decide (List.length ([]:List (Int×Int×Unit))+List.length (sub_ d4.1 (0:Int) d4.2.2.1)<=lim))=true then
  let x5:=([]:List (Int×Int×Unit))++(sub_ d4.1 (0:Int) d4.2.2.1)
  if (decide (List.length x5+List.length ([d4.2.1])<=lim))=true then
  if ((decide (0<=d4.2.2.1)&&decide (d4.2.2.1<=(List.length d4.1:Int))&&decide ((List.length d4.1:Int)<=(List.length d4.1:Int))))=true then
  let x6:=sub_ d4.1 d4.2.2.1 (List.length d4.1:Int)
  if (decide (List.length (x5++([d4.2.1]))+List.length x6<=lim))=true then
  some (((x5++([d4.2.1]))++x6,()))
  else none
  else none
  else none
  else none
  else none
noncomputable def S_spec_l2Put:FSig:=⟨[(K_SPiiq,false),(K_Piiq,false)],[K_SPiiq],true,(G_l2Put)⟩
noncomputable def Γ_q67q:Ctx:={ tk:=assoc tks,ar:=assoc ars,fs:=assoc [(185,S_q76q),(186,S_spec_l2Put)] }
noncomputable def F_q67q (N:Nat) (d:Int×Unit):Option ((Int×(List (Int×Int×Unit))×Unit)×Unit):=
 let a0:=d.1
 ((pickF F_q76q P_path) (a0,())).bind fun r1=>
 let x2:=IntKind.wrap .i64 (a0-(1:Int))
 (G_l2Put ((r1.1.2.1,(((0:Int),(x2,())),())))).bind fun r3=>
 some (((r1.1.1,(r3.1,r1.1.2.2)),()))
noncomputable def S_q67q:FSig:=⟨[(I,false)],[K_PiSPiiqq],true,(F_q67q 0)⟩
noncomputable def Γ_q32q:Ctx:={ tk:=assoc tks,ar:=assoc ars,fs:=assoc [] }
abbrev q32q_l2_H:=Int×(Int×(List (Int×Int×Unit))×Unit)×(Int×(List (Int×Int×Unit))×Unit)×Int×Int×Unit
abbrev q32q_l2_O:=(Int×(Int×(List (Int×Int×Unit))×Unit)×(Int×(List (Int×Int×Unit))×Unit)×Int×Unit)⊕Empty
def q32q_l2_h:Form:=[(0,.v I),(2,.box K_PiSPiiqq 99),(3,.box K_PiSPiiqq 99),(4,.v I),(5,.v I)]
def q32q_l2_o:Outs:=[(.normal,[(0,.v I),(2,.box K_PiSPiiqq 99),(3,.box K_PiSPiiqq 99),(4,.v I)])]
noncomputable def q32q_l2_r (N:Nat) (back:q32q_l2_H->Option q32q_l2_O) (d:q32q_l2_H):Option q32q_l2_O:=
 let s0:=d.1
 let s2:=d.2.1
 let s3:=d.2.2.1
 let s4:=d.2.2.2.1
 let s5:=d.2.2.2.2.1
 if (decide (s5<s0))=true then
  if (decide (List.length s3.2.1+List.length ([(s4,(s5,()))])<=lim))=true then
  let x13:=IntKind.wrap .i64 (s5+(1:Int))
  back ((s0,(s2,((s3.1,(s3.2.1++([(s4,(s5,()))]),s3.2.2)),(s4,(x13,()))))))
  else none
 else
  some (.inl ((s0,(s2,(s3,(s4,()))))))
noncomputable def q32q_l2 (N:Nat):Nat->q32q_l2_H->Option q32q_l2_O
 | 0,_=>none
 | k+1,d=>q32q_l2_r N (q32q_l2 N k) d
abbrev q32q_l0_H:=Int×(Int×(List (Int×Int×Unit))×Unit)×(Int×(List (Int×Int×Unit))×Unit)×Int×Unit
abbrev q32q_l0_O:=((Int×(List (Int×Int×Unit))×Unit)×(Int×(List (Int×Int×Unit))×Unit)×Unit)⊕Empty
def q32q_l0_h:Form:=[(0,.v I),(2,.box K_PiSPiiqq 99),(3,.box K_PiSPiiqq 99),(4,.v I)]
def q32q_l0_o:Outs:=[(.normal,[(2,.box K_PiSPiiqq 99),(3,.box K_PiSPiiqq 99)])]
noncomputable def q32q_l0_r (N:Nat) (back:q32q_l0_H->Option q32q_l0_O) (d:q32q_l0_H):Option q32q_l0_O:=
 let s0:=d.1
 let s2:=d.2.1
 let s3:=d.2.2.1
 let s4:=d.2.2.2.1
 if (decide (s4<s0))=true then
  let x8:=IntKind.wrap .i64 (s4+(1:Int))
  (q32q_l2 N N ((s0,(s2,(s3,(s4,(x8,()))))))).bind fun o10=>match o10 with
  | .inl d11=>
   let x12:=IntKind.wrap .i64 (d11.2.2.2.1+(1:Int))
   back ((d11.1,(d11.2.1,(d11.2.2.1,(x12,())))))
 else
  some (.inl ((s2,(s3,()))))
noncomputable def q32q_l0 (N:Nat):Nat->q32q_l0_H->Option q32q_l0_O
 | 0,_=>none
 | k+1,d=>q32q_l0_r N (q32q_l0 N k) d
noncomputable def F_q32q (N:Nat) (d:Int×Unit):Option ((Int×(List (Int×Int×Unit))×Unit)×Unit):=
 let a0:=d.1
 (q32q_l0 N N ((a0,(((0:Int),(([]:List (Int×Int×Unit)),())),((a0,(([]:List (Int×Int×Unit)),())),((0:Int),())))))).bind fun o6=>match o6 with
 | .inl d7=>
  some (d7.2.1,())
noncomputable def S_q32q:FSig:=⟨[(I,false)],[K_PiSPiiqq],true,(pickF F_q32q P_path)⟩
noncomputable def Γ_q75q:Ctx:={ tk:=assoc tks,ar:=assoc ars,fs:=assoc [] }
noncomputable def F_q75q (N:Nat) (d:Int×Int×Unit):Option (Int×Unit):=
 let a0:=d.1
 let a1:=d.2.1
 if (decide (a0>a1))=true then
  some (a0,())
 else
  some (a1,())
noncomputable def g_q75q (d:Int×Int×Unit):Int×Unit:=
 let a0:=d.1
 let a1:=d.2.1
 if (decide (a0>a1))=true then
  (a0,())
 else
  (a1,())
theorem F_q75q_tot (N:Nat) (d):F_q75q N d=some (g_q75q d):=by
 unfold F_q75q g_q75q
 first
  | rfl
  | (dsimp only; (repeat' split)<;>rfl)
noncomputable def S_q75q:FSig:=⟨[(I,false),(I,false)],[I],true,(fun d=>some (g_q75q d))⟩
noncomputable def Γ_q71q:Ctx:={ tk:=assoc tks,ar:=assoc ars,fs:=assoc [] }
abbrev q71q_l0_H:=Int×Int×(Int×(List (Int×Int×Unit))×Unit)×Int×Unit
abbrev q71q_l0_O:=(Bool×Unit)⊕Unit⊕Empty
def q71q_l0_h:Form:=[(1,.v I),(2,.v I),(3,.box K_PiSPiiqq 0),(7,.v I)]
def q71q_l0_o:Outs:=[(.ret,[(6,.v .bool)]),(.normal,[])]
noncomputable def q71q_l0_r (N:Nat) (back:q71q_l0_H->Option q71q_l0_O) (d:q71q_l0_H):Option q71q_l0_O:=
 let s1:=d.1
 let s2:=d.2.1
 let s3:=d.2.2.1
 let s7:=d.2.2.2.1
 if (decide (s7<(List.length s3.2.1:Int)))=true then
  if (idxIn s7 (List.length s3.2.1))=true then
  if ((at_ K_Piiq s3.2.1 s7.toNat).1==s1)=true then
   if ((at_ K_Piiq s3.2.1 s7.toNat).2.1==s2)=true then
    some (.inl (true,()))
   else
    if ((at_ K_Piiq s3.2.1 s7.toNat).1==s2)=true then
     if ((at_ K_Piiq s3.2.1 s7.toNat).2.1==s1)=true then
      some (.inl (true,()))
     else
      let x8:=IntKind.wrap .i64 (s7+(1:Int))
      back ((s1,(s2,(s3,(x8,())))))
    else
     let x9:=IntKind.wrap .i64 (s7+(1:Int))
     back ((s1,(s2,(s3,(x9,())))))
  else
   if ((at_ K_Piiq s3.2.1 s7.toNat).1==s2)=true then
    if ((at_ K_Piiq s3.2.1 s7.toNat).2.1==s1)=true then
     some (.inl (true,()))
    else
     let x10:=IntKind.wrap .i64 (s7+(1:Int))
     back ((s1,(s2,(s3,(x10,())))))
   else
    let x11:=IntKind.wrap .i64 (s7+(1:Int))
    back ((s1,(s2,(s3,(x11,())))))
  else none
 else
  some (.inr (.inl ()))
noncomputable def q71q_l0 (N:Nat):Nat->q71q_l0_H->Option q71q_l0_O
 | 0,_=>none
 | k+1,d=>q71q_l0_r N (q71q_l0 N k) d
noncomputable def F_q71q (N:Nat) (d:(Int×(List (Int×Int×Unit))×Unit)×Int×Int×Unit):Option (Bool×Unit):=
 let a0:=d.1
 let a1:=d.2.1
 let a2:=d.2.2.1
 (q71q_l0 N N ((a1,(a2,(a0,((0:Int),())))))).bind fun o5=>match o5 with
 | .inl d6=>
  some (d6.1,())
 | .inr (.inl d7)=>
  some (false,())
noncomputable def S_q71q:FSig:=⟨[(K_PiSPiiqq,false),(I,false),(I,false)],[.bool],true,(G_l2Near)⟩
noncomputable def Γ_q19q:Ctx:={ tk:=assoc tks,ar:=assoc ars,fs:=assoc [(91,S_q31q),(133,S_q27q)],lent:=fun t=>Nat.beq t 0,cs:=assoc [],gs:=assoc [],eqt:=inL [],md:={ gone:=[1],deep:=[] } }
noncomputable def F_q19q (N:Nat) (d:(List Int×Int×Int×Unit)×(Int×(List (Int×Int×Unit))×Unit)×Unit):Option ((Int×(List (Int×Int×Unit))×Unit)×(List Int×Int×Int×Unit)×(Int×(List (Int×Int×Unit))×Unit)×Unit):=
 let a0:=d.1
 let a1:=d.2.1
 ((F_q31q 0) ((a0,((50:Int),())))).bind fun r1=>
 if (r1.1==(0:Int))=true then
  ((F_q27q 0) ((r1.2.1,([(-1:Int),(8:Int),(9:Int),(0:Int),(4611686018427387904:Int)],())))).bind fun r2=>
  some (((r2.1,a1.2),(r2.2.1,(((0:Int),(([]:List (Int×Int×Unit)),())),()))))
 else
  if (r1.1==(1:Int))=true then
   ((F_q31q 0) ((r1.2.1,((4:Int),())))).bind fun r3=>
   ((F_q31q 0) ((r3.2.1,((9:Int),())))).bind fun r4=>
   let x5:=IntKind.wrap .i64 (r4.1-(1:Int))
   if (decide (List.length a1.2.1+List.length ([(r3.1,(x5,()))])<=lim))=true then
   let x6:=a1.2.1++([(r3.1,(x5,()))])
   some (((a1.1,(x6,a1.2.2)),(r4.2.1,(((0:Int),(([]:List (Int×Int×Unit)),())),()))))
   else none
  else
   if (r1.1==(2:Int))=true then
    if (decide ((List.length a1.2.1:Int)>(0:Int)))=true then
     ((F_q31q 0) ((r1.2.1,((List.length a1.2.1:Int),())))).bind fun r7=>
     if (idxIn r7.1 (List.length a1.2.1))=true then
     if (decide (List.length a1.2.1+List.length ([at_ K_Piiq a1.2.1 r7.1.toNat])<=lim))=true then
     let x8:=a1.2.1++([at_ K_Piiq a1.2.1 r7.1.toNat])
     some (((a1.1,(x8,a1.2.2)),(r7.2.1,(((0:Int),(([]:List (Int×Int×Unit)),())),()))))
     else none
     else none
    else
     some ((a1,(r1.2.1,(((0:Int),(([]:List (Int×Int×Unit)),())),()))))
   else
    some ((a1,(r1.2.1,(((0:Int),(([]:List (Int×Int×Unit)),())),()))))
noncomputable def S_q19q:FSig:=⟨[(K_BPSu8iu64q,true),(K_PiSPiiqq,true)],[K_PiSPiiqq],true,(F_q19q 0)⟩
noncomputable def Γ_q15q:Ctx:={ tk:=assoc tks,ar:=assoc ars,fs:=assoc [(89,S_q43q),(90,S_q67q),(91,S_q31q),(133,S_q27q),(185,S_q76q),(186,S_spec_l2Put),(201,S_q75q),(238,S_q59q),(239,S_q32q),(240,S_q71q)],lent:=fun t=>Nat.beq t 0,cs:=assoc [],gs:=assoc [(241,(S_q19q,{ gone:=[1],deep:=[] }))],eqt:=inL [],md:=md0 }
abbrev q15q_l3_H:=(List Int×Int×Int×Unit)×(Int×(List (Int×Int×Unit))×Unit)×Int×(Int×(List (Int×Int×Unit))×Unit)×Int×Bool×Int×Int×Unit
abbrev q15q_l3_O:=((List Int×Int×Int×Unit)×(Int×(List (Int×Int×Unit))×Unit)×Int×(Int×(List (Int×Int×Unit))×Unit)×Int×Bool×Int×Unit)⊕Empty
def q15q_l3_h:Form:=[(0,.box K_PSu8iu64q 0),(4,.box K_PiSPiiqq 99),(5,.v I),(6,.box K_PiSPiiqq 99),(7,.v I),(8,.v .bool),(9,.v I),(10,.v I)]
def q15q_l3_o:Outs:=[(.normal,[(0,.box K_PSu8iu64q 0),(4,.box K_PiSPiiqq 99),(5,.v I),(6,.box K_PiSPiiqq 99),(7,.v I),(8,.v .bool),(9,.v I)])]
noncomputable def q15q_l3_r (N:Nat) (back:q15q_l3_H->Option q15q_l3_O) (d:q15q_l3_H):Option q15q_l3_O:=
 let s0:=d.1
 let s4:=d.2.1
 let s5:=d.2.2.1
 let s6:=d.2.2.2.1
 let s7:=d.2.2.2.2.1
 let s8:=d.2.2.2.2.2.1
 let s9:=d.2.2.2.2.2.2.1
 let s10:=d.2.2.2.2.2.2.2.1
 if (decide (s10<s5))=true then
  ((F_q31q 0) ((s0,(s7,())))).bind fun r77=>
  if (r77.1==(0:Int))=true then
   (G_l2Put ((s6.2.1,((s9,(s10,())),())))).bind fun r78=>
   let x79:=IntKind.wrap .i64 (s10+(1:Int))
   back ((r77.2.1,(s4,(s5,((s6.1,(r78.1,s6.2.2)),(s7,(s8,(s9,(x79,())))))))))
  else
   let x80:=IntKind.wrap .i64 (s10+(1:Int))
   back ((r77.2.1,(s4,(s5,(s6,(s7,(s8,(s9,(x80,())))))))))
 else
  some (.inl ((s0,(s4,(s5,(s6,(s7,(s8,(s9,())))))))))
noncomputable def q15q_l3 (N:Nat):Nat->q15q_l3_H->Option q15q_l3_O
 | 0,_=>none
 | k+1,d=>q15q_l3_r N (q15q_l3 N k) d
abbrev q15q_l1_H:=(List Int×Int×Int×Unit)×(Int×(List (Int×Int×Unit))×Unit)×Int×(Int×(List (Int×Int×Unit))×Unit)×Int×Bool×Int×Unit
abbrev q15q_l1_O:=((List Int×Int×Int×Unit)×(Int×(List (Int×Int×Unit))×Unit)×(Int×(List (Int×Int×Unit))×Unit)×Unit)⊕Empty
def q15q_l1_h:Form:=[(0,.box K_PSu8iu64q 0),(4,.box K_PiSPiiqq 99),(5,.v I),(6,.box K_PiSPiiqq 99),(7,.v I),(8,.v .bool),(9,.v I)]
def q15q_l1_o:Outs:=[(.normal,[(0,.box K_PSu8iu64q 0),(4,.box K_PiSPiiqq 99),(6,.box K_PiSPiiqq 99)])]
noncomputable def q15q_l1_r (N:Nat) (back:q15q_l1_H->Option q15q_l1_O) (d:q15q_l1_H):Option q15q_l1_O:=
 let s0:=d.1
 let s4:=d.2.1
 let s5:=d.2.2.1
 let s6:=d.2.2.2.1
 let s7:=d.2.2.2.2.1
 let s8:=d.2.2.2.2.2.1
 let s9:=d.2.2.2.2.2.2.1
 if (decide (s9<s5))=true then
  let x62:=IntKind.wrap .i64 (s9+(1:Int))
  (q15q_l3 N N ((s0,(s4,(s5,(s6,(s7,(s8,(s9,(x62,())))))))))).bind fun o67=>match o67 with
  | .inl d68=>
   let r69:=g_q75q ((d68.2.2.2.2.2.2.1,((1:Int),())))
   ((F_q31q 0) ((d68.1,(r69.1,())))).bind fun r70=>
   if (decide (d68.2.2.2.2.2.2.1>(0:Int)))=true then
    if (!d68.2.2.2.2.2.1)=true then
     (G_l2Near ((d68.2.2.2.1,(d68.2.2.2.2.2.2.1,(r70.1,()))))).bind fun r71=>
     if (!r71.1)=true then
      (G_l2Put ((d68.2.2.2.1.2.1,((r70.1,(d68.2.2.2.2.2.2.1,())),())))).bind fun r72=>
      let x73:=IntKind.wrap .i64 (d68.2.2.2.2.2.2.1+(1:Int))
      back ((r70.2.1,(d68.2.1,(d68.2.2.1,((d68.2.2.2.1.1,(r72.1,d68.2.2.2.1.2.2)),(d68.2.2.2.2.1,(d68.2.2.2.2.2.1,(x73,()))))))))
     else
      let x74:=IntKind.wrap .i64 (d68.2.2.2.2.2.2.1+(1:Int))
      back ((r70.2.1,(d68.2.1,(d68.2.2.1,(d68.2.2.2.1,(d68.2.2.2.2.1,(d68.2.2.2.2.2.1,(x74,()))))))))
    else
     let x75:=IntKind.wrap .i64 (d68.2.2.2.2.2.2.1+(1:Int))
     back ((r70.2.1,(d68.2.1,(d68.2.2.1,(d68.2.2.2.1,(d68.2.2.2.2.1,(d68.2.2.2.2.2.1,(x75,()))))))))
   else
    let x76:=IntKind.wrap .i64 (d68.2.2.2.2.2.2.1+(1:Int))
    back ((r70.2.1,(d68.2.1,(d68.2.2.1,(d68.2.2.2.1,(d68.2.2.2.2.1,(d68.2.2.2.2.2.1,(x76,()))))))))
 else
  some (.inl ((s0,(s4,(s6,())))))
noncomputable def q15q_l1 (N:Nat):Nat->q15q_l1_H->Option q15q_l1_O
 | 0,_=>none
 | k+1,d=>q15q_l1_r N (q15q_l1 N k) d
noncomputable def F_q15q (N:Nat) (d:(List Int×Int×Int×Unit)×Int×Unit):Option ((Int×(List (Int×Int×Unit))×Unit)×(List Int×Int×Int×Unit)×Unit):=
 let a0:=d.1
 let a1:=d.2.1
 ((F_q27q 0) ((a0,([(4:Int),(5:Int),(3:Int),(6:Int),(2:Int),(1:Int),(0:Int)],())))).bind fun r1=>
 if (decide (a1>(6:Int)))=true then
  ((F_q43q 0) ((r1.2.1,((4:Int),())))).bind fun r2=>
  if (r2.1)=true then
   ((F_q31q 0) ((r2.2.1,((2:Int),())))).bind fun r3=>
   let x4:=IntKind.wrap .i64 ((7:Int)+r3.1)
   let r5:=g_q59q ((x4,(a1,())))
   ((F_q31q 0) ((r3.2.1,((8:Int),())))).bind fun r6=>
   if (r6.1==(0:Int))=true then
    ((pickF F_q76q P_path) (r5.1,())).bind fun r7=>
    ((F_q19q 0) ((r6.2.1,(r7.1,())))).bind fun r8=>
    some ((r8.1,(r8.2.1,())))
   else
    if (r6.1==(1:Int))=true then
     if (decide (r5.1>(2:Int)))=true then
      ((F_q67q 0) (r5.1,())).bind fun r9=>
      ((F_q19q 0) ((r6.2.1,(r9.1,())))).bind fun r10=>
      some ((r10.1,(r10.2.1,())))
     else
      ((F_q19q 0) ((r6.2.1,((r5.1,(([]:List (Int×Int×Unit)),())),())))).bind fun r11=>
      some ((r11.1,(r11.2.1,())))
    else
     if (r6.1==(2:Int))=true then
      ((pickF F_q32q P_path) (r5.1,())).bind fun r12=>
      ((F_q19q 0) ((r6.2.1,(r12.1,())))).bind fun r13=>
      some ((r13.1,(r13.2.1,())))
     else
      ((F_q27q 0) ((r6.2.1,([(3:Int),(4:Int),(6:Int)],())))).bind fun r14=>
      ((F_q43q 0) ((r14.2.1,((6:Int),())))).bind fun r15=>
      (q15q_l1 N N ((r15.2.1,(((0:Int),(([]:List (Int×Int×Unit)),())),(r5.1,((r5.1,(([]:List (Int×Int×Unit)),())),(r14.1,(r15.1,((0:Int),()))))))))).bind fun o31=>match o31 with
      | .inl d32=>
       ((F_q19q 0) ((d32.1,(d32.2.2.1,())))).bind fun r33=>
       some ((r33.1,(r33.2.1,())))
  else
   let r34:=g_q59q ((r1.1,(a1,())))
   ((F_q31q 0) ((r2.2.1,((8:Int),())))).bind fun r35=>
   if (r35.1==(0:Int))=true then
    ((pickF F_q76q P_path) (r34.1,())).bind fun r36=>
    ((F_q19q 0) ((r35.2.1,(r36.1,())))).bind fun r37=>
    some ((r37.1,(r37.2.1,())))
   else
    if (r35.1==(1:Int))=true then
     if (decide (r34.1>(2:Int)))=true then
      ((F_q67q 0) (r34.1,())).bind fun r38=>
      ((F_q19q 0) ((r35.2.1,(r38.1,())))).bind fun r39=>
      some ((r39.1,(r39.2.1,())))
     else
      ((F_q19q 0) ((r35.2.1,((r34.1,(([]:List (Int×Int×Unit)),())),())))).bind fun r40=>
      some ((r40.1,(r40.2.1,())))
    else
     if (r35.1==(2:Int))=true then
      ((pickF F_q32q P_path) (r34.1,())).bind fun r41=>
      ((F_q19q 0) ((r35.2.1,(r41.1,())))).bind fun r42=>
      some ((r42.1,(r42.2.1,())))
     else
      ((F_q27q 0) ((r35.2.1,([(3:Int),(4:Int),(6:Int)],())))).bind fun r43=>
      ((F_q43q 0) ((r43.2.1,((6:Int),())))).bind fun r44=>
      (q15q_l1 N N ((r44.2.1,(((0:Int),(([]:List (Int×Int×Unit)),())),(r34.1,((r34.1,(([]:List (Int×Int×Unit)),())),(r43.1,(r44.1,((0:Int),()))))))))).bind fun o45=>match o45 with
      | .inl d46=>
       ((F_q19q 0) ((d46.1,(d46.2.2.1,())))).bind fun r47=>
       some ((r47.1,(r47.2.1,())))
 else
  let r48:=g_q59q ((r1.1,(a1,())))
  ((F_q31q 0) ((r1.2.1,((8:Int),())))).bind fun r49=>
  if (r49.1==(0:Int))=true then
   ((pickF F_q76q P_path) (r48.1,())).bind fun r50=>
   ((F_q19q 0) ((r49.2.1,(r50.1,())))).bind fun r51=>
   some ((r51.1,(r51.2.1,())))
  else
   if (r49.1==(1:Int))=true then
    if (decide (r48.1>(2:Int)))=true then
     ((F_q67q 0) (r48.1,())).bind fun r52=>
     ((F_q19q 0) ((r49.2.1,(r52.1,())))).bind fun r53=>
     some ((r53.1,(r53.2.1,())))
    else
     ((F_q19q 0) ((r49.2.1,((r48.1,(([]:List (Int×Int×Unit)),())),())))).bind fun r54=>
     some ((r54.1,(r54.2.1,())))
   else
    if (r49.1==(2:Int))=true then
     ((pickF F_q32q P_path) (r48.1,())).bind fun r55=>
     ((F_q19q 0) ((r49.2.1,(r55.1,())))).bind fun r56=>
     some ((r56.1,(r56.2.1,())))
    else
     ((F_q27q 0) ((r49.2.1,([(3:Int),(4:Int),(6:Int)],())))).bind fun r57=>
     ((F_q43q 0) ((r57.2.1,((6:Int),())))).bind fun r58=>
     (q15q_l1 N N ((r58.2.1,(((0:Int),(([]:List (Int×Int×Unit)),())),(r48.1,((r48.1,(([]:List (Int×Int×Unit)),())),(r57.1,(r58.1,((0:Int),()))))))))).bind fun o59=>match o59 with
     | .inl d60=>
      ((F_q19q 0) ((d60.1,(d60.2.2.1,())))).bind fun r61=>
      some ((r61.1,(r61.2.1,())))
noncomputable def S_q15q:FSig:=⟨[(K_BPSu8iu64q,true),(I,false)],[K_PiSPiiqq],true,(pickF F_q15q P_someG)⟩
noncomputable def Γ_spec_l1In:Ctx:={ tk:=assoc tks,ar:=assoc ars,fs:=assoc [] }
noncomputable def F_spec_l1In (N:Nat) (d:Int×Int×Int×Unit):Option (Bool×Unit):=
 let a0:=d.1
 let a1:=d.2.1
 let a2:=d.2.2.1
 if (decide (a0>=a1))=true then
  some (decide (a0<=a2),())
 else
  some (false,())
noncomputable def g_spec_l1In (d:Int×Int×Int×Unit):Bool×Unit:=
 let a0:=d.1
 let a1:=d.2.1
 let a2:=d.2.2.1
 if (decide (a0>=a1))=true then
  (decide (a0<=a2),())
 else
  (false,())
theorem F_spec_l1In_tot (N:Nat) (d):F_spec_l1In N d=some (g_spec_l1In d):=by
 unfold F_spec_l1In g_spec_l1In
 first
  | rfl
  | (dsimp only; (repeat' split)<;>rfl)
noncomputable def S_spec_l1In:FSig:=⟨[(I,false),(I,false),(I,false)],[.bool],true,(fun d=>some (g_spec_l1In d))⟩
noncomputable def Γ_q83q:Ctx:={ tk:=assoc tks,ar:=assoc ars,fs:=assoc [(148,S_spec_l1In),(200,S_q51q)] }
abbrev q83q_l0_H:=(Int×(List (Int×Int×Unit))×Unit)×Int×Unit
abbrev q83q_l0_O:=(Bool×Unit)⊕((Int×(List (Int×Int×Unit))×Unit)×Unit)⊕Empty
def q83q_l0_h:Form:=[(1,.box K_PiSPiiqq 0),(3,.v I)]
def q83q_l0_o:Outs:=[(.ret,[(2,.v .bool)]),(.normal,[(1,.box K_PiSPiiqq 0)])]
noncomputable def q83q_l0_r (N:Nat) (back:q83q_l0_H->Option q83q_l0_O) (d:q83q_l0_H):Option q83q_l0_O:=
 let s1:=d.1
 let s3:=d.2.1
 if (decide (s3<(List.length s1.2.1:Int)))=true then
  if (idxIn s3 (List.length s1.2.1))=true then
  let x13:=IntKind.wrap .i64 (s1.1-(1:Int))
  let r14:=g_spec_l1In (((at_ K_Piiq s1.2.1 s3.toNat).1,((0:Int),(x13,()))))
  if (!r14.1)=true then
   some (.inl (false,()))
  else
   let x15:=IntKind.wrap .i64 (s1.1-(1:Int))
   let r16:=g_spec_l1In (((at_ K_Piiq s1.2.1 s3.toNat).2.1,((0:Int),(x15,()))))
   if (!r16.1)=true then
    some (.inl (false,()))
   else
    if (decide ((at_ K_Piiq s1.2.1 s3.toNat).1>=(at_ K_Piiq s1.2.1 s3.toNat).2.1))=true then
     some (.inl (false,()))
    else
     if (decide (s3>(0:Int)))=true then
      let x17:=IntKind.wrap .i64 (s3-(1:Int))
      if (idxIn x17 (List.length s1.2.1))=true then
      let r18:=g_q51q ((at_ K_Piiq s1.2.1 x17.toNat,(at_ K_Piiq s1.2.1 s3.toNat,())))
      if (!r18.1)=true then
       some (.inl (false,()))
      else
       let x19:=IntKind.wrap .i64 (s3+(1:Int))
       back ((s1,(x19,())))
      else none
     else
      let x20:=IntKind.wrap .i64 (s3+(1:Int))
      back ((s1,(x20,())))
  else none
 else
  some (.inr (.inl (s1,())))
noncomputable def q83q_l0 (N:Nat):Nat->q83q_l0_H->Option q83q_l0_O
 | 0,_=>none
 | k+1,d=>q83q_l0_r N (q83q_l0 N k) d
noncomputable def F_q83q (N:Nat) (d:(Int×(List (Int×Int×Unit))×Unit)×Unit):Option (Bool×Unit):=
 let a0:=d.1
 (q83q_l0 N N ((a0,((0:Int),())))).bind fun o9=>match o9 with
 | .inl d10=>
  some (d10.1,())
 | .inr (.inl d11)=>
  let r12:=g_spec_l1In ((d11.1.1,((0:Int),((8:Int),()))))
  some (r12.1,())
noncomputable def S_q83q:FSig:=⟨[(K_PiSPiiqq,false)],[.bool],true,(G_graph)⟩
noncomputable def Γ_q61q:Ctx:={ tk:=assoc tks,ar:=assoc ars,fs:=assoc [(115,S_q83q),(148,S_spec_l1In)] }
noncomputable def F_q61q (N:Nat) (d:(Int×(List (Int×Int×Unit))×Unit)×Int×Unit):Option (Bool×Unit):=
 let a0:=d.1
 let a1:=d.2.1
 (G_graph (a0,())).bind fun r1=>
 if (r1.1)=true then
  if (decide (a0.1>(0:Int)))=true then
   let r2:=g_spec_l1In ((a1,((1:Int),((3:Int),()))))
   some (r2.1,())
  else
   some (false,())
 else
  some (false,())
noncomputable def S_q61q:FSig:=⟨[(K_PiSPiiqq,false),(I,false)],[.bool],true,(F_q61q 0)⟩
noncomputable def Γ_spec_l1Own:Ctx:={ tk:=assoc tks,ar:=assoc ars,fs:=assoc [] }
noncomputable def F_spec_l1Own (N:Nat) (d:List Int×Unit):Option (List Int×Unit):=
 let a0:=d.1
 if (decide (List.length ([]:List Int)+List.length a0<=lim))=true then
 some (([]:List Int)++a0,())
 else none
noncomputable def S_spec_l1Own:FSig:=⟨[(K_Si,false)],[K_Si],true,(F_spec_l1Own 0)⟩
noncomputable def Γ_q44q:Ctx:={ tk:=assoc tks,ar:=assoc ars,fs:=assoc [(151,S_spec_l1Own)] }
abbrev q44q_l4_H:=Int×Int×List (List Int)×Int×List (List Int)×Int×Int×Unit
abbrev q44q_l4_O:=(Int×Int×List (List Int)×Int×List (List Int)×Int×Unit)⊕Empty
def q44q_l4_h:Form:=[(0,.v I),(1,.v I),(5,.own K_SSi 100),(6,.v I),(7,.own K_SSi 100),(8,.v I),(10,.v I)]
def q44q_l4_o:Outs:=[(.normal,[(0,.v I),(1,.v I),(5,.own K_SSi 100),(6,.v I),(7,.own K_SSi 100),(8,.v I)])]
noncomputable def q44q_l4_r (N:Nat) (back:q44q_l4_H->Option q44q_l4_O) (d:q44q_l4_H):Option q44q_l4_O:=
 let s0:=d.1
 let s1:=d.2.1
 let s5:=d.2.2.1
 let s6:=d.2.2.2.1
 let s7:=d.2.2.2.2.1
 let s8:=d.2.2.2.2.2.1
 let s10:=d.2.2.2.2.2.2.1
 if (decide (s10<s0))=true then
  if (idxIn s8 (List.length s5))=true then
  ((F_spec_l1Own 0) (at_ K_Si s5 s8.toNat,())).bind fun r36=>
  if (decide (List.length r36.1+List.length ([s10])<=lim))=true then
  if (decide (List.length s7+List.length ([r36.1++([s10])])<=lim))=true then
  let x37:=IntKind.wrap .i64 (s10+(1:Int))
  back ((s0,(s1,(s5,(s6,(s7++([r36.1++([s10])]),(s8,(x37,()))))))))
  else none
  else none
  else none
 else
  some (.inl ((s0,(s1,(s5,(s6,(s7,(s8,()))))))))
noncomputable def q44q_l4 (N:Nat):Nat->q44q_l4_H->Option q44q_l4_O
 | 0,_=>none
 | k+1,d=>q44q_l4_r N (q44q_l4 N k) d
abbrev q44q_l2_H:=Int×Int×List (List Int)×Int×List (List Int)×Int×Unit
abbrev q44q_l2_O:=(Int×Int×Int×List (List Int)×Unit)⊕Empty
def q44q_l2_h:Form:=[(0,.v I),(1,.v I),(5,.own K_SSi 100),(6,.v I),(7,.own K_SSi 100),(8,.v I)]
def q44q_l2_o:Outs:=[(.normal,[(0,.v I),(1,.v I),(6,.v I),(7,.own K_SSi 100)])]
noncomputable def q44q_l2_r (N:Nat) (back:q44q_l2_H->Option q44q_l2_O) (d:q44q_l2_H):Option q44q_l2_O:=
 let s0:=d.1
 let s1:=d.2.1
 let s5:=d.2.2.1
 let s6:=d.2.2.2.1
 let s7:=d.2.2.2.2.1
 let s8:=d.2.2.2.2.2.1
 if (decide (s8<(List.length s5:Int)))=true then
  if (decide (s6>(0:Int)))=true then
   if (idxIn s8 (List.length s5))=true then
   let x27:=IntKind.wrap .i64 (s6-(1:Int))
   if (idxIn x27 (List.length (at_ K_Si s5 s8.toNat)))=true then
   (q44q_l4 N N ((s0,(s1,(s5,(s6,(s7,(s8,(at_ I (at_ K_Si s5 s8.toNat) x27.toNat,()))))))))).bind fun o30=>match o30 with
   | .inl d31=>
    let x32:=IntKind.wrap .i64 (d31.2.2.2.2.2.1+(1:Int))
    back ((d31.1,(d31.2.1,(d31.2.2.1,(d31.2.2.2.1,(d31.2.2.2.2.1,(x32,())))))))
   else none
   else none
  else
   (q44q_l4 N N ((s0,(s1,(s5,(s6,(s7,(s8,((0:Int),()))))))))).bind fun o33=>match o33 with
   | .inl d34=>
    let x35:=IntKind.wrap .i64 (d34.2.2.2.2.2.1+(1:Int))
    back ((d34.1,(d34.2.1,(d34.2.2.1,(d34.2.2.2.1,(d34.2.2.2.2.1,(x35,())))))))
 else
  some (.inl ((s0,(s1,(s6,(s7,()))))))
noncomputable def q44q_l2 (N:Nat):Nat->q44q_l2_H->Option q44q_l2_O
 | 0,_=>none
 | k+1,d=>q44q_l2_r N (q44q_l2 N k) d
abbrev q44q_l0_H:=Int×Int×List (List Int)×Int×Unit
abbrev q44q_l0_O:=(List (List Int)×Unit)⊕Empty
def q44q_l0_h:Form:=[(0,.v I),(1,.v I),(5,.own K_SSi 100),(6,.v I)]
def q44q_l0_o:Outs:=[(.normal,[(5,.own K_SSi 100)])]
noncomputable def q44q_l0_r (N:Nat) (back:q44q_l0_H->Option q44q_l0_O) (d:q44q_l0_H):Option q44q_l0_O:=
 let s0:=d.1
 let s1:=d.2.1
 let s5:=d.2.2.1
 let s6:=d.2.2.2.1
 if (decide (s6<s1))=true then
  (q44q_l2 N N ((s0,(s1,(s5,(s6,(([]:List (List Int)),((0:Int),())))))))).bind fun o24=>match o24 with
  | .inl d25=>
   let x26:=IntKind.wrap .i64 (d25.2.2.1+(1:Int))
   back ((d25.1,(d25.2.1,(d25.2.2.2.1,(x26,())))))
 else
  some (.inl (s5,()))
noncomputable def q44q_l0 (N:Nat):Nat->q44q_l0_H->Option q44q_l0_O
 | 0,_=>none
 | k+1,d=>q44q_l0_r N (q44q_l0 N k) d
noncomputable def F_q44q (N:Nat) (d:Int×Int×Unit):Option (List (List Int)×Unit):=
 let a0:=d.1
 let a1:=d.2.1
 (q44q_l0 N N ((a0,(a1,([([]:List Int)],((0:Int),())))))).bind fun o13=>match o13 with
 | .inl d14=>
  some (d14.1,())
noncomputable def S_q44q:FSig:=⟨[(I,false),(I,false)],[K_SSi],true,(G_configs)⟩
noncomputable def Γ_q24q:Ctx:={ tk:=assoc tks,ar:=assoc ars,fs:=assoc [(240,S_q71q)] }
abbrev q24q_l0_H:=Int×(Int×(List (Int×Int×Unit))×Unit)×List Int×Int×Unit
abbrev q24q_l0_O:=(List Int×Unit)⊕Empty
def q24q_l0_h:Form:=[(1,.v I),(2,.box K_PiSPiiqq 0),(5,.own K_Si 99),(6,.v I)]
def q24q_l0_o:Outs:=[(.normal,[(5,.own K_Si 99)])]
noncomputable def q24q_l0_r (N:Nat) (back:q24q_l0_H->Option q24q_l0_O) (d:q24q_l0_H):Option q24q_l0_O:=
 let s1:=d.1
 let s2:=d.2.1
 let s5:=d.2.2.1
 let s6:=d.2.2.2.1
 if (decide (s6<s2.1))=true then
  (G_l2Near ((s2,(s1,(s6,()))))).bind fun r6=>
  if (r6.1)=true then
   if (decide (List.length s5+List.length ([s6])<=lim))=true then
   let x7:=IntKind.wrap .i64 (s6+(1:Int))
   back ((s1,(s2,(s5++([s6]),(x7,())))))
   else none
  else
   let x8:=IntKind.wrap .i64 (s6+(1:Int))
   back ((s1,(s2,(s5,(x8,())))))
 else
  some (.inl (s5,()))
noncomputable def q24q_l0 (N:Nat):Nat->q24q_l0_H->Option q24q_l0_O
 | 0,_=>none
 | k+1,d=>q24q_l0_r N (q24q_l0 N k) d
noncomputable def F_q24q (N:Nat) (d:(Int×(List (Int×Int×Unit))×Unit)×Int×Unit):Option (List Int×Unit):=
 let a0:=d.1
 let a1:=d.2.1
 (q24q_l0 N N ((a1,(a0,(([]:List Int),((0:Int),())))))).bind fun o4=>match o4 with
 | .inl d5=>
  some (d5.1,())
noncomputable def S_q24q:FSig:=⟨[(K_PiSPiiqq,false),(I,false)],[K_Si],true,(G_l2Neighbors)⟩
noncomputable def Γ_spec_l1Put:Ctx:={ tk:=assoc tks,ar:=assoc ars,fs:=assoc [] }
abbrev spec_l1Put_l0_H:=List Int×Int×Int×Unit
abbrev spec_l1Put_l0_O:=(List Int×Int×Int×Unit)⊕Empty
def spec_l1Put_l0_h:Form:=[(0,.v K_Si),(1,.v I),(5,.v I)]
def spec_l1Put_l0_o:Outs:=[(.normal,[(0,.v K_Si),(1,.v I),(5,.v I)])]
noncomputable def spec_l1Put_l0_r (N:Nat) (back:spec_l1Put_l0_H->Option spec_l1Put_l0_O) (d:spec_l1Put_l0_H):Option spec_l1Put_l0_O:=
 let s0:=d.1
 let s1:=d.2.1
 let s5:=d.2.2.1
 if (decide (s5<(List.length s0:Int)))=true then
  if (idxIn s5 (List.length s0))=true then
  if (decide (at_ I s0 s5.toNat<s1))=true then
   let x11:=IntKind.wrap .i64 (s5+(1:Int))
   back ((s0,(s1,(x11,()))))
  else
   some (.inl ((s0,(s1,(s5,())))))
  else none
 else
  some (.inl ((s0,(s1,(s5,())))))
noncomputable def spec_l1Put_l0 (N:Nat):Nat->spec_l1Put_l0_H->Option spec_l1Put_l0_O
 | 0,_=>none
 | k+1,d=>spec_l1Put_l0_r N (spec_l1Put_l0 N k) d
noncomputable def F_spec_l1Put (N:Nat) (d:List Int×Int×Unit):Option (List Int×Unit):=
 let a0:=d.1
 let a1:=d.2.1
 (spec_l1Put_l0 N N ((a0,(a1,((0:Int),()))))).bind fun o5=>match o5 with
 | .inl d6=>
  if (decide (d6.2.2.1<(List.length d6.1:Int)))=true then
   if (idxIn d6.2.2.1 (List.length d6.1))=true then
   if (at_ I d6.1 d6.2.2.1.toNat==d6.2.1)=true then
    some (d6.1,())
   else
    if ((decide (0<=(0:Int))&&decide ((0:Int)<=d6.2.2.1)&&decide (d6.2.2.1<=(List.length d6.1:Int))))=true then
    if (decide (List.length ([]:List Int)+List.length (sub_ d6.1 (0:Int) d6.2.2.1)<=lim))=true then
    let x7:=([]:List Int)++(sub_ d6.1 (0:Int) d6.2.2.1)
    if (decide (List.length x7+List.length ([d6.2.1])<=lim))=true then
    if ((decide (0<=d6.2.2.1)&&decide (d6.2.2.1<=(List.length d6.1:Int))&&decide ((List.length d6.1:Int)<=(List.length d6.1:Int))))=true then
    let x8:=sub_ d6.1 d6.2.2.1 (List.length d6.1:Int)
    if (decide (List.length (x7++([d6.2.1]))+List.length x8<=lim))=true then
    some (((x7++([d6.2.1]))++x8,()))
    else none
    else none
    else none
    else none
    else none
   else none
  else
   if ((decide (0<=(0:Int))&&decide ((0:Int)<=d6.2.2.1)&&decide (d6.2.2.1<=(List.length d6.1:Int))))=true then
   if (decide (List.length ([]:List Int)+List.length (sub_ d6.1 (0:Int) d6.2.2.1)<=lim))=true then
   let x9:=([]:List Int)++(sub_ d6.1 (0:Int) d6.2.2.1)
   if (decide (List.length x9+List.length ([d6.2.1])<=lim))=true then
   if ((decide (0<=d6.2.2.1)&&decide (d6.2.2.1<=(List.length d6.1:Int))&&decide ((List.length d6.1:Int)<=(List.length d6.1:Int))))=true then
   let x10:=sub_ d6.1 d6.2.2.1 (List.length d6.1:Int)
   if (decide (List.length (x9++([d6.2.1]))+List.length x10<=lim))=true then
   some (((x9++([d6.2.1]))++x10,()))
   else none
   else none
   else none
   else none
   else none
noncomputable def S_spec_l1Put:FSig:=⟨[(K_Si,false),(I,false)],[K_Si],false,(G_l1Put)⟩
noncomputable def Γ_q81q:Ctx:={ tk:=assoc tks,ar:=assoc ars,fs:=assoc [(92,S_spec_l1Put),(208,S_q24q)] }
noncomputable def F_q81q (N:Nat) (d:(Int×(List (Int×Int×Unit))×Unit)×Int×Unit):Option (List Int×Unit):=
 let a0:=d.1
 let a1:=d.2.1
 (G_l2Neighbors ((a0,(a1,())))).bind fun r3=>
 (G_l1Put ((r3.1,(a1,())))).bind fun r4=>
 some (r4.1,())
noncomputable def S_q81q:FSig:=⟨[(K_PiSPiiqq,false),(I,false)],[K_Si],false,(F_q81q 0)⟩
noncomputable def Γ_q47q:Ctx:={ tk:=assoc tks,ar:=assoc ars,fs:=assoc [],dm:=fun t=>Nat.beq t 3,cs:=assoc [] }
abbrev q47q_l2_H:=List Int×List Int×Int×Int×Unit
abbrev q47q_l2_O:=(List Int×List Int×Int×Int×Unit)⊕Empty
def q47q_l2_h:Form:=[(0,.v K_Si),(3,.v K_Si),(4,.v I),(5,.v I)]
def q47q_l2_o:Outs:=[(.normal,[(0,.v K_Si),(3,.v K_Si),(4,.v I),(5,.v I)])]
noncomputable def q47q_l2_r (N:Nat) (back:q47q_l2_H->Option q47q_l2_O) (d:q47q_l2_H):Option q47q_l2_O:=
 let s0:=d.1
 let s3:=d.2.1
 let s4:=d.2.2.1
 let s5:=d.2.2.2.1
 if (decide (s5<(List.length s3:Int)))=true then
  if (idxIn s5 (List.length s3))=true then
  if (idxIn s4 (List.length s0))=true then
  if (decide (at_ I s3 s5.toNat<=at_ I s0 s4.toNat))=true then
   let x26:=IntKind.wrap .i64 (s5+(1:Int))
   back ((s0,(s3,(s4,(x26,())))))
  else
   some (.inl ((s0,(s3,(s4,(s5,()))))))
  else none
  else none
 else
  some (.inl ((s0,(s3,(s4,(s5,()))))))
noncomputable def q47q_l2 (N:Nat):Nat->q47q_l2_H->Option q47q_l2_O
 | 0,_=>none
 | k+1,d=>q47q_l2_r N (q47q_l2 N k) d
abbrev q47q_l0_H:=List Int×List Int×Int×Unit
abbrev q47q_l0_O:=(List Int×Unit)⊕Empty
def q47q_l0_h:Form:=[(0,.v K_Si),(3,.v K_Si),(4,.v I)]
def q47q_l0_o:Outs:=[(.normal,[(3,.v K_Si)])]
noncomputable def q47q_l0_r (N:Nat) (back:q47q_l0_H->Option q47q_l0_O) (d:q47q_l0_H):Option q47q_l0_O:=
 let s0:=d.1
 let s3:=d.2.1
 let s4:=d.2.2.1
 if (decide (s4<(List.length s0:Int)))=true then
  (q47q_l2 N N ((s0,(s3,(s4,((0:Int),())))))).bind fun o20=>match o20 with
  | .inl d21=>
   if ((decide (0<=(0:Int))&&decide ((0:Int)<=d21.2.2.2.1)&&decide (d21.2.2.2.1<=(List.length d21.2.1:Int))))=true then
   let x22:=sub_ d21.2.1 (0:Int) d21.2.2.2.1
   if (decide (List.length ([]:List Int)+List.length x22<=lim))=true then
   if (idxIn d21.2.2.1 (List.length d21.1))=true then
   if (decide (List.length (([]:List Int)++x22)+List.length ([at_ I d21.1 d21.2.2.1.toNat])<=lim))=true then
   let x23:=(([]:List Int)++x22)++([at_ I d21.1 d21.2.2.1.toNat])
   if ((decide (0<=d21.2.2.2.1)&&decide (d21.2.2.2.1<=(List.length d21.2.1:Int))&&decide ((List.length d21.2.1:Int)<=(List.length d21.2.1:Int))))=true then
   let x24:=sub_ d21.2.1 d21.2.2.2.1 (List.length d21.2.1:Int)
   if (decide (List.length x23+List.length x24<=lim))=true then
   let x25:=IntKind.wrap .i64 (d21.2.2.1+(1:Int))
   back ((d21.1,(x23++x24,(x25,()))))
   else none
   else none
   else none
   else none
   else none
   else none
 else
  some (.inl (s3,()))
noncomputable def q47q_l0 (N:Nat):Nat->q47q_l0_H->Option q47q_l0_O
 | 0,_=>none
 | k+1,d=>q47q_l0_r N (q47q_l0 N k) d
noncomputable def F_q47q (N:Nat) (d:List Int×Unit):Option (List Int×Unit):=
 let a0:=d.1
 (q47q_l0 N N ((a0,(([]:List Int),((0:Int),()))))).bind fun o17=>match o17 with
 | .inl d18=>
  some (d18.1,())
noncomputable def S_q47q:FSig:=⟨[(K_Si,false)],[K_Si],false,(G_l4Sorted)⟩
noncomputable def Γ_q84q:Ctx:={ tk:=assoc tks,ar:=assoc ars,fs:=assoc [] }
abbrev q84q_l0_H:=List Int×List Int×Int×Unit
abbrev q84q_l0_O:=(Bool×Unit)⊕Unit⊕Empty
def q84q_l0_h:Form:=[(0,.v K_Si),(1,.v K_Si),(5,.v I)]
def q84q_l0_o:Outs:=[(.ret,[(4,.v .bool)]),(.normal,[])]
noncomputable def q84q_l0_r (N:Nat) (back:q84q_l0_H->Option q84q_l0_O) (d:q84q_l0_H):Option q84q_l0_O:=
 let s0:=d.1
 let s1:=d.2.1
 let s5:=d.2.2.1
 if (decide (s5<(List.length s0:Int)))=true then
  if (idxIn s5 (List.length s0))=true then
  if (idxIn s5 (List.length s1))=true then
  if (at_ I s0 s5.toNat != at_ I s1 s5.toNat)=true then
   if (idxIn s5 (List.length s0))=true then
   if (idxIn s5 (List.length s1))=true then
   some (.inl (decide (at_ I s0 s5.toNat<at_ I s1 s5.toNat),()))
   else none
   else none
  else
   let x5:=IntKind.wrap .i64 (s5+(1:Int))
   back ((s0,(s1,(x5,()))))
  else none
  else none
 else
  some (.inr (.inl ()))
noncomputable def q84q_l0 (N:Nat):Nat->q84q_l0_H->Option q84q_l0_O
 | 0,_=>none
 | k+1,d=>q84q_l0_r N (q84q_l0 N k) d
noncomputable def F_q84q (N:Nat) (d:List Int×List Int×Unit):Option (Bool×Unit):=
 let a0:=d.1
 let a1:=d.2.1
 (q84q_l0 N N ((a0,(a1,((0:Int),()))))).bind fun o2=>match o2 with
 | .inl d3=>
  some (d3.1,())
 | .inr (.inl d4)=>
  some (false,())
noncomputable def S_q84q:FSig:=⟨[(K_Si,false),(K_Si,false)],[.bool],true,(G_l4Less)⟩
noncomputable def Γ_q85q:Ctx:={ tk:=assoc tks,ar:=assoc ars,fs:=assoc [] }
abbrev q85q_l0_H:=List Int×List Int×Int×Unit
abbrev q85q_l0_O:=(Bool×Unit)⊕Unit⊕Empty
def q85q_l0_h:Form:=[(0,.v K_Si),(1,.v K_Si),(5,.v I)]
def q85q_l0_o:Outs:=[(.ret,[(4,.v .bool)]),(.normal,[])]
noncomputable def q85q_l0_r (N:Nat) (back:q85q_l0_H->Option q85q_l0_O) (d:q85q_l0_H):Option q85q_l0_O:=
 let s0:=d.1
 let s1:=d.2.1
 let s5:=d.2.2.1
 if (decide (s5<(List.length s0:Int)))=true then
  if (idxIn s5 (List.length s0))=true then
  if (idxIn s5 (List.length s1))=true then
  if (at_ I s0 s5.toNat != at_ I s1 s5.toNat)=true then
   some (.inl (false,()))
  else
   let x5:=IntKind.wrap .i64 (s5+(1:Int))
   back ((s0,(s1,(x5,()))))
  else none
  else none
 else
  some (.inr (.inl ()))
noncomputable def q85q_l0 (N:Nat):Nat->q85q_l0_H->Option q85q_l0_O
 | 0,_=>none
 | k+1,d=>q85q_l0_r N (q85q_l0 N k) d
noncomputable def F_q85q (N:Nat) (d:List Int×List Int×Unit):Option (Bool×Unit):=
 let a0:=d.1
 let a1:=d.2.1
 if ((List.length a0:Int) != (List.length a1:Int))=true then
  some (false,())
 else
  (q85q_l0 N N ((a0,(a1,((0:Int),()))))).bind fun o2=>match o2 with
  | .inl d3=>
   some (d3.1,())
  | .inr (.inl d4)=>
   some (true,())
noncomputable def S_q85q:FSig:=⟨[(K_Si,false),(K_Si,false)],[.bool],true,(G_l1Same)⟩
noncomputable def Γ_spec_l4Put:Ctx:={ tk:=assoc tks,ar:=assoc ars,fs:=assoc [(220,S_q85q),(254,S_q84q)] }
abbrev spec_l4Put_l0_H:=List (List Int)×List Int×Int×Unit
abbrev spec_l4Put_l0_O:=(List (List Int)×List Int×Int×Unit)⊕Empty
def spec_l4Put_l0_h:Form:=[(0,.v K_SSi),(1,.v K_Si),(5,.v I)]
def spec_l4Put_l0_o:Outs:=[(.normal,[(0,.v K_SSi),(1,.v K_Si),(5,.v I)])]
noncomputable def spec_l4Put_l0_r (N:Nat) (back:spec_l4Put_l0_H->Option spec_l4Put_l0_O) (d:spec_l4Put_l0_H):Option spec_l4Put_l0_O:=
 let s0:=d.1
 let s1:=d.2.1
 let s5:=d.2.2.1
 if (decide (s5<(List.length s0:Int)))=true then
  if (idxIn s5 (List.length s0))=true then
  (G_l4Less ((at_ K_Si s0 s5.toNat,(s1,())))).bind fun r15=>
  if (r15.1)=true then
   let x16:=IntKind.wrap .i64 (s5+(1:Int))
   back ((s0,(s1,(x16,()))))
  else
   some (.inl ((s0,(s1,(s5,())))))
  else none
 else
  some (.inl ((s0,(s1,(s5,())))))
noncomputable def spec_l4Put_l0 (N:Nat):Nat->spec_l4Put_l0_H->Option spec_l4Put_l0_O
 | 0,_=>none
 | k+1,d=>spec_l4Put_l0_r N (spec_l4Put_l0 N k) d
noncomputable def F_spec_l4Put (N:Nat) (d:List (List Int)×List Int×Unit):Option (List (List Int)×Unit):=
 let a0:=d.1
 let a1:=d.2.1
 (spec_l4Put_l0 N N ((a0,(a1,((0:Int),()))))).bind fun o8=>match o8 with
 | .inl d9=>
  if (decide (d9.2.2.1<(List.length d9.1:Int)))=true then
   if (idxIn d9.2.2.1 (List.length d9.1))=true then
   (G_l1Same ((at_ K_Si d9.1 d9.2.2.1.toNat,(d9.2.1,())))).bind fun r10=>
   if (r10.1)=true then
    some (d9.1,())
   else
    if ((decide (0<=(0:Int))&&decide ((0:Int)<=d9.2.2.1)&&decide (d9.2.2.1<=(List.length d9.1:Int))))=true then
    if (decide (List.length ([]:List (List Int))+List.length (sub_ d9.1 (0:Int) d9.2.2.1)<=lim))=true then
    let x11:=([]:List (List Int))++(sub_ d9.1 (0:Int) d9.2.2.1)
    if (decide (List.length x11+List.length ([d9.2.1])<=lim))=true then
    if ((decide (0<=d9.2.2.1)&&decide (d9.2.2.1<=(List.length d9.1:Int))&&decide ((List.length d9.1:Int)<=(List.length d9.1:Int))))=true then
    let x12:=sub_ d9.1 d9.2.2.1 (List.length d9.1:Int)
    if (decide (List.length (x11++([d9.2.1]))+List.length x12<=lim))=true then
    some (((x11++([d9.2.1]))++x12,()))
    else none
    else none
    else none
    else none
    else none
   else none
  else
   if ((decide (0<=(0:Int))&&decide ((0:Int)<=d9.2.2.1)&&decide (d9.2.2.1<=(List.length d9.1:Int))))=true then
   if (decide (List.length ([]:List (List Int))+List.length (sub_ d9.1 (0:Int) d9.2.2.1)<=lim))=true then
   let x13:=([]:List (List Int))++(sub_ d9.1 (0:Int) d9.2.2.1)
   if (decide (List.length x13+List.length ([d9.2.1])<=lim))=true then
   if ((decide (0<=d9.2.2.1)&&decide (d9.2.2.1<=(List.length d9.1:Int))&&decide ((List.length d9.1:Int)<=(List.length d9.1:Int))))=true then
   let x14:=sub_ d9.1 d9.2.2.1 (List.length d9.1:Int)
   if (decide (List.length (x13++([d9.2.1]))+List.length x14<=lim))=true then
   some (((x13++([d9.2.1]))++x14,()))
   else none
   else none
   else none
   else none
   else none
noncomputable def S_spec_l4Put:FSig:=⟨[(K_SSi,false),(K_Si,false)],[K_SSi],false,(G_l4Put)⟩
noncomputable def Γ_q60q:Ctx:={ tk:=assoc tks,ar:=assoc ars,fs:=assoc [(124,S_q81q),(151,S_spec_l1Own),(224,S_spec_l4Put),(225,S_q47q)],dm:=fun t=>Nat.beq t 5||Nat.beq t 11,cs:=assoc [] }
abbrev q60q_l4_H:=List Int×(Int×(List (Int×Int×Unit))×Unit)×List (List Int)×Int×List (List Int)×List Int×Int×Int×Unit
abbrev q60q_l4_O:=(List Int×(Int×(List (Int×Int×Unit))×Unit)×List (List Int)×Int×List (List Int)×List Int×Int×Unit)⊕Empty
def q60q_l4_h:Form:=[(1,.v K_Si),(2,.box K_PiSPiiqq 0),(5,.v K_SSi),(6,.v I),(7,.own K_SSi 100),(8,.v K_Si),(9,.v I),(10,.v I)]
def q60q_l4_o:Outs:=[(.normal,[(1,.v K_Si),(2,.box K_PiSPiiqq 0),(5,.v K_SSi),(6,.v I),(7,.own K_SSi 100),(8,.v K_Si),(9,.v I)])]
noncomputable def q60q_l4_r (N:Nat) (back:q60q_l4_H->Option q60q_l4_O) (d:q60q_l4_H):Option q60q_l4_O:=
 let s1:=d.1
 let s2:=d.2.1
 let s5:=d.2.2.1
 let s6:=d.2.2.2.1
 let s7:=d.2.2.2.2.1
 let s8:=d.2.2.2.2.2.1
 let s9:=d.2.2.2.2.2.2.1
 let s10:=d.2.2.2.2.2.2.2.1
 if (decide (s10<(List.length s8:Int)))=true then
  if (idxIn s9 (List.length s5))=true then
  ((F_spec_l1Own 0) (at_ K_Si s5 s9.toNat,())).bind fun r51=>
  if (idxIn s10 (List.length s8))=true then
  if (decide (List.length r51.1+List.length ([at_ I s8 s10.toNat])<=lim))=true then
  let x52:=r51.1++([at_ I s8 s10.toNat])
  if (decide (List.length s7+List.length ([x52])<=lim))=true then
  let x53:=IntKind.wrap .i64 (s10+(1:Int))
  back ((s1,(s2,(s5,(s6,(s7++([x52]),(s8,(s9,(x53,())))))))))
  else none
  else none
  else none
  else none
 else
  some (.inl ((s1,(s2,(s5,(s6,(s7,(s8,(s9,())))))))))
noncomputable def q60q_l4 (N:Nat):Nat->q60q_l4_H->Option q60q_l4_O
 | 0,_=>none
 | k+1,d=>q60q_l4_r N (q60q_l4 N k) d
abbrev q60q_l2_H:=List Int×(Int×(List (Int×Int×Unit))×Unit)×List (List Int)×Int×List (List Int)×List Int×Int×Unit
abbrev q60q_l2_O:=(List Int×(Int×(List (Int×Int×Unit))×Unit)×Int×List (List Int)×Unit)⊕Empty
def q60q_l2_h:Form:=[(1,.v K_Si),(2,.box K_PiSPiiqq 0),(5,.v K_SSi),(6,.v I),(7,.own K_SSi 100),(8,.v K_Si),(9,.v I)]
def q60q_l2_o:Outs:=[(.normal,[(1,.v K_Si),(2,.box K_PiSPiiqq 0),(6,.v I),(7,.own K_SSi 100)])]
noncomputable def q60q_l2_r (N:Nat) (back:q60q_l2_H->Option q60q_l2_O) (d:q60q_l2_H):Option q60q_l2_O:=
 let s1:=d.1
 let s2:=d.2.1
 let s5:=d.2.2.1
 let s6:=d.2.2.2.1
 let s7:=d.2.2.2.2.1
 let s8:=d.2.2.2.2.2.1
 let s9:=d.2.2.2.2.2.2.1
 if (decide (s9<(List.length s5:Int)))=true then
  (q60q_l4 N N ((s1,(s2,(s5,(s6,(s7,(s8,(s9,((0:Int),())))))))))).bind fun o48=>match o48 with
  | .inl d49=>
   let x50:=IntKind.wrap .i64 (d49.2.2.2.2.2.2.1+(1:Int))
   back ((d49.1,(d49.2.1,(d49.2.2.1,(d49.2.2.2.1,(d49.2.2.2.2.1,(d49.2.2.2.2.2.1,(x50,()))))))))
 else
  some (.inl ((s1,(s2,(s6,(s7,()))))))
noncomputable def q60q_l2 (N:Nat):Nat->q60q_l2_H->Option q60q_l2_O
 | 0,_=>none
 | k+1,d=>q60q_l2_r N (q60q_l2 N k) d
abbrev q60q_l0_H:=List Int×(Int×(List (Int×Int×Unit))×Unit)×List (List Int)×Int×Unit
abbrev q60q_l0_O:=(List (List Int)×Unit)⊕Empty
def q60q_l0_h:Form:=[(1,.v K_Si),(2,.box K_PiSPiiqq 0),(5,.v K_SSi),(6,.v I)]
def q60q_l0_o:Outs:=[(.normal,[(5,.v K_SSi)])]
noncomputable def q60q_l0_r (N:Nat) (back:q60q_l0_H->Option q60q_l0_O) (d:q60q_l0_H):Option q60q_l0_O:=
 let s1:=d.1
 let s2:=d.2.1
 let s5:=d.2.2.1
 let s6:=d.2.2.2.1
 if (decide (s6<(List.length s1:Int)))=true then
  if (idxIn s6 (List.length s1))=true then
  ((F_q81q 0) ((s2,(at_ I s1 s6.toNat,())))).bind fun r35=>
  (q60q_l2 N N ((s1,(s2,(s5,(s6,(([]:List (List Int)),(r35.1,((0:Int),()))))))))).bind fun o42=>match o42 with
  | .inl d43=>
   let x44:=IntKind.wrap .i64 (d43.2.2.1+(1:Int))
   back ((d43.1,(d43.2.1,(d43.2.2.2.1,(x44,())))))
  else none
 else
  some (.inl (s5,()))
noncomputable def q60q_l0 (N:Nat):Nat->q60q_l0_H->Option q60q_l0_O
 | 0,_=>none
 | k+1,d=>q60q_l0_r N (q60q_l0 N k) d
abbrev q60q_l6_H:=List (List Int)×List (List Int)×Int×Unit
abbrev q60q_l6_O:=(List (List Int)×Unit)⊕Empty
def q60q_l6_h:Form:=[(5,.v K_SSi),(11,.v K_SSi),(12,.v I)]
def q60q_l6_o:Outs:=[(.normal,[(11,.v K_SSi)])]
noncomputable def q60q_l6_r (N:Nat) (back:q60q_l6_H->Option q60q_l6_O) (d:q60q_l6_H):Option q60q_l6_O:=
 let s5:=d.1
 let s11:=d.2.1
 let s12:=d.2.2.1
 if (decide (s12<(List.length s5:Int)))=true then
  if (idxIn s12 (List.length s5))=true then
  (G_l4Sorted (at_ K_Si s5 s12.toNat,())).bind fun r54=>
  (G_l4Put ((s11,(r54.1,())))).bind fun r55=>
  let x56:=IntKind.wrap .i64 (s12+(1:Int))
  back ((s5,(r55.1,(x56,()))))
  else none
 else
  some (.inl (s11,()))
noncomputable def q60q_l6 (N:Nat):Nat->q60q_l6_H->Option q60q_l6_O
 | 0,_=>none
 | k+1,d=>q60q_l6_r N (q60q_l6 N k) d
noncomputable def F_q60q (N:Nat) (d:(Int×(List (Int×Int×Unit))×Unit)×List Int×Unit):Option (List (List Int)×Unit):=
 let a0:=d.1
 let a1:=d.2.1
 (q60q_l0 N N ((a1,(a0,([([]:List Int)],((0:Int),())))))).bind fun o28=>match o28 with
 | .inl d29=>
  (q60q_l6 N N ((d29.1,(([]:List (List Int)),((0:Int),()))))).bind fun o33=>match o33 with
  | .inl d34=>
   some (d34.1,())
noncomputable def S_q60q:FSig:=⟨[(K_PiSPiiqq,false),(K_Si,false)],[K_SSi],false,(G_l4Moves)⟩
noncomputable def Γ_spec_l4At:Ctx:={ tk:=assoc tks,ar:=assoc ars,fs:=assoc [(220,S_q85q)] }
abbrev spec_l4At_l0_H:=List (List Int)×List Int×Int×Unit
abbrev spec_l4At_l0_O:=(Int×Unit)⊕Unit⊕Empty
def spec_l4At_l0_h:Form:=[(0,.v K_SSi),(1,.v K_Si),(5,.v I)]
def spec_l4At_l0_o:Outs:=[(.ret,[(4,.v I)]),(.normal,[])]
noncomputable def spec_l4At_l0_r (N:Nat) (back:spec_l4At_l0_H->Option spec_l4At_l0_O) (d:spec_l4At_l0_H):Option spec_l4At_l0_O:=
 let s0:=d.1
 let s1:=d.2.1
 let s5:=d.2.2.1
 if (decide (s5<(List.length s0:Int)))=true then
  if (idxIn s5 (List.length s0))=true then
  (G_l1Same ((at_ K_Si s0 s5.toNat,(s1,())))).bind fun r6=>
  if (r6.1)=true then
   some (.inl (s5,()))
  else
   let x7:=IntKind.wrap .i64 (s5+(1:Int))
   back ((s0,(s1,(x7,()))))
  else none
 else
  some (.inr (.inl ()))
noncomputable def spec_l4At_l0 (N:Nat):Nat->spec_l4At_l0_H->Option spec_l4At_l0_O
 | 0,_=>none
 | k+1,d=>spec_l4At_l0_r N (spec_l4At_l0 N k) d
noncomputable def F_spec_l4At (N:Nat) (d:List (List Int)×List Int×Unit):Option (Int×Unit):=
 let a0:=d.1
 let a1:=d.2.1
 (spec_l4At_l0 N N ((a0,(a1,((0:Int),()))))).bind fun o3=>match o3 with
 | .inl d4=>
  some (d4.1,())
 | .inr (.inl d5)=>
  some ((-1:Int),())
noncomputable def S_spec_l4At:FSig:=⟨[(K_SSi,false),(K_Si,false)],[I],true,(G_l4At)⟩
noncomputable def Γ_q72q:Ctx:={ tk:=assoc tks,ar:=assoc ars,fs:=assoc [(124,S_q81q),(149,S_spec_l4At),(155,S_q60q),(159,S_q44q)],cs:=assoc [],gs:=assoc [],eqt:=inL [],md:=md0,ad:=fun t=>bif Nat.beq t 5 then 1 else 99 }
abbrev q72q_l2_H:=(Int×(List (Int×Int×Unit))×Unit)×(List (List Int)×List (List Int)×List (List Int)×Unit)×(List (List Int)×List (List Int)×List (List Int)×Unit)×Int×List (List Int)×List Int×Int×Unit
abbrev q72q_l2_O:=((Int×(List (Int×Int×Unit))×Unit)×(List (List Int)×List (List Int)×List (List Int)×Unit)×(List (List Int)×List (List Int)×List (List Int)×Unit)×Int×List Int×Unit)⊕Empty
def q72q_l2_h:Form:=[(2,.box K_PiSPiiqq 0),(4,.box K_PZSiSSiSSiq 99),(5,.box K_PZSiSSiSSiq 1),(6,.v I),(7,.v K_SSi),(8,.own K_Si 99),(9,.v I)]
def q72q_l2_o:Outs:=[(.normal,[(2,.box K_PiSPiiqq 0),(4,.box K_PZSiSSiSSiq 99),(5,.box K_PZSiSSiSSiq 1),(6,.v I),(8,.own K_Si 99)])]
noncomputable def q72q_l2_r (N:Nat) (back:q72q_l2_H->Option q72q_l2_O) (d:q72q_l2_H):Option q72q_l2_O:=
 let s2:=d.1
 let s4:=d.2.1
 let s5:=d.2.2.1
 let s6:=d.2.2.2.1
 let s7:=d.2.2.2.2.1
 let s8:=d.2.2.2.2.2.1
 let s9:=d.2.2.2.2.2.2.1
 if (decide (s9<(List.length s7:Int)))=true then
  if (idxIn s9 (List.length s7))=true then
  (G_l4At ((s5.1,(at_ K_Si s7 s9.toNat,())))).bind fun r36=>
  if (decide (List.length s8+List.length ([r36.1])<=lim))=true then
  let x37:=IntKind.wrap .i64 (s9+(1:Int))
  back ((s2,(s4,(s5,(s6,(s7,(s8++([r36.1]),(x37,()))))))))
  else none
  else none
 else
  some (.inl ((s2,(s4,(s5,(s6,(s8,())))))))
noncomputable def q72q_l2 (N:Nat):Nat->q72q_l2_H->Option q72q_l2_O
 | 0,_=>none
 | k+1,d=>q72q_l2_r N (q72q_l2 N k) d
abbrev q72q_l0_H:=(Int×(List (Int×Int×Unit))×Unit)×(List (List Int)×List (List Int)×List (List Int)×Unit)×(List (List Int)×List (List Int)×List (List Int)×Unit)×Int×Unit
abbrev q72q_l0_O:=((Int×(List (Int×Int×Unit))×Unit)×(List (List Int)×List (List Int)×List (List Int)×Unit)×(List (List Int)×List (List Int)×List (List Int)×Unit)×Unit)⊕Empty
def q72q_l0_h:Form:=[(2,.box K_PiSPiiqq 0),(4,.box K_PZSiSSiSSiq 99),(5,.box K_PZSiSSiSSiq 1),(6,.v I)]
def q72q_l0_o:Outs:=[(.normal,[(2,.box K_PiSPiiqq 0),(4,.box K_PZSiSSiSSiq 99),(5,.box K_PZSiSSiSSiq 1)])]
noncomputable def q72q_l0_r (N:Nat) (back:q72q_l0_H->Option q72q_l0_O) (d:q72q_l0_H):Option q72q_l0_O:=
 let s2:=d.1
 let s4:=d.2.1
 let s5:=d.2.2.1
 let s6:=d.2.2.2.1
 if (decide (s6<(List.length s5.1:Int)))=true then
  if (idxIn s6 (List.length s5.1))=true then
  (G_l4Moves ((s2,(at_ K_Si s5.1 s6.toNat,())))).bind fun r29=>
  (q72q_l2 N N ((s2,(s4,(s5,(s6,(r29.1,(([]:List Int),((0:Int),()))))))))).bind fun o32=>match o32 with
  | .inl d33=>
   if (decide (List.length d33.2.2.1.2.1+List.length ([d33.2.2.2.2.1])<=lim))=true then
   let x34:=d33.2.2.1.2.1++([d33.2.2.2.2.1])
   let x35:=IntKind.wrap .i64 (d33.2.2.2.1+(1:Int))
   back ((d33.1,(d33.2.1,((d33.2.2.1.1,(x34,d33.2.2.1.2.2)),(x35,())))))
   else none
  else none
 else
  some (.inl ((s2,(s4,(s5,())))))
noncomputable def q72q_l0 (N:Nat):Nat->q72q_l0_H->Option q72q_l0_O
 | 0,_=>none
 | k+1,d=>q72q_l0_r N (q72q_l0 N k) d
abbrev q72q_l4_H:=(Int×(List (Int×Int×Unit))×Unit)×(List (List Int)×List (List Int)×List (List Int)×Unit)×(List (List Int)×List (List Int)×List (List Int)×Unit)×Int×Unit
abbrev q72q_l4_O:=((List (List Int)×List (List Int)×List (List Int)×Unit)×(List (List Int)×List (List Int)×List (List Int)×Unit)×Unit)⊕Empty
def q72q_l4_h:Form:=[(2,.box K_PiSPiiqq 0),(4,.box K_PZSiSSiSSiq 99),(5,.box K_PZSiSSiSSiq 1),(10,.v I)]
def q72q_l4_o:Outs:=[(.normal,[(4,.box K_PZSiSSiSSiq 99),(5,.box K_PZSiSSiSSiq 1)])]
noncomputable def q72q_l4_r (N:Nat) (back:q72q_l4_H->Option q72q_l4_O) (d:q72q_l4_H):Option q72q_l4_O:=
 let s2:=d.1
 let s4:=d.2.1
 let s5:=d.2.2.1
 let s10:=d.2.2.2.1
 if (decide (s10<s2.1))=true then
  ((F_q81q 0) ((s2,(s10,())))).bind fun r38=>
  if (decide (List.length s5.2.2.1+List.length ([r38.1])<=lim))=true then
  let x39:=IntKind.wrap .i64 (s10+(1:Int))
  back ((s2,(s4,((s5.1,(s5.2.1,(s5.2.2.1++([r38.1]),s5.2.2.2))),(x39,())))))
  else none
 else
  some (.inl ((s4,(s5,()))))
noncomputable def q72q_l4 (N:Nat):Nat->q72q_l4_H->Option q72q_l4_O
 | 0,_=>none
 | k+1,d=>q72q_l4_r N (q72q_l4 N k) d
noncomputable def F_q72q (N:Nat) (d:(Int×(List (Int×Int×Unit))×Unit)×Int×Unit):Option ((List (List Int)×List (List Int)×List (List Int)×Unit)×Unit):=
 let a0:=d.1
 let a1:=d.2.1
 (G_configs ((a0.1,(a1,())))).bind fun r15=>
 (q72q_l0 N N ((a0,((([]:List (List Int)),(([]:List (List Int)),(([]:List (List Int)),()))),((r15.1,(([]:List (List Int)),(([]:List (List Int)),()))),((0:Int),())))))).bind fun o23=>match o23 with
 | .inl d24=>
  (q72q_l4 N N ((d24.1,(d24.2.1,(d24.2.2.1,((0:Int),())))))).bind fun o27=>match o27 with
  | .inl d28=>
   some (d28.2.1,())
noncomputable def S_q72q:FSig:=⟨[(K_PiSPiiqq,false),(I,false)],[K_PZSiSSiSSiq],false,(G_l4Make)⟩
noncomputable def Γ_q74q:Ctx:={ tk:=assoc tks,ar:=assoc ars,fs:=assoc [] }
abbrev q74q_l0_H:=Int×Int×List Int×Int×Unit
abbrev q74q_l0_O:=(List Int×Unit)⊕Empty
def q74q_l0_h:Form:=[(0,.v I),(1,.v I),(5,.own K_Si 99),(6,.v I)]
def q74q_l0_o:Outs:=[(.normal,[(5,.own K_Si 99)])]
noncomputable def q74q_l0_r (N:Nat) (back:q74q_l0_H->Option q74q_l0_O) (d:q74q_l0_H):Option q74q_l0_O:=
 let s0:=d.1
 let s1:=d.2.1
 let s5:=d.2.2.1
 let s6:=d.2.2.2.1
 if (decide (s6<s0))=true then
  if (decide (0<=s6))=true then
  let x6:=bits .and .i64 (shr .i64 s1 s6) (1:Int)
  if (x6==(1:Int))=true then
   if (decide (List.length s5+List.length ([s6])<=lim))=true then
   let x7:=IntKind.wrap .i64 (s6+(1:Int))
   back ((s0,(s1,(s5++([s6]),(x7,())))))
   else none
  else
   let x8:=IntKind.wrap .i64 (s6+(1:Int))
   back ((s0,(s1,(s5,(x8,())))))
  else none
 else
  some (.inl (s5,()))
noncomputable def q74q_l0 (N:Nat):Nat->q74q_l0_H->Option q74q_l0_O
 | 0,_=>none
 | k+1,d=>q74q_l0_r N (q74q_l0 N k) d
noncomputable def F_q74q (N:Nat) (d:Int×Int×Unit):Option (List Int×Unit):=
 let a0:=d.1
 let a1:=d.2.1
 (q74q_l0 N N ((a0,(a1,(([]:List Int),((0:Int),())))))).bind fun o4=>match o4 with
 | .inl d5=>
  some (d5.1,())
noncomputable def S_q74q:FSig:=⟨[(I,false),(I,false)],[K_Si],true,(G_l2Bits)⟩
noncomputable def Γ_spec_l2All:Ctx:={ tk:=assoc tks,ar:=assoc ars,fs:=assoc [(226,S_q74q)] }
noncomputable def F_spec_l2All (N:Nat) (d:(Int×(List (Int×Int×Unit))×Unit)×Unit):Option (List Int×Unit):=
 let a0:=d.1
 if (decide (0<=a0.1))=true then
 let x1:=IntKind.wrap .i64 (shl .i64 (1:Int) a0.1-(1:Int))
 (G_l2Bits ((a0.1,(x1,())))).bind fun r2=>
 some (r2.1,())
 else none
noncomputable def S_spec_l2All:FSig:=⟨[(K_PiSPiiqq,false)],[K_Si],true,(F_spec_l2All 0)⟩
noncomputable def Γ_spec_l1Has:Ctx:={ tk:=assoc tks,ar:=assoc ars,fs:=assoc [] }
abbrev spec_l1Has_l0_H:=List Int×Int×Int×Unit
abbrev spec_l1Has_l0_O:=(Bool×Unit)⊕Unit⊕Empty
def spec_l1Has_l0_h:Form:=[(0,.v K_Si),(1,.v I),(5,.v I)]
def spec_l1Has_l0_o:Outs:=[(.ret,[(4,.v .bool)]),(.normal,[])]
noncomputable def spec_l1Has_l0_r (N:Nat) (back:spec_l1Has_l0_H->Option spec_l1Has_l0_O) (d:spec_l1Has_l0_H):Option spec_l1Has_l0_O:=
 let s0:=d.1
 let s1:=d.2.1
 let s5:=d.2.2.1
 if (decide (s5<(List.length s0:Int)))=true then
  if (idxIn s5 (List.length s0))=true then
  if (at_ I s0 s5.toNat==s1)=true then
   some (.inl (true,()))
  else
   let x5:=IntKind.wrap .i64 (s5+(1:Int))
   back ((s0,(s1,(x5,()))))
  else none
 else
  some (.inr (.inl ()))
noncomputable def spec_l1Has_l0 (N:Nat):Nat->spec_l1Has_l0_H->Option spec_l1Has_l0_O
 | 0,_=>none
 | k+1,d=>spec_l1Has_l0_r N (spec_l1Has_l0 N k) d
noncomputable def F_spec_l1Has (N:Nat) (d:List Int×Int×Unit):Option (Bool×Unit):=
 let a0:=d.1
 let a1:=d.2.1
 (spec_l1Has_l0 N N ((a0,(a1,((0:Int),()))))).bind fun o2=>match o2 with
 | .inl d3=>
  some (d3.1,())
 | .inr (.inl d4)=>
  some (false,())
noncomputable def S_spec_l1Has:FSig:=⟨[(K_Si,false),(I,false)],[.bool],true,(G_l1Has)⟩
noncomputable def Γ_q68q:Ctx:={ tk:=assoc tks,ar:=assoc ars,fs:=assoc [(101,S_spec_l1Has)] }
abbrev q68q_l0_H:=List Int×List Int×List Int×Int×Unit
abbrev q68q_l0_O:=(List Int×Unit)⊕Empty
def q68q_l0_h:Form:=[(0,.v K_Si),(1,.v K_Si),(5,.own K_Si 99),(6,.v I)]
def q68q_l0_o:Outs:=[(.normal,[(5,.own K_Si 99)])]
noncomputable def q68q_l0_r (N:Nat) (back:q68q_l0_H->Option q68q_l0_O) (d:q68q_l0_H):Option q68q_l0_O:=
 let s0:=d.1
 let s1:=d.2.1
 let s5:=d.2.2.1
 let s6:=d.2.2.2.1
 if (decide (s6<(List.length s0:Int)))=true then
  if (idxIn s6 (List.length s0))=true then
  (G_l1Has ((s1,(at_ I s0 s6.toNat,())))).bind fun r6=>
  if (!r6.1)=true then
   if (idxIn s6 (List.length s0))=true then
   if (decide (List.length s5+List.length ([at_ I s0 s6.toNat])<=lim))=true then
   let x7:=IntKind.wrap .i64 (s6+(1:Int))
   back ((s0,(s1,(s5++([at_ I s0 s6.toNat]),(x7,())))))
   else none
   else none
  else
   let x8:=IntKind.wrap .i64 (s6+(1:Int))
   back ((s0,(s1,(s5,(x8,())))))
  else none
 else
  some (.inl (s5,()))
noncomputable def q68q_l0 (N:Nat):Nat->q68q_l0_H->Option q68q_l0_O
 | 0,_=>none
 | k+1,d=>q68q_l0_r N (q68q_l0 N k) d
noncomputable def F_q68q (N:Nat) (d:List Int×List Int×Unit):Option (List Int×Unit):=
 let a0:=d.1
 let a1:=d.2.1
 (q68q_l0 N N ((a0,(a1,(([]:List Int),((0:Int),())))))).bind fun o4=>match o4 with
 | .inl d5=>
  some (d5.1,())
noncomputable def S_q68q:FSig:=⟨[(K_Si,false),(K_Si,false)],[K_Si],true,(G_l11Rest)⟩
noncomputable def Γ_q45q:Ctx:={ tk:=assoc tks,ar:=assoc ars,fs:=assoc [] }
abbrev q45q_l0_H:=List Int×Int×Int×Unit
abbrev q45q_l0_O:=(Int×Unit)⊕Empty
def q45q_l0_h:Form:=[(0,.v K_Si),(3,.v I),(4,.v I)]
def q45q_l0_o:Outs:=[(.normal,[(3,.v I)])]
noncomputable def q45q_l0_r (N:Nat) (back:q45q_l0_H->Option q45q_l0_O) (d:q45q_l0_H):Option q45q_l0_O:=
 let s0:=d.1
 let s3:=d.2.1
 let s4:=d.2.2.1
 if (decide (s4<(List.length s0:Int)))=true then
  if (idxIn s4 (List.length s0))=true then
  if (decide (0<=at_ I s0 s4.toNat))=true then
  let x5:=shl .i64 (1:Int) (at_ I s0 s4.toNat)
  let x6:=IntKind.wrap .i64 (s4+(1:Int))
  back ((s0,(IntKind.wrap .i64 (s3+x5),(x6,()))))
  else none
  else none
 else
  some (.inl (s3,()))
noncomputable def q45q_l0 (N:Nat):Nat->q45q_l0_H->Option q45q_l0_O
 | 0,_=>none
 | k+1,d=>q45q_l0_r N (q45q_l0 N k) d
noncomputable def F_q45q (N:Nat) (d:List Int×Unit):Option (Int×Unit):=
 let a0:=d.1
 (q45q_l0 N N ((a0,((0:Int),((0:Int),()))))).bind fun o3=>match o3 with
 | .inl d4=>
  some (d4.1,())
noncomputable def S_q45q:FSig:=⟨[(K_Si,false)],[I],true,(pickF F_q45q P_num)⟩
noncomputable def Γ_q52q:Ctx:={ tk:=assoc tks,ar:=assoc ars,fs:=assoc [(151,S_spec_l1Own)] }
abbrev q52q_l0_H:=(List (Int×List Int×Int×Unit))×Int×(List (List Int)×List (List Int)×List (List Int)×Unit)×List (List Int)×Unit
abbrev q52q_l0_O:=(List (List Int)×Unit)⊕Empty
def q52q_l0_h:Form:=[(1,.v K_SPiSiiq),(2,.v I),(3,.box K_PZSiSSiSSiq 0),(7,.own K_SSi 100)]
def q52q_l0_o:Outs:=[(.normal,[(7,.own K_SSi 100)])]
noncomputable def q52q_l0_r (N:Nat) (back:q52q_l0_H->Option q52q_l0_O) (d:q52q_l0_H):Option q52q_l0_O:=
 let s1:=d.1
 let s2:=d.2.1
 let s3:=d.2.2.1
 let s7:=d.2.2.2.1
 if (decide (s2>=(0:Int)))=true then
  if (idxIn s2 (List.length s1))=true then
  if (idxIn (at_ K_PiSiiq s1 s2.toNat).1 (List.length s3.1))=true then
  ((F_spec_l1Own 0) (at_ K_Si s3.1 (at_ K_PiSiiq s1 s2.toNat).1.toNat,())).bind fun r4=>
  if (decide (List.length ([r4.1])+List.length s7<=lim))=true then
  if (idxIn s2 (List.length s1))=true then
  back ((s1,((at_ K_PiSiiq s1 s2.toNat).2.2.1,(s3,(([r4.1])++s7,())))))
  else none
  else none
  else none
  else none
 else
  some (.inl (s7,()))
noncomputable def q52q_l0 (N:Nat):Nat->q52q_l0_H->Option q52q_l0_O
 | 0,_=>none
 | k+1,d=>q52q_l0_r N (q52q_l0 N k) d
noncomputable def F_q52q (N:Nat) (d:(List (List Int)×List (List Int)×List (List Int)×Unit)×(List (Int×List Int×Int×Unit))×Int×Unit):Option (List (List Int)×Unit):=
 let a0:=d.1
 let a1:=d.2.1
 let a2:=d.2.2.1
 (q52q_l0 N N ((a1,(a2,(a0,(([]:List (List Int)),())))))).bind fun o2=>match o2 with
 | .inl d3=>
  some (d3.1,())
noncomputable def S_q52q:FSig:=⟨[(K_PZSiSSiSSiq,false),(K_SPiSiiq,false),(I,false)],[K_SSi],true,(pickF F_q52q P_trace)⟩
noncomputable def Γ_q56q:Ctx:={ tk:=assoc tks,ar:=assoc ars,fs:=assoc [(92,S_spec_l1Put),(206,S_q68q)],dm:=fun t=>Nat.beq t 8,cs:=assoc [] }
abbrev q56q_l2_H:=List (List Int)×List Int×List Int×List Int×Int×List Int×Int×Unit
abbrev q56q_l2_O:=(List (List Int)×List Int×List Int×List Int×Int×Unit)⊕Empty
def q56q_l2_h:Form:=[(0,.v K_SSi),(2,.v K_Si),(7,.own K_Si 99),(8,.v K_Si),(9,.v I),(10,.own K_Si 99),(11,.v I)]
def q56q_l2_o:Outs:=[(.normal,[(0,.v K_SSi),(2,.v K_Si),(7,.own K_Si 99),(8,.v K_Si),(9,.v I)])]
noncomputable def q56q_l2_r (N:Nat) (back:q56q_l2_H->Option q56q_l2_O) (d:q56q_l2_H):Option q56q_l2_O:=
 let s0:=d.1
 let s2:=d.2.1
 let s7:=d.2.2.1
 let s8:=d.2.2.2.1
 let s9:=d.2.2.2.2.1
 let s10:=d.2.2.2.2.2.1
 let s11:=d.2.2.2.2.2.2.1
 if (decide (s11<(List.length s10:Int)))=true then
  if (idxIn s11 (List.length s10))=true then
  (G_l1Put ((s8,(at_ I s10 s11.toNat,())))).bind fun r25=>
  let x26:=IntKind.wrap .i64 (s11+(1:Int))
  back ((s0,(s2,(s7,(r25.1,(s9,(s10,(x26,()))))))))
  else none
 else
  some (.inl ((s0,(s2,(s7,(s8,(s9,())))))))
noncomputable def q56q_l2 (N:Nat):Nat->q56q_l2_H->Option q56q_l2_O
 | 0,_=>none
 | k+1,d=>q56q_l2_r N (q56q_l2 N k) d
abbrev q56q_l0_H:=List (List Int)×List Int×List Int×List Int×Int×Unit
abbrev q56q_l0_O:=(List Int×Unit)⊕Empty
def q56q_l0_h:Form:=[(0,.v K_SSi),(2,.v K_Si),(7,.own K_Si 99),(8,.v K_Si),(9,.v I)]
def q56q_l0_o:Outs:=[(.normal,[(8,.v K_Si)])]
noncomputable def q56q_l0_r (N:Nat) (back:q56q_l0_H->Option q56q_l0_O) (d:q56q_l0_H):Option q56q_l0_O:=
 let s0:=d.1
 let s2:=d.2.1
 let s7:=d.2.2.1
 let s8:=d.2.2.2.1
 let s9:=d.2.2.2.2.1
 if (decide (s9<(List.length s7:Int)))=true then
  if (idxIn s9 (List.length s7))=true then
  if (idxIn (at_ I s7 s9.toNat) (List.length s0))=true then
  (G_l11Rest ((at_ K_Si s0 (at_ I s7 s9.toNat).toNat,(s2,())))).bind fun r19=>
  (q56q_l2 N N ((s0,(s2,(s7,(s8,(s9,(r19.1,((0:Int),()))))))))).bind fun o22=>match o22 with
  | .inl d23=>
   let x24:=IntKind.wrap .i64 (d23.2.2.2.2.1+(1:Int))
   back ((d23.1,(d23.2.1,(d23.2.2.1,(d23.2.2.2.1,(x24,()))))))
  else none
  else none
 else
  some (.inl (s8,()))
noncomputable def q56q_l0 (N:Nat):Nat->q56q_l0_H->Option q56q_l0_O
 | 0,_=>none
 | k+1,d=>q56q_l0_r N (q56q_l0 N k) d
noncomputable def F_q56q (N:Nat) (d:List (List Int)×List Int×List Int×Unit):Option (List Int×Unit):=
 let a0:=d.1
 let a1:=d.2.1
 let a2:=d.2.2.1
 (G_l11Rest ((a1,(a2,())))).bind fun r10=>
 (q56q_l0 N N ((a0,(a2,(r10.1,(([]:List Int),((0:Int),()))))))).bind fun o17=>match o17 with
 | .inl d18=>
  some (d18.1,())
noncomputable def S_q56q:FSig:=⟨[(K_SSi,false),(K_Si,false),(K_Si,false)],[K_Si],false,(G_l11Next)⟩
noncomputable def Γ_q23q:Ctx:={ tk:=assoc tks,ar:=assoc ars,fs:=assoc [(99,S_q72q),(206,S_q68q),(207,S_spec_l2All),(210,S_q56q),(278,S_q45q),(279,S_q52q)],dm:=fun t=>Nat.beq t 10||Nat.beq t 14,cs:=assoc [] }
abbrev q23q_l0_H:=(Int×(List (Int×Int×Unit))×Unit)×(List (List Int)×List (List Int)×List (List Int)×Unit)×(List (Int×List Int×Int×Unit))×List Bool×Int×Unit
abbrev q23q_l0_O:=((Int×(List (Int×Int×Unit))×Unit)×(List (List Int)×List (List Int)×List (List Int)×Unit)×(List (Int×List Int×Int×Unit))×List Bool×Unit)⊕Empty
def q23q_l0_h:Form:=[(2,.box K_PiSPiiqq 0),(6,.box K_PZSiSSiSSiq 0),(7,.own K_SPiSiiq 1),(8,.own K_Sb 99),(9,.v I)]
def q23q_l0_o:Outs:=[(.normal,[(2,.box K_PiSPiiqq 0),(6,.box K_PZSiSSiSSiq 0),(7,.own K_SPiSiiq 1),(8,.own K_Sb 99)])]
noncomputable def q23q_l0_r (N:Nat) (back:q23q_l0_H->Option q23q_l0_O) (d:q23q_l0_H):Option q23q_l0_O:=
 let s2:=d.1
 let s6:=d.2.1
 let s7:=d.2.2.1
 let s8:=d.2.2.2.1
 let s9:=d.2.2.2.2.1
 if (decide (s9<(List.length s6.1:Int)))=true then
  ((F_spec_l2All 0) (s2,())).bind fun r32=>
  if (idxIn s9 (List.length s6.1))=true then
  (G_l11Rest ((r32.1,(at_ K_Si s6.1 s9.toNat,())))).bind fun r33=>
  if (decide (List.length s7+List.length ([(s9,(r33.1,((-1:Int),())))])<=lim))=true then
  let x34:=s7++([(s9,(r33.1,((-1:Int),())))])
  if (decide (0<=s2.1))=true then
  ((pickF F_q45q P_num) (r33.1,())).bind fun r35=>
  let x36:=IntKind.wrap .i64 (shl .i64 s9 s2.1+r35.1)
  if (idxIn x36 (List.length s8))=true then
  let x37:=IntKind.wrap .i64 (s9+(1:Int))
  back ((s2,(s6,(x34,(List.set s8 x36.toNat true,(x37,()))))))
  else none
  else none
  else none
  else none
 else
  some (.inl ((s2,(s6,(s7,(s8,()))))))
noncomputable def q23q_l0 (N:Nat):Nat->q23q_l0_H->Option q23q_l0_O
 | 0,_=>none
 | k+1,d=>q23q_l0_r N (q23q_l0 N k) d
abbrev q23q_l4_H:=(Int×(List (Int×Int×Unit))×Unit)×(List (List Int)×List (List Int)×List (List Int)×Unit)×(List (Int×List Int×Int×Unit))×List Bool×Int×List Int×Int×Unit
abbrev q23q_l4_O:=((Int×(List (Int×Int×Unit))×Unit)×(List (List Int)×List (List Int)×List (List Int)×Unit)×(List (Int×List Int×Int×Unit))×List Bool×Int×Unit)⊕Empty
def q23q_l4_h:Form:=[(2,.box K_PiSPiiqq 0),(6,.box K_PZSiSSiSSiq 0),(7,.own K_SPiSiiq 1),(8,.own K_Sb 99),(11,.v I),(12,.v K_Si),(13,.v I)]
def q23q_l4_o:Outs:=[(.normal,[(2,.box K_PiSPiiqq 0),(6,.box K_PZSiSSiSSiq 0),(7,.own K_SPiSiiq 1),(8,.own K_Sb 99),(11,.v I)])]
noncomputable def q23q_l4_r (N:Nat) (back:q23q_l4_H->Option q23q_l4_O) (d:q23q_l4_H):Option q23q_l4_O:=
 let s2:=d.1
 let s6:=d.2.1
 let s7:=d.2.2.1
 let s8:=d.2.2.2.1
 let s11:=d.2.2.2.2.1
 let s12:=d.2.2.2.2.2.1
 let s13:=d.2.2.2.2.2.2.1
 if (decide (s13<(List.length s12:Int)))=true then
  if (idxIn s11 (List.length s7))=true then
  if (idxIn s13 (List.length s12))=true then
  if (idxIn (at_ I s12 s13.toNat) (List.length s6.1))=true then
  (G_l11Next ((s6.2.2.1,((at_ K_PiSiiq s7 s11.toNat).2.1,(at_ K_Si s6.1 (at_ I s12 s13.toNat).toNat,()))))).bind fun r49=>
  if (idxIn s13 (List.length s12))=true then
  if (decide (0<=s2.1))=true then
  let x50:=shl .i64 (at_ I s12 s13.toNat) s2.1
  ((pickF F_q45q P_num) (r49.1,())).bind fun r51=>
  let x52:=IntKind.wrap .i64 (x50+r51.1)
  if (idxIn x52 (List.length s8))=true then
  if (!(at_ .bool s8 x52.toNat))=true then
   if (idxIn x52 (List.length s8))=true then
   if (idxIn s13 (List.length s12))=true then
   if (decide (List.length s7+List.length ([(at_ I s12 s13.toNat,(r49.1,(s11,())))])<=lim))=true then
   let x53:=s7++([(at_ I s12 s13.toNat,(r49.1,(s11,())))])
   let x54:=IntKind.wrap .i64 (s13+(1:Int))
   back ((s2,(s6,(x53,(List.set s8 x52.toNat true,(s11,(s12,(x54,()))))))))
   else none
   else none
   else none
  else
   let x55:=IntKind.wrap .i64 (s13+(1:Int))
   back ((s2,(s6,(s7,(s8,(s11,(s12,(x55,()))))))))
  else none
  else none
  else none
  else none
  else none
  else none
 else
  some (.inl ((s2,(s6,(s7,(s8,(s11,())))))))
noncomputable def q23q_l4 (N:Nat):Nat->q23q_l4_H->Option q23q_l4_O
 | 0,_=>none
 | k+1,d=>q23q_l4_r N (q23q_l4 N k) d
abbrev q23q_l2_H:=(Int×(List (Int×Int×Unit))×Unit)×(List (List Int)×List (List Int)×List (List Int)×Unit)×(List (Int×List Int×Int×Unit))×List Bool×Int×Unit
abbrev q23q_l2_O:=(List (List Int)×Bool×Unit)⊕Unit⊕Empty
def q23q_l2_h:Form:=[(2,.box K_PiSPiiqq 0),(6,.box K_PZSiSSiSSiq 0),(7,.own K_SPiSiiq 1),(8,.own K_Sb 99),(11,.v I)]
def q23q_l2_o:Outs:=[(.ret,[(4,.own K_SSi 99),(5,.v .bool)]),(.normal,[])]
noncomputable def q23q_l2_r (N:Nat) (back:q23q_l2_H->Option q23q_l2_O) (d:q23q_l2_H):Option q23q_l2_O:=
 let s2:=d.1
 let s6:=d.2.1
 let s7:=d.2.2.1
 let s8:=d.2.2.2.1
 let s11:=d.2.2.2.2.1
 if (decide (s11<(List.length s7:Int)))=true then
  if (idxIn s11 (List.length s7))=true then
  if ((List.length (at_ K_PiSiiq s7 s11.toNat).2.1:Int)==(0:Int))=true then
   ((pickF F_q52q P_trace) ((s6,(s7,(s11,()))))).bind fun r38=>
   some (.inl ((r38.1,(true,()))))
  else
   if (idxIn s11 (List.length s7))=true then
   if (idxIn (at_ K_PiSiiq s7 s11.toNat).1 (List.length s6.2.1))=true then
   (q23q_l4 N N ((s2,(s6,(s7,(s8,(s11,(at_ K_Si s6.2.1 (at_ K_PiSiiq s7 s11.toNat).1.toNat,((0:Int),()))))))))).bind fun o46=>match o46 with
   | .inl d47=>
    let x48:=IntKind.wrap .i64 (d47.2.2.2.2.1+(1:Int))
    back ((d47.1,(d47.2.1,(d47.2.2.1,(d47.2.2.2.1,(x48,()))))))
   else none
   else none
  else none
 else
  some (.inr (.inl ()))
noncomputable def q23q_l2 (N:Nat):Nat->q23q_l2_H->Option q23q_l2_O
 | 0,_=>none
 | k+1,d=>q23q_l2_r N (q23q_l2 N k) d
noncomputable def F_q23q (N:Nat) (d:(Int×(List (Int×Int×Unit))×Unit)×Int×Unit):Option (List (List Int)×Bool×Unit):=
 let a0:=d.1
 let a1:=d.2.1
 (G_l4Make ((a0,(a1,())))).bind fun r1=>
 if (decide (0<=a0.1))=true then
 let x2:=shl .i64 (List.length r1.1.1:Int) a0.1
 if ((decide (0<=x2)&&decide (x2<=x2)&&decide (x2<=(lim:Int))))=true then
 let x3:=List.replicate x2.toNat false
 (q23q_l0 N N ((a0,(r1.1,(([]:List (Int×List Int×Int×Unit)),(x3,((0:Int),()))))))).bind fun o16=>match o16 with
 | .inl d17=>
  (q23q_l2 N N ((d17.1,(d17.2.1,(d17.2.2.1,(d17.2.2.2.1,((0:Int),()))))))).bind fun o29=>match o29 with
  | .inl d30=>
   some ((d30.1,(d30.2.1,())))
  | .inr (.inl d31)=>
   some ((([]:List (List Int)),(false,())))
 else none
 else none
noncomputable def S_q23q:FSig:=⟨[(K_PiSPiiqq,false),(I,false)],[K_SSi,.bool],true,(pickF F_q23q P_short)⟩
noncomputable def Γ_q7q:Ctx:={ tk:=assoc tks,ar:=assoc ars,fs:=assoc [(98,S_q61q),(259,S_q23q)] }
noncomputable def F_q7q (N:Nat) (d:(Int×(List (Int×Int×Unit))×Unit)×Int×Unit):Option (List (List Int)×Bool×Unit):=
 let a0:=d.1
 let a1:=d.2.1
 ((F_q61q 0) ((a0,(a1,())))).bind fun r1=>
 if (!r1.1)=true then
  some ((([]:List (List Int)),(false,())))
 else
  ((pickF F_q23q P_short) ((a0,(a1,())))).bind fun r2=>
  if (!r2.2.1)=true then
   some ((([]:List (List Int)),(false,())))
  else
   if (decide ((List.length r2.1:Int)>(40:Int)))=true then
    some ((([]:List (List Int)),(false,())))
   else
    some ((r2.1,(true,())))
noncomputable def S_q7q:FSig:=⟨[(K_PiSPiiqq,false),(I,false)],[K_SSi,.bool],true,(F_q7q 0)⟩
noncomputable def Γ_q16q:Ctx:={ tk:=assoc tks,ar:=assoc ars,fs:=assoc [(183,S_q15q)],lent:=fun t=>Nat.beq t 0 }
noncomputable def F_q16q (N:Nat) (d:(List Int×Int×Int×Unit)×Unit):Option ((Int×(List (Int×Int×Unit))×Unit)×(List Int×Int×Int×Unit)×Unit):=
 let a0:=d.1
 ((pickF F_q15q P_someG) ((a0,((8:Int),())))).bind fun r1=>
 some ((r1.1,(r1.2.1,())))
noncomputable def S_q16q:FSig:=⟨[(K_BPSu8iu64q,true)],[K_PiSPiiqq],true,(F_q16q 0)⟩
noncomputable def Γ_q33q:Ctx:={ tk:=assoc tks,ar:=assoc ars,fs:=assoc [(89,S_q43q),(91,S_q31q),(133,S_q27q)],lent:=fun t=>Nat.beq t 0 }
noncomputable def F_q33q (N:Nat) (d:(List Int×Int×Int×Unit)×(Int×(List (Int×Int×Unit))×Unit)×Unit):Option (Int×(List Int×Int×Int×Unit)×Unit):=
 let a0:=d.1
 let a1:=d.2.1
 if (decide (a1.1<(1:Int)))=true then
  ((F_q27q 0) ((a0,([(-1:Int),(0:Int),(8:Int),(4611686018427387904:Int)],())))).bind fun r1=>
  some ((r1.1,(r1.2.1,())))
 else
  if (decide (a1.1>(8:Int)))=true then
   ((F_q27q 0) ((a0,([(-1:Int),(0:Int),(8:Int),(4611686018427387904:Int)],())))).bind fun r2=>
   some ((r2.1,(r2.2.1,())))
  else
   ((F_q43q 0) ((a0,((24:Int),())))).bind fun r3=>
   if (r3.1)=true then
    ((F_q27q 0) ((r3.2.1,([(-1:Int),(0:Int),(8:Int),(4611686018427387904:Int)],())))).bind fun r4=>
    some ((r4.1,(r4.2.1,())))
   else
    ((F_q31q 0) ((r3.2.1,(a1.1,())))).bind fun r5=>
    some ((r5.1,(r5.2.1,())))
noncomputable def S_q33q:FSig:=⟨[(K_BPSu8iu64q,true),(K_PiSPiiqq,false)],[I],true,(F_q33q 0)⟩
noncomputable def Γ_q37q:Ctx:={ tk:=assoc tks,ar:=assoc ars,fs:=assoc [(89,S_q43q),(133,S_q27q)],lent:=fun t=>Nat.beq t 0 }
noncomputable def F_q37q (N:Nat) (d:(List Int×Int×Int×Unit)×Unit):Option (Int×(List Int×Int×Int×Unit)×Unit):=
 let a0:=d.1
 ((F_q43q 0) ((a0,((24:Int),())))).bind fun r1=>
 if (r1.1)=true then
  ((F_q27q 0) ((r1.2.1,([(0:Int),(4:Int),(-1:Int)],())))).bind fun r2=>
  some ((r2.1,(r2.2.1,())))
 else
  ((F_q27q 0) ((r1.2.1,([(1:Int),(1:Int),(2:Int),(2:Int),(3:Int)],())))).bind fun r3=>
  some ((r3.1,(r3.2.1,())))
noncomputable def S_q37q:FSig:=⟨[(K_BPSu8iu64q,true)],[I],true,(F_q37q 0)⟩
noncomputable def Γ_q29q:Ctx:={ tk:=assoc tks,ar:=assoc ars,fs:=assoc [(89,S_q43q),(93,S_q33q),(184,S_q37q),(225,S_q47q)],lent:=fun t=>Nat.beq t 0 }
abbrev q29q_l0_H:=(List Int×Int×Int×Unit)×(Int×(List (Int×Int×Unit))×Unit)×List Int×Int×Unit
abbrev q29q_l0_O:=((List Int×Int×Int×Unit)×List Int×Unit)⊕Empty
def q29q_l0_h:Form:=[(0,.box K_PSu8iu64q 0),(3,.box K_PiSPiiqq 0),(5,.own K_Si 99),(6,.v I)]
def q29q_l0_o:Outs:=[(.normal,[(0,.box K_PSu8iu64q 0),(5,.own K_Si 99)])]
noncomputable def q29q_l0_r (N:Nat) (back:q29q_l0_H->Option q29q_l0_O) (d:q29q_l0_H):Option q29q_l0_O:=
 let s0:=d.1
 let s3:=d.2.1
 let s5:=d.2.2.1
 let s6:=d.2.2.2.1
 if (decide (s6>(0:Int)))=true then
  ((F_q33q 0) ((s0,(s3,())))).bind fun r15=>
  if (decide (List.length s5+List.length ([r15.1])<=lim))=true then
  let x16:=IntKind.wrap .i64 (s6-(1:Int))
  back ((r15.2.1,(s3,(s5++([r15.1]),(x16,())))))
  else none
 else
  some (.inl ((s0,(s5,()))))
noncomputable def q29q_l0 (N:Nat):Nat->q29q_l0_H->Option q29q_l0_O
 | 0,_=>none
 | k+1,d=>q29q_l0_r N (q29q_l0 N k) d
noncomputable def F_q29q (N:Nat) (d:(List Int×Int×Int×Unit)×(Int×(List (Int×Int×Unit))×Unit)×Unit):Option (List Int×(List Int×Int×Int×Unit)×Unit):=
 let a0:=d.1
 let a1:=d.2.1
 ((F_q37q 0) (a0,())).bind fun r8=>
 (q29q_l0 N N ((r8.2.1,(a1,(([]:List Int),(r8.1,())))))).bind fun o11=>match o11 with
 | .inl d12=>
  ((F_q43q 0) ((d12.1,((12:Int),())))).bind fun r13=>
  if (r13.1)=true then
   some ((d12.2.1,(r13.2.1,())))
  else
   (G_l4Sorted (d12.2.1,())).bind fun r14=>
   some ((r14.1,(r13.2.1,())))
noncomputable def S_q29q:FSig:=⟨[(K_BPSu8iu64q,true),(K_PiSPiiqq,false)],[K_Si],false,(pickF F_q29q P_cops)⟩
noncomputable def Γ_q35q:Ctx:={ tk:=assoc tks,ar:=assoc ars,fs:=assoc [(89,S_q43q),(93,S_q33q),(182,S_q16q),(183,S_q15q),(213,S_q29q),(225,S_q47q)],lent:=fun t=>Nat.beq t 0,cs:=assoc [],gs:=assoc [],eqt:=inL [],md:=md0,ad:=fun t=>bif Nat.beq t 4 then 0 else bif Nat.beq t 6 then 0 else 99 }
noncomputable def F_q35q (N:Nat) (d:(List Int×Int×Int×Unit)×Unit):Option ((Int×(List (Int×Int×Unit))×Unit)×List Int×(List Int×Int×Int×Unit)×Unit):=
 let a0:=d.1
 ((F_q43q 0) ((a0,((6:Int),())))).bind fun r7=>
 if (r7.1)=true then
  ((F_q16q 0) (r7.2.1,())).bind fun r8=>
  ((F_q33q 0) ((r8.2.1,(r8.1,())))).bind fun r9=>
  ((F_q43q 0) ((r9.2.1,((2:Int),())))).bind fun r10=>
  if (r10.1)=true then
   ((F_q33q 0) ((r10.2.1,(r8.1,())))).bind fun r11=>
   if (decide (List.length ([r9.1])+List.length ([r11.1])<=lim))=true then
   (G_l4Sorted (([r9.1])++([r11.1]),())).bind fun r12=>
   some ((r8.1,(r12.1,(r11.2.1,()))))
   else none
  else
   some ((r8.1,([r9.1],(r10.2.1,()))))
 else
  ((pickF F_q15q P_someG) ((r7.2.1,((5:Int),())))).bind fun r13=>
  ((pickF F_q29q P_cops) ((r13.2.1,(r13.1,())))).bind fun r14=>
  some ((r13.1,(r14.1,(r14.2.1,()))))
noncomputable def S_q35q:FSig:=⟨[(K_BPSu8iu64q,true)],[K_PiSPiiqq,K_Si],false,(F_q35q 0)⟩
noncomputable def Γ_q73q:Ctx:={ tk:=assoc tks,ar:=assoc ars,fs:=assoc [(148,S_spec_l1In)] }
noncomputable def F_q73q (N:Nat) (d:(Int×(List (Int×Int×Unit))×Unit)×Int×Unit):Option (Bool×Unit):=
 let a0:=d.1
 let a1:=d.2.1
 let x1:=IntKind.wrap .i64 (a0.1-(1:Int))
 let r2:=g_spec_l1In ((a1,((0:Int),(x1,()))))
 some (r2.1,())
noncomputable def g_q73q (d:(Int×(List (Int×Int×Unit))×Unit)×Int×Unit):Bool×Unit:=
 let a0:=d.1
 let a1:=d.2.1
 let x1:=IntKind.wrap .i64 (a0.1-(1:Int))
 let r2:=g_spec_l1In ((a1,((0:Int),(x1,()))))
 (r2.1,())
theorem F_q73q_tot (N:Nat) (d):F_q73q N d=some (g_q73q d):=by
 unfold F_q73q g_q73q
 first
  | rfl
  | (dsimp only; (repeat' split)<;>rfl)
noncomputable def S_q73q:FSig:=⟨[(K_PiSPiiqq,false),(I,false)],[.bool],true,(fun d=>some (g_q73q d))⟩
noncomputable def Γ_q77q:Ctx:={ tk:=assoc tks,ar:=assoc ars,fs:=assoc [(132,S_q73q)] }
abbrev q77q_l0_H:=List Int×(Int×(List (Int×Int×Unit))×Unit)×Int×Unit
abbrev q77q_l0_O:=(Bool×Unit)⊕Unit⊕Empty
def q77q_l0_h:Form:=[(1,.v K_Si),(2,.box K_PiSPiiqq 0),(5,.v I)]
def q77q_l0_o:Outs:=[(.ret,[(4,.v .bool)]),(.normal,[])]
noncomputable def q77q_l0_r (N:Nat) (back:q77q_l0_H->Option q77q_l0_O) (d:q77q_l0_H):Option q77q_l0_O:=
 let s1:=d.1
 let s2:=d.2.1
 let s5:=d.2.2.1
 if (decide (s5<(List.length s1:Int)))=true then
  if (idxIn s5 (List.length s1))=true then
  let r8:=g_q73q ((s2,(at_ I s1 s5.toNat,())))
  if (!r8.1)=true then
   some (.inl (false,()))
  else
   if (decide (s5>(0:Int)))=true then
    let x9:=IntKind.wrap .i64 (s5-(1:Int))
    if (idxIn x9 (List.length s1))=true then
    if (idxIn s5 (List.length s1))=true then
    if (decide (at_ I s1 x9.toNat>at_ I s1 s5.toNat))=true then
     some (.inl (false,()))
    else
     let x10:=IntKind.wrap .i64 (s5+(1:Int))
     back ((s1,(s2,(x10,()))))
    else none
    else none
   else
    let x11:=IntKind.wrap .i64 (s5+(1:Int))
    back ((s1,(s2,(x11,()))))
  else none
 else
  some (.inr (.inl ()))
noncomputable def q77q_l0 (N:Nat):Nat->q77q_l0_H->Option q77q_l0_O
 | 0,_=>none
 | k+1,d=>q77q_l0_r N (q77q_l0 N k) d
noncomputable def F_q77q (N:Nat) (d:(Int×(List (Int×Int×Unit))×Unit)×List Int×Unit):Option (Bool×Unit):=
 let a0:=d.1
 let a1:=d.2.1
 (q77q_l0 N N ((a1,(a0,((0:Int),()))))).bind fun o5=>match o5 with
 | .inl d6=>
  some (d6.1,())
 | .inr (.inl d7)=>
  some (true,())
noncomputable def S_q77q:FSig:=⟨[(K_PiSPiiqq,false),(K_Si,false)],[.bool],true,(G_l4Cops)⟩
noncomputable def Γ_q34q:Ctx:={ tk:=assoc tks,ar:=assoc ars,fs:=assoc [(91,S_q31q),(98,S_q61q),(133,S_q27q),(151,S_spec_l1Own),(154,S_q77q),(155,S_q60q),(212,S_q35q),(213,S_q29q)],lent:=fun t=>Nat.beq t 0 }
abbrev q34q_l0_H:=(List Int×Int×Int×Unit)×(Int×(List (Int×Int×Unit))×Unit)×(Int×(List (Int×Int×Unit))×Unit)×List (List Int)×Int×Unit
abbrev q34q_l0_O:=((List Int×Int×Int×Unit)×(Int×(List (Int×Int×Unit))×Unit)×(Int×(List (Int×Int×Unit))×Unit)×List (List Int)×Unit)⊕Empty
def q34q_l0_h:Form:=[(0,.box K_PSu8iu64q 0),(2,.box K_PiSPiiqq 99),(4,.box K_PiSPiiqq 0),(6,.own K_SSi 1),(7,.v I)]
def q34q_l0_o:Outs:=[(.normal,[(0,.box K_PSu8iu64q 0),(2,.box K_PiSPiiqq 99),(4,.box K_PiSPiiqq 0),(6,.own K_SSi 1)])]
noncomputable def q34q_l0_r (N:Nat) (back:q34q_l0_H->Option q34q_l0_O) (d:q34q_l0_H):Option q34q_l0_O:=
 let s0:=d.1
 let s2:=d.2.1
 let s4:=d.2.2.1
 let s6:=d.2.2.2.1
 let s7:=d.2.2.2.2.1
 if (decide (s7>(0:Int)))=true then
  let x22:=IntKind.wrap .i64 ((List.length s6:Int)-(1:Int))
  if (idxIn x22 (List.length s6))=true then
  (G_l4Moves ((s4,(at_ K_Si s6 x22.toNat,())))).bind fun r23=>
  ((F_q31q 0) ((s0,((List.length r23.1:Int),())))).bind fun r24=>
  if (idxIn r24.1 (List.length r23.1))=true then
  if (decide (List.length s6+List.length ([at_ K_Si r23.1 r24.1.toNat])<=lim))=true then
  let x25:=s6++([at_ K_Si r23.1 r24.1.toNat])
  let x26:=IntKind.wrap .i64 (s7-(1:Int))
  back ((r24.2.1,(s2,(s4,(x25,(x26,()))))))
  else none
  else none
  else none
 else
  some (.inl ((s0,(s2,(s4,(s6,()))))))
noncomputable def q34q_l0 (N:Nat):Nat->q34q_l0_H->Option q34q_l0_O
 | 0,_=>none
 | k+1,d=>q34q_l0_r N (q34q_l0 N k) d
abbrev q34q_l3_H:=(List Int×Int×Int×Unit)×(Int×(List (Int×Int×Unit))×Unit)×(Int×(List (Int×Int×Unit))×Unit)×List (List Int)×Int×Unit
abbrev q34q_l3_O:=((List Int×Int×Int×Unit)×(Int×(List (Int×Int×Unit))×Unit)×(Int×(List (Int×Int×Unit))×Unit)×List (List Int)×Unit)⊕Empty
def q34q_l3_h:Form:=[(0,.box K_PSu8iu64q 0),(2,.box K_PiSPiiqq 99),(4,.box K_PiSPiiqq 0),(6,.own K_SSi 1),(9,.v I)]
def q34q_l3_o:Outs:=[(.normal,[(0,.box K_PSu8iu64q 0),(2,.box K_PiSPiiqq 99),(4,.box K_PiSPiiqq 0),(6,.own K_SSi 1)])]
noncomputable def q34q_l3_r (N:Nat) (back:q34q_l3_H->Option q34q_l3_O) (d:q34q_l3_H):Option q34q_l3_O:=
 let s0:=d.1
 let s2:=d.2.1
 let s4:=d.2.2.1
 let s6:=d.2.2.2.1
 let s9:=d.2.2.2.2.1
 if (decide ((List.length s6:Int)<s9))=true then
  let x27:=IntKind.wrap .i64 ((List.length s6:Int)-(1:Int))
  if (idxIn x27 (List.length s6))=true then
  ((F_spec_l1Own 0) (at_ K_Si s6 x27.toNat,())).bind fun r28=>
  if (decide (List.length s6+List.length ([r28.1])<=lim))=true then
  back ((s0,(s2,(s4,(s6++([r28.1]),(s9,()))))))
  else none
  else none
 else
  some (.inl ((s0,(s2,(s4,(s6,()))))))
noncomputable def q34q_l3 (N:Nat):Nat->q34q_l3_H->Option q34q_l3_O
 | 0,_=>none
 | k+1,d=>q34q_l3_r N (q34q_l3 N k) d
noncomputable def F_q34q (N:Nat) (d:(List Int×Int×Int×Unit)×Unit):Option ((Int×(List (Int×Int×Unit))×Unit)×List (List Int)×(List Int×Int×Int×Unit)×Unit):=
 let a0:=d.1
 ((F_q35q 0) (a0,())).bind fun r3=>
 ((F_q61q 0) ((r3.1,((List.length r3.2.1:Int),())))).bind fun r4=>
 if (!r4.1)=true then
  some ((r3.1,([r3.2.1],(r3.2.2.1,()))))
 else
  (G_l4Cops ((r3.1,(r3.2.1,())))).bind fun r5=>
  if (!r5.1)=true then
   some ((r3.1,([r3.2.1],(r3.2.2.1,()))))
  else
   ((F_q27q 0) ((r3.2.2.1,([(1:Int),(2:Int),(3:Int),(5:Int),(0:Int),(8:Int)],())))).bind fun r6=>
   (q34q_l0 N N ((r6.2.1,(((0:Int),(([]:List (Int×Int×Unit)),())),(r3.1,([r3.2.1],(r6.1,()))))))).bind fun o12=>match o12 with
   | .inl d13=>
    ((F_q31q 0) ((d13.1,((16:Int),())))).bind fun r14=>
    if (r14.1==(0:Int))=true then
     ((pickF F_q29q P_cops) ((r14.2.1,(d13.2.2.1,())))).bind fun r15=>
     if (decide (List.length d13.2.2.2.1+List.length ([r15.1])<=lim))=true then
     some ((d13.2.2.1,(d13.2.2.2.1++([r15.1]),(r15.2.1,()))))
     else none
    else
     if (r14.1==(1:Int))=true then
      some ((d13.2.2.1,(([]:List (List Int)),(r14.2.1,()))))
     else
      if (r14.1==(2:Int))=true then
       ((F_q31q 0) ((r14.2.1,((2:Int),())))).bind fun r16=>
       let x17:=IntKind.wrap .i64 ((40:Int)+r16.1)
       (q34q_l3 N N ((r16.2.1,(d13.2.1,(d13.2.2.1,(d13.2.2.2.1,(x17,()))))))).bind fun o20=>match o20 with
       | .inl d21=>
        some ((d21.2.2.1,(d21.2.2.2.1,(d21.1,()))))
      else
       some ((d13.2.2.1,(d13.2.2.2.1,(r14.2.1,()))))
noncomputable def S_q34q:FSig:=⟨[(K_BPSu8iu64q,true)],[K_PiSPiiqq,K_SSi],false,(pickF F_q34q P_walk)⟩
noncomputable def Γ_q26q:Ctx:={ tk:=assoc tks,ar:=assoc ars,fs:=assoc [(89,S_q43q),(91,S_q31q),(131,S_q34q),(183,S_q15q),(247,S_q7q)],lent:=fun t=>Nat.beq t 0 }
noncomputable def F_q26q (N:Nat) (d:(List Int×Int×Int×Unit)×Unit):Option ((Int×(List (Int×Int×Unit))×Unit)×List (List Int)×(List Int×Int×Int×Unit)×Unit):=
 let a0:=d.1
 ((F_q43q 0) ((a0,((2:Int),())))).bind fun r8=>
 if (r8.1)=true then
  ((pickF F_q15q P_someG) ((r8.2.1,((5:Int),())))).bind fun r9=>
  ((F_q31q 0) ((r9.2.1,((2:Int),())))).bind fun r10=>
  let x11:=IntKind.wrap .i64 ((1:Int)+r10.1)
  ((F_q7q 0) ((r9.1,(x11,())))).bind fun r12=>
  if (r12.2.1)=true then
   if (decide ((List.length r12.1:Int)>(1:Int)))=true then
    ((F_q43q 0) ((r10.2.1,((3:Int),())))).bind fun r13=>
    if (r13.1)=true then
     if ((decide (0<=(1:Int))&&decide ((1:Int)<=(List.length r12.1:Int))&&decide ((List.length r12.1:Int)<=(List.length r12.1:Int))))=true then
     let x14:=sub_ r12.1 (1:Int) (List.length r12.1:Int)
     some ((r9.1,(x14,(r13.2.1,()))))
     else none
    else
     some ((r9.1,(r12.1,(r13.2.1,()))))
   else
    some ((r9.1,(r12.1,(r10.2.1,()))))
  else
   ((pickF F_q34q P_walk) (r10.2.1,())).bind fun r15=>
   some ((r15.1,(r15.2.1,(r15.2.2.1,()))))
 else
  ((pickF F_q34q P_walk) (r8.2.1,())).bind fun r16=>
  some ((r16.1,(r16.2.1,(r16.2.2.1,()))))
noncomputable def S_q26q:FSig:=⟨[(K_BPSu8iu64q,true)],[K_PiSPiiqq,K_SSi],false,(F_q26q 0)⟩
noncomputable def Γ_q14q:Ctx:={ tk:=assoc tks,ar:=assoc ars,fs:=assoc [(202,S_q26q)] }
noncomputable def F_q14q (N:Nat) (d:List Int×Unit):Option ((Int×(List (Int×Int×Unit))×Unit)×List (List Int)×Unit):=
 let a0:=d.1
 ((F_q26q 0) (((a0,((0:Int),((0:Int),()))),()))).bind fun r2=>
 some ((r2.1,(r2.2.1,())))
noncomputable def S_q14q:FSig:=⟨[(K_Su8,false)],[K_PiSPiiqq,K_SSi],false,(F_q14q 0)⟩
noncomputable def Γ_q20q:Ctx:={ tk:=assoc tks,ar:=assoc ars,fs:=assoc [(119,S_q14q)] }
noncomputable def F_q20q (N:Nat) (d:List Int×Unit):Option ((Int×(List (Int×Int×Unit))×Unit)×List (List Int)×Unit):=
 let a0:=d.1
 ((F_q14q 0) (a0,())).bind fun r2=>
 some ((r2.1,(r2.2.1,())))
noncomputable def S_q20q:FSig:=⟨[(K_Su8,false)],[K_PiSPiiqq,K_SSi],false,(F_q20q 0)⟩
noncomputable def Γ_q79q:Ctx:={ tk:=assoc tks,ar:=assoc ars,fs:=assoc [] }
noncomputable def F_q79q (N:Nat) (d:Int×Int×Int×Unit):Option (Bool×Unit):=
 let a0:=d.1
 let a1:=d.2.1
 let a2:=d.2.2.1
 if (decide (a0>=a1))=true then
  some (decide (a0<=a2),())
 else
  some (false,())
noncomputable def g_q79q (d:Int×Int×Int×Unit):Bool×Unit:=
 let a0:=d.1
 let a1:=d.2.1
 let a2:=d.2.2.1
 if (decide (a0>=a1))=true then
  (decide (a0<=a2),())
 else
  (false,())
theorem F_q79q_tot (N:Nat) (d):F_q79q N d=some (g_q79q d):=by
 unfold F_q79q g_q79q
 first
  | rfl
  | (dsimp only; (repeat' split)<;>rfl)
noncomputable def S_q79q:FSig:=⟨[(I,false),(I,false),(I,false)],[.bool],true,(fun d=>some (g_q79q d))⟩
noncomputable def Γ_q48q:Ctx:={ tk:=assoc tks,ar:=assoc ars,fs:=assoc [] }
noncomputable def F_q48q (N:Nat) (d:Int×Unit):Option (Bool×Unit):=
 let a0:=d.1
 some (a0 != a0,())
noncomputable def g_q48q (d:Int×Unit):Bool×Unit:=
 let a0:=d.1
 (a0 != a0,())
theorem F_q48q_tot (N:Nat) (d):F_q48q N d=some (g_q48q d):=by
 unfold F_q48q g_q48q
 first
  | rfl
  | (dsimp only; (repeat' split)<;>rfl)
noncomputable def S_q48q:FSig:=⟨[(I,false)],[.bool],true,(fun d=>some (g_q48q d))⟩
noncomputable def Γ_q30q:Ctx:={ tk:=assoc tks,ar:=assoc ars,fs:=assoc [(258,S_q48q)] }
noncomputable def F_q30q (N:Nat) (d:Int×Int×Unit):Option (Int×Unit):=
 let a0:=d.1
 let a1:=d.2.1
 let r1:=g_q48q (a0,())
 let r2:=g_q48q (a1,())
 if (r1.1)=true then
  if (r2.1)=true then
   some ((0:Int),())
  else
   some ((-1:Int),())
 else
  if (r2.1)=true then
   some ((1:Int),())
  else
   if (decide (a0<a1))=true then
    some ((-1:Int),())
   else
    if (decide (a0>a1))=true then
     some ((1:Int),())
    else
     some ((0:Int),())
noncomputable def g_q30q (d:Int×Int×Unit):Int×Unit:=
 let a0:=d.1
 let a1:=d.2.1
 let r1:=g_q48q (a0,())
 let r2:=g_q48q (a1,())
 if (r1.1)=true then
  if (r2.1)=true then
   ((0:Int),())
  else
   ((-1:Int),())
 else
  if (r2.1)=true then
   ((1:Int),())
  else
   if (decide (a0<a1))=true then
    ((-1:Int),())
   else
    if (decide (a0>a1))=true then
     ((1:Int),())
    else
     ((0:Int),())
theorem F_q30q_tot (N:Nat) (d):F_q30q N d=some (g_q30q d):=by
 unfold F_q30q g_q30q
 first
  | rfl
  | (dsimp only; (repeat' split)<;>rfl)
noncomputable def S_q30q:FSig:=⟨[(I,false),(I,false)],[I],true,(fun d=>some (g_q30q d))⟩
noncomputable def Γ_q6q:Ctx:={ tk:=assoc tks,ar:=assoc ars,fs:=assoc [(246,S_q30q)] }
abbrev q6q_l0_H:=List Int×List Int×List Int×Int×Int×Unit
abbrev q6q_l0_O:=(Int×Unit)⊕(List Int×List Int×Unit)⊕Empty
def q6q_l0_h:Form:=[(0,.v K_Si),(1,.v K_Si),(9,.v K_Si),(10,.v I),(11,.v I)]
def q6q_l0_o:Outs:=[(.ret,[(4,.v I)]),(.normal,[(0,.v K_Si),(1,.v K_Si)])]
noncomputable def q6q_l0_r (N:Nat) (back:q6q_l0_H->Option q6q_l0_O) (d:q6q_l0_H):Option q6q_l0_O:=
 let s0:=d.1
 let s1:=d.2.1
 let s9:=d.2.2.1
 let s10:=d.2.2.2.1
 let s11:=d.2.2.2.2.1
 if (decide (s11<s10))=true then
  if (idxIn s11 (List.length s9))=true then
  if (decide (s11>=(List.length s1:Int)))=true then
   some (.inl ((1:Int),()))
  else
   if (idxIn s11 (List.length s1))=true then
   let r6:=g_q30q ((at_ I s9 s11.toNat,(at_ I s1 s11.toNat,())))
   if (r6.1 != (0:Int))=true then
    some (.inl (r6.1,()))
   else
    let x7:=IntKind.wrap .i64 (s11+(1:Int))
    back ((s0,(s1,(s9,(s10,(x7,()))))))
   else none
  else none
 else
  some (.inr (.inl ((s0,(s1,())))))
noncomputable def q6q_l0 (N:Nat):Nat->q6q_l0_H->Option q6q_l0_O
 | 0,_=>none
 | k+1,d=>q6q_l0_r N (q6q_l0 N k) d
noncomputable def F_q6q (N:Nat) (d:List Int×List Int×Unit):Option (Int×Unit):=
 let a0:=d.1
 let a1:=d.2.1
 (q6q_l0 N N ((a0,(a1,(a0,((List.length a0:Int),((0:Int),()))))))).bind fun o3=>match o3 with
 | .inl d4=>
  some (d4.1,())
 | .inr (.inl d5)=>
  if (decide ((List.length d5.1:Int)<(List.length d5.2.1:Int)))=true then
   some ((-1:Int),())
  else
   some ((0:Int),())
noncomputable def S_q6q:FSig:=⟨[(K_Si,false),(K_Si,false)],[I],true,(G_compare)⟩
noncomputable def Γ_q65q:Ctx:={ tk:=assoc tks,ar:=assoc ars,fs:=assoc [(143,S_q79q),(199,S_q6q)] }
abbrev q65q_l0_H:=(Int×(List (Int×Int×Unit))×Unit)×(List (Int×Int×Unit))×Int×Int×Unit
abbrev q65q_l0_O:=(Bool×Unit)⊕Unit⊕Empty
def q65q_l0_h:Form:=[(1,.box K_PiSPiiqq 0),(10,.v K_SPiiq),(11,.v I),(12,.v I)]
def q65q_l0_o:Outs:=[(.ret,[(2,.v .bool)]),(.normal,[])]
noncomputable def q65q_l0_r (N:Nat) (back:q65q_l0_H->Option q65q_l0_O) (d:q65q_l0_H):Option q65q_l0_O:=
 let s1:=d.1
 let s10:=d.2.1
 let s11:=d.2.2.1
 let s12:=d.2.2.2.1
 if (decide (s12<s11))=true then
  if (idxIn s12 (List.length s10))=true then
  if (decide ((at_ K_Piiq s10 s12.toNat).1<(0:Int)))=true then
   some (.inl (false,()))
  else
   if (decide ((at_ K_Piiq s10 s12.toNat).1>=(at_ K_Piiq s10 s12.toNat).2.1))=true then
    some (.inl (false,()))
   else
    if (decide ((at_ K_Piiq s10 s12.toNat).2.1>=s1.1))=true then
     some (.inl (false,()))
    else
     if (decide (s12>(0:Int)))=true then
      let x9:=IntKind.wrap .i64 (s12-(1:Int))
      if (idxIn x9 (List.length s1.2.1))=true then
      (G_compare (([(at_ K_Piiq s1.2.1 x9.toNat).1,(at_ K_Piiq s1.2.1 x9.toNat).2.1],([(at_ K_Piiq s10 s12.toNat).1,(at_ K_Piiq s10 s12.toNat).2.1],())))).bind fun r10=>
      if (decide (r10.1>=(0:Int)))=true then
       some (.inl (false,()))
      else
       let x11:=IntKind.wrap .i64 (s12+(1:Int))
       back ((s1,(s10,(s11,(x11,())))))
      else none
     else
      let x12:=IntKind.wrap .i64 (s12+(1:Int))
      back ((s1,(s10,(s11,(x12,())))))
  else none
 else
  some (.inr (.inl ()))
noncomputable def q65q_l0 (N:Nat):Nat->q65q_l0_H->Option q65q_l0_O
 | 0,_=>none
 | k+1,d=>q65q_l0_r N (q65q_l0 N k) d
noncomputable def F_q65q (N:Nat) (d:(Int×(List (Int×Int×Unit))×Unit)×Unit):Option (Bool×Unit):=
 let a0:=d.1
 let r1:=g_q79q ((a0.1,((0:Int),((8:Int),()))))
 if (!r1.1)=true then
  some (false,())
 else
  (q65q_l0 N N ((a0,(a0.2.1,((List.length a0.2.1:Int),((0:Int),())))))).bind fun o6=>match o6 with
  | .inl d7=>
   some (d7.1,())
  | .inr (.inl d8)=>
   some (true,())
noncomputable def S_q65q:FSig:=⟨[(K_PiSPiiqq,false)],[.bool],true,(G_graph)⟩
noncomputable def Γ_impl_netOf:Ctx:={ tk:=assoc tks,ar:=assoc ars,fs:=assoc [] }
abbrev impl_netOf_l0_H:=(List Int×Unit)×(List Int×Unit)×(List (Int×Int×Unit))×Int×Int×Unit
abbrev impl_netOf_l0_O:=((List Int×Unit)×(List Int×Unit)×Unit)⊕Empty
def impl_netOf_l0_h:Form:=[(2,.box K_PSiq 99),(3,.box K_PSiq 99),(11,.v K_SPiiq),(12,.v I),(13,.v I)]
def impl_netOf_l0_o:Outs:=[(.normal,[(2,.box K_PSiq 99),(3,.box K_PSiq 99)])]
noncomputable def impl_netOf_l0_r (N:Nat) (back:impl_netOf_l0_H->Option impl_netOf_l0_O) (d:impl_netOf_l0_H):Option impl_netOf_l0_O:=
 let s2:=d.1
 let s3:=d.2.1
 let s11:=d.2.2.1
 let s12:=d.2.2.2.1
 let s13:=d.2.2.2.2.1
 if (decide (s13<s12))=true then
  if (idxIn s13 (List.length s11))=true then
  if (idxIn (at_ K_Piiq s11 s13.toNat).1 (List.length s3.1))=true then
  if (decide (0<=(at_ K_Piiq s11 s13.toNat).2.1))=true then
  let x9:=shl .i64 (1:Int) (at_ K_Piiq s11 s13.toNat).2.1
  let x10:=bits .or .i64 (at_ I s3.1 (at_ K_Piiq s11 s13.toNat).1.toNat) x9
  if (idxIn (at_ K_Piiq s11 s13.toNat).1 (List.length s3.1))=true then
  if (idxIn (at_ K_Piiq s11 s13.toNat).2.1 (List.length (List.set s3.1 (at_ K_Piiq s11 s13.toNat).1.toNat x10)))=true then
  if (decide (0<=(at_ K_Piiq s11 s13.toNat).1))=true then
  let x11:=shl .i64 (1:Int) (at_ K_Piiq s11 s13.toNat).1
  let x12:=bits .or .i64 (at_ I (List.set s3.1 (at_ K_Piiq s11 s13.toNat).1.toNat x10) (at_ K_Piiq s11 s13.toNat).2.1.toNat) x11
  if (idxIn (at_ K_Piiq s11 s13.toNat).2.1 (List.length (List.set s3.1 (at_ K_Piiq s11 s13.toNat).1.toNat x10)))=true then
  let x13:=IntKind.wrap .i64 (s13+(1:Int))
  back ((s2,((List.set (List.set s3.1 (at_ K_Piiq s11 s13.toNat).1.toNat x10) (at_ K_Piiq s11 s13.toNat).2.1.toNat x12,s3.2),(s11,(s12,(x13,()))))))
  else none
  else none
  else none
  else none
  else none
  else none
  else none
 else
  some (.inl ((s2,(s3,()))))
noncomputable def impl_netOf_l0 (N:Nat):Nat->impl_netOf_l0_H->Option impl_netOf_l0_O
 | 0,_=>none
 | k+1,d=>impl_netOf_l0_r N (impl_netOf_l0 N k) d
noncomputable def F_impl_netOf (N:Nat) (d:(Int×(List (Int×Int×Unit))×Unit)×Unit):Option ((List Int×Unit)×Unit):=
 let a0:=d.1
 if ((decide (0<=a0.1)&&decide (a0.1<=a0.1)&&decide (a0.1<=(lim:Int))))=true then
 let x1:=List.replicate a0.1.toNat (0:Int)
 (impl_netOf_l0 N N (((([]:List Int),()),((x1,()),(a0.2.1,((List.length a0.2.1:Int),((0:Int),()))))))).bind fun o7=>match o7 with
 | .inl d8=>
  some (d8.2.1,())
 else none
noncomputable def S_impl_netOf:FSig:=⟨[(K_PiSPiiqq,false)],[K_PSiq],true,(G_netOf)⟩
noncomputable def Γ_q42q:Ctx:={ tk:=assoc tks,ar:=assoc ars,fs:=assoc [(114,S_q65q),(143,S_q79q)] }
noncomputable def F_q42q (N:Nat) (d:(Int×(List (Int×Int×Unit))×Unit)×Int×Unit):Option (Bool×Unit):=
 let a0:=d.1
 let a1:=d.2.1
 (G_graph (a0,())).bind fun r1=>
 if (r1.1)=true then
  if (decide (a0.1>(0:Int)))=true then
   let r2:=g_q79q ((a1,((1:Int),((3:Int),()))))
   some (r2.1,())
  else
   some (false,())
 else
  some (false,())
noncomputable def S_q42q:FSig:=⟨[(K_PiSPiiqq,false),(I,false)],[.bool],true,(F_q42q 0)⟩
noncomputable def Γ_q41q:Ctx:={ tk:=assoc tks,ar:=assoc ars,fs:=assoc [(143,S_q79q)] }
abbrev q41q_l0_H:=Int×Int×List Int×Int×Int×Unit
abbrev q41q_l0_O:=(Bool×Unit)⊕Unit⊕Empty
def q41q_l0_h:Form:=[(1,.v I),(2,.v I),(9,.v K_Si),(10,.v I),(11,.v I)]
def q41q_l0_o:Outs:=[(.ret,[(6,.v .bool)]),(.normal,[])]
noncomputable def q41q_l0_r (N:Nat) (back:q41q_l0_H->Option q41q_l0_O) (d:q41q_l0_H):Option q41q_l0_O:=
 let s1:=d.1
 let s2:=d.2.1
 let s9:=d.2.2.1
 let s10:=d.2.2.2.1
 let s11:=d.2.2.2.2.1
 if (decide (s11<s10))=true then
  if (idxIn s11 (List.length s9))=true then
  let r6:=g_q79q ((at_ I s9 s11.toNat,(s1,(s2,()))))
  if (!r6.1)=true then
   some (.inl (false,()))
  else
   let x7:=IntKind.wrap .i64 (s11+(1:Int))
   back ((s1,(s2,(s9,(s10,(x7,()))))))
  else none
 else
  some (.inr (.inl ()))
noncomputable def q41q_l0 (N:Nat):Nat->q41q_l0_H->Option q41q_l0_O
 | 0,_=>none
 | k+1,d=>q41q_l0_r N (q41q_l0 N k) d
noncomputable def F_q41q (N:Nat) (d:List Int×Int×Int×Unit):Option (Bool×Unit):=
 let a0:=d.1
 let a1:=d.2.1
 let a2:=d.2.2.1
 (q41q_l0 N N ((a1,(a2,(a0,((List.length a0:Int),((0:Int),()))))))).bind fun o3=>match o3 with
 | .inl d4=>
  some (d4.1,())
 | .inr (.inl d5)=>
  some (true,())
noncomputable def S_q41q:FSig:=⟨[(K_Si,false),(I,false),(I,false)],[.bool],true,(G_allWithin)⟩
noncomputable def Γ_q53q:Ctx:={ tk:=assoc tks,ar:=assoc ars,fs:=assoc [(114,S_q65q),(128,S_q41q)] }
noncomputable def F_q53q (N:Nat) (d:(Int×(List (Int×Int×Unit))×Unit)×List Int×Unit):Option (Bool×Unit):=
 let a0:=d.1
 let a1:=d.2.1
 (G_graph (a0,())).bind fun r1=>
 if (r1.1)=true then
  let x2:=IntKind.wrap .i64 (a0.1-(1:Int))
  (G_allWithin ((a1,((0:Int),(x2,()))))).bind fun r3=>
  some (r3.1,())
 else
  some (false,())
noncomputable def S_q53q:FSig:=⟨[(K_PiSPiiqq,false),(K_Si,false)],[.bool],true,(F_q53q 0)⟩
noncomputable def Γ_q63q:Ctx:={ tk:=assoc tks,ar:=assoc ars,fs:=assoc [(258,S_q48q)] }
noncomputable def F_q63q (N:Nat) (d:Int×Int×Unit):Option (Bool×Unit):=
 let a0:=d.1
 let a1:=d.2.1
 let r1:=g_q48q (a0,())
 if (r1.1)=true then
  let r2:=g_q48q (a1,())
  if (!r2.1)=true then
   some (true,())
  else
   some (decide (a0<a1),())
 else
  some (decide (a0<a1),())
noncomputable def g_q63q (d:Int×Int×Unit):Bool×Unit:=
 let a0:=d.1
 let a1:=d.2.1
 let r1:=g_q48q (a0,())
 if (r1.1)=true then
  let r2:=g_q48q (a1,())
  if (!r2.1)=true then
   (true,())
  else
   (decide (a0<a1),())
 else
  (decide (a0<a1),())
theorem F_q63q_tot (N:Nat) (d):F_q63q N d=some (g_q63q d):=by
 unfold F_q63q g_q63q
 first
  | rfl
  | (dsimp only; (repeat' split)<;>rfl)
noncomputable def S_q63q:FSig:=⟨[(I,false),(I,false)],[.bool],true,(fun d=>some (g_q63q d))⟩
noncomputable def Γ_q4q:Ctx:={ tk:=assoc tks,ar:=assoc ars,fs:=assoc [(250,S_q63q)] }
abbrev q4q_l0_H:=List Int×Int×Unit
abbrev q4q_l0_O:=(Bool×Unit)⊕Unit⊕Empty
def q4q_l0_h:Form:=[(0,.v K_Si),(3,.v I)]
def q4q_l0_o:Outs:=[(.ret,[(2,.v .bool)]),(.normal,[])]
noncomputable def q4q_l0_r (N:Nat) (back:q4q_l0_H->Option q4q_l0_O) (d:q4q_l0_H):Option q4q_l0_O:=
 let s0:=d.1
 let s3:=d.2.1
 if (decide (s3>(0:Int)))=true then
  if (idxIn s3 (List.length s0))=true then
  let x8:=IntKind.wrap .i64 (s3-(1:Int))
  if (idxIn x8 (List.length s0))=true then
  let r9:=g_q63q ((at_ I s0 s3.toNat,(at_ I s0 x8.toNat,())))
  if (r9.1)=true then
   some (.inl (false,()))
  else
   let x10:=IntKind.wrap .i64 (s3-(1:Int))
   back ((s0,(x10,())))
  else none
  else none
 else
  some (.inr (.inl ()))
noncomputable def q4q_l0 (N:Nat):Nat->q4q_l0_H->Option q4q_l0_O
 | 0,_=>none
 | k+1,d=>q4q_l0_r N (q4q_l0 N k) d
noncomputable def F_q4q (N:Nat) (d:List Int×Unit):Option (Bool×Unit):=
 let a0:=d.1
 let x1:=IntKind.wrap .i64 ((List.length a0:Int)-(1:Int))
 (q4q_l0 N N ((a0,(x1,())))).bind fun o5=>match o5 with
 | .inl d6=>
  some (d6.1,())
 | .inr (.inl d7)=>
  some (true,())
noncomputable def S_q4q:FSig:=⟨[(K_Si,false)],[.bool],true,(G_isSorted)⟩
noncomputable def Γ_q64q:Ctx:={ tk:=assoc tks,ar:=assoc ars,fs:=assoc [(94,S_q42q),(106,S_q53q),(218,S_q4q)] }
noncomputable def F_q64q (N:Nat) (d:(Int×(List (Int×Int×Unit))×Unit)×List Int×Unit):Option (Bool×Unit):=
 let a0:=d.1
 let a1:=d.2.1
 ((F_q42q 0) ((a0,((List.length a1:Int),())))).bind fun r1=>
 if (r1.1)=true then
  ((F_q53q 0) ((a0,(a1,())))).bind fun r2=>
  if (r2.1)=true then
   (G_isSorted (a1,())).bind fun r3=>
   some (r3.1,())
  else
   some (false,())
 else
  some (false,())
noncomputable def S_q64q:FSig:=⟨[(K_PiSPiiqq,false),(K_Si,false)],[.bool],true,(F_q64q 0)⟩
noncomputable def Γ_q38q:Ctx:={ tk:=assoc tks,ar:=assoc ars,fs:=assoc [] }
noncomputable def F_q38q (N:Nat) (d:(List Int×Unit)×Int×Unit):Option (Int×Unit):=
 let a0:=d.1
 let a1:=d.2.1
 if (idxIn a1 (List.length a0.1))=true then
 if (decide (0<=a1))=true then
 let x1:=bits .or .i64 (at_ I a0.1 a1.toNat) (shl .i64 (1:Int) a1)
 some (x1,())
 else none
 else none
noncomputable def S_q38q:FSig:=⟨[(K_PSiq,false),(I,false)],[I],true,(F_q38q 0)⟩
noncomputable def Γ_impl_setOf:Ctx:={ tk:=assoc tks,ar:=assoc ars,fs:=assoc [] }
abbrev impl_setOf_l0_H:=Int×List Int×Int×Unit
abbrev impl_setOf_l0_O:=(List Int×Unit)⊕Empty
def impl_setOf_l0_h:Form:=[(0,.v I),(3,.own K_Si 99),(4,.v I)]
def impl_setOf_l0_o:Outs:=[(.normal,[(3,.own K_Si 99)])]
noncomputable def impl_setOf_l0_r (N:Nat) (back:impl_setOf_l0_H->Option impl_setOf_l0_O) (d:impl_setOf_l0_H):Option impl_setOf_l0_O:=
 let s0:=d.1
 let s3:=d.2.1
 let s4:=d.2.2.1
 if (decide (0<=s4))=true then
 if (shr .i64 s0 s4 != (0:Int))=true then
  if (decide (0<=s4))=true then
  let x6:=bits .and .i64 (shr .i64 s0 s4) (1:Int)
  if (x6==(1:Int))=true then
   if (decide (List.length s3+List.length ([s4])<=lim))=true then
   let x7:=IntKind.wrap .i64 (s4+(1:Int))
   back ((s0,(s3++([s4]),(x7,()))))
   else none
  else
   let x8:=IntKind.wrap .i64 (s4+(1:Int))
   back ((s0,(s3,(x8,()))))
  else none
 else
  some (.inl (s3,()))
 else none
noncomputable def impl_setOf_l0 (N:Nat):Nat->impl_setOf_l0_H->Option impl_setOf_l0_O
 | 0,_=>none
 | k+1,d=>impl_setOf_l0_r N (impl_setOf_l0 N k) d
noncomputable def F_impl_setOf (N:Nat) (d:Int×Unit):Option (List Int×Unit):=
 let a0:=d.1
 (impl_setOf_l0 N N ((a0,(([]:List Int),((0:Int),()))))).bind fun o4=>match o4 with
 | .inl d5=>
  some (d5.1,())
noncomputable def S_impl_setOf:FSig:=⟨[(I,false)],[K_Si],true,(G_setOf)⟩
noncomputable def Γ_q8q:Ctx:={ tk:=assoc tks,ar:=assoc ars,fs:=assoc [] }
noncomputable def F_q8q (N:Nat) (d:List Int×Unit):Option (List Int×Unit):=
 let a0:=d.1
 if (decide (List.length a0=0))=true then
  both (
    some (([]:List Int),())) (
    if (decide (List.length ([]:List Int)+List.length a0<=lim))=true then
    some (([]:List Int)++a0,())
    else none)
 else
  if (decide (List.length ([]:List Int)+List.length a0<=lim))=true then
  some (([]:List Int)++a0,())
  else none
noncomputable def S_q8q:FSig:=⟨[(K_Si,false)],[K_Si],true,(G_toIntS)⟩
def S_q12q:FSig:=⟨[(K_Si,true)],[],true,G_sortI⟩
noncomputable def Γ_q9q:Ctx:={ tk:=assoc tks,ar:=assoc ars,fs:=assoc [] }
abbrev q9q_l0_H:=List Int×List Int×Int×Int×Unit
abbrev q9q_l0_O:=(Bool×Unit)⊕Unit⊕Empty
def q9q_l0_h:Form:=[(0,.v K_Si),(1,.v K_Si),(12,.v I),(13,.v I)]
def q9q_l0_o:Outs:=[(.ret,[(4,.v .bool)]),(.normal,[])]
noncomputable def q9q_l0_r (N:Nat) (back:q9q_l0_H->Option q9q_l0_O) (d:q9q_l0_H):Option q9q_l0_O:=
 let s0:=d.1
 let s1:=d.2.1
 let s12:=d.2.2.1
 let s13:=d.2.2.2.1
 if (decide (s13<s12))=true then
  if (idxIn s13 (List.length s0))=true then
  if (idxIn s13 (List.length s1))=true then
  if (at_ I s0 s13.toNat != at_ I s1 s13.toNat)=true then
   some (.inl (false,()))
  else
   let x5:=IntKind.wrap .i64 (s13+(1:Int))
   back ((s0,(s1,(s12,(x5,())))))
  else none
  else none
 else
  some (.inr (.inl ()))
noncomputable def q9q_l0 (N:Nat):Nat->q9q_l0_H->Option q9q_l0_O
 | 0,_=>none
 | k+1,d=>q9q_l0_r N (q9q_l0 N k) d
noncomputable def F_q9q (N:Nat) (d:List Int×List Int×Unit):Option (Bool×Unit):=
 let a0:=d.1
 let a1:=d.2.1
 if ((List.length a0:Int) != (List.length a1:Int))=true then
  some (false,())
 else
  (q9q_l0 N N ((a0,(a1,((List.length a0:Int),((0:Int),())))))).bind fun o2=>match o2 with
  | .inl d3=>
   some (d3.1,())
  | .inr (.inl d4)=>
   some (true,())
noncomputable def S_q9q:FSig:=⟨[(K_Si,false),(K_Si,false)],[.bool],true,(G_l1Same)⟩
def S_q1q:FSig:=⟨[(K_SSi,true),(K_F_q6q_qq,false)],[],true,G_sortF⟩
def S_q0q:FSig:=⟨[(K_SSi,true),(K_F_q9q_qq,false)],[K_SSi],true,G_compactF⟩
noncomputable def Γ_q21q:Ctx:={ tk:=assoc tks,ar:=assoc ars,fs:=assoc [(127,S_impl_setOf),(130,S_q38q),(146,S_q8q),(221,S_q12q),(222,S_q1q)],dm:=fun t=>Nat.beq t 10||Nat.beq t 22,cs:=assoc [],gs:=assoc [(223,(S_q0q,{ gone:=[0],deep:=[] }))],eqt:=inL [],md:=md0 }
abbrev q21q_l4_H:=(List Int×Unit)×Int×List (List Int)×List Int×List Int×Int×Int×List (List Int)×Int×Int×List Int×Int×Int×Unit
abbrev q21q_l4_O:=((List Int×Unit)×Int×List (List Int)×List Int×Int×Int×List (List Int)×Int×Int×Unit)⊕Empty
def q21q_l4_h:Form:=[(2,.box K_PSiq 0),(7,.v I),(8,.own K_SSi 99),(10,.v K_Si),(16,.v K_Si),(17,.v I),(18,.v I),(22,.v K_SSi),(23,.v I),(24,.v I),(31,.own K_Si 99),(32,.v I),(33,.v I)]
def q21q_l4_o:Outs:=[(.normal,[(2,.box K_PSiq 0),(7,.v I),(8,.own K_SSi 99),(16,.v K_Si),(17,.v I),(18,.v I),(22,.v K_SSi),(23,.v I),(24,.v I)])]
noncomputable def q21q_l4_r (N:Nat) (back:q21q_l4_H->Option q21q_l4_O) (d:q21q_l4_H):Option q21q_l4_O:=
 let s2:=d.1
 let s7:=d.2.1
 let s8:=d.2.2.1
 let s10:=d.2.2.2.1
 let s16:=d.2.2.2.2.1
 let s17:=d.2.2.2.2.2.1
 let s18:=d.2.2.2.2.2.2.1
 let s22:=d.2.2.2.2.2.2.2.1
 let s23:=d.2.2.2.2.2.2.2.2.1
 let s24:=d.2.2.2.2.2.2.2.2.2.1
 let s31:=d.2.2.2.2.2.2.2.2.2.2.1
 let s32:=d.2.2.2.2.2.2.2.2.2.2.2.1
 let s33:=d.2.2.2.2.2.2.2.2.2.2.2.2.1
 if (decide (s33<s32))=true then
  if (idxIn s33 (List.length s31))=true then
  (G_toIntS (s10,())).bind fun r50=>
  if (decide (List.length r50.1+List.length ([at_ I s31 s33.toNat])<=lim))=true then
  let x51:=r50.1++([at_ I s31 s33.toNat])
  if (decide (List.length s8+List.length ([x51])<=lim))=true then
  let x52:=IntKind.wrap .i64 (s33+(1:Int))
  back ((s2,(s7,(s8++([x51]),(s10,(s16,(s17,(s18,(s22,(s23,(s24,(s31,(s32,(x52,()))))))))))))))
  else none
  else none
  else none
 else
  some (.inl ((s2,(s7,(s8,(s16,(s17,(s18,(s22,(s23,(s24,())))))))))))
noncomputable def q21q_l4 (N:Nat):Nat->q21q_l4_H->Option q21q_l4_O
 | 0,_=>none
 | k+1,d=>q21q_l4_r N (q21q_l4 N k) d
abbrev q21q_l2_H:=(List Int×Unit)×Int×List (List Int)×List Int×Int×Int×List (List Int)×Int×Int×Unit
abbrev q21q_l2_O:=((List Int×Unit)×List (List Int)×List Int×Int×Int×Unit)⊕Empty
def q21q_l2_h:Form:=[(2,.box K_PSiq 0),(7,.v I),(8,.own K_SSi 99),(16,.v K_Si),(17,.v I),(18,.v I),(22,.v K_SSi),(23,.v I),(24,.v I)]
def q21q_l2_o:Outs:=[(.normal,[(2,.box K_PSiq 0),(8,.own K_SSi 99),(16,.v K_Si),(17,.v I),(18,.v I)])]
noncomputable def q21q_l2_r (N:Nat) (back:q21q_l2_H->Option q21q_l2_O) (d:q21q_l2_H):Option q21q_l2_O:=
 let s2:=d.1
 let s7:=d.2.1
 let s8:=d.2.2.1
 let s16:=d.2.2.2.1
 let s17:=d.2.2.2.2.1
 let s18:=d.2.2.2.2.2.1
 let s22:=d.2.2.2.2.2.2.1
 let s23:=d.2.2.2.2.2.2.2.1
 let s24:=d.2.2.2.2.2.2.2.2.1
 if (decide (s24<s23))=true then
  if (idxIn s24 (List.length s22))=true then
  ((F_q38q 0) ((s2,(s7,())))).bind fun r42=>
  (G_setOf (r42.1,())).bind fun r43=>
  (q21q_l4 N N ((s2,(s7,(s8,(at_ K_Si s22 s24.toNat,(s16,(s17,(s18,(s22,(s23,(s24,(r43.1,((List.length r43.1:Int),((0:Int),()))))))))))))))).bind fun o47=>match o47 with
  | .inl d48=>
   let x49:=IntKind.wrap .i64 (d48.2.2.2.2.2.2.2.2.1+(1:Int))
   back ((d48.1,(d48.2.1,(d48.2.2.1,(d48.2.2.2.1,(d48.2.2.2.2.1,(d48.2.2.2.2.2.1,(d48.2.2.2.2.2.2.1,(d48.2.2.2.2.2.2.2.1,(x49,()))))))))))
  else none
 else
  some (.inl ((s2,(s8,(s16,(s17,(s18,())))))))
noncomputable def q21q_l2 (N:Nat):Nat->q21q_l2_H->Option q21q_l2_O
 | 0,_=>none
 | k+1,d=>q21q_l2_r N (q21q_l2 N k) d
abbrev q21q_l0_H:=(List Int×Unit)×List (List Int)×List Int×Int×Int×Unit
abbrev q21q_l0_O:=(List (List Int)×Unit)⊕Empty
def q21q_l0_h:Form:=[(2,.box K_PSiq 0),(5,.own K_SSi 99),(16,.v K_Si),(17,.v I),(18,.v I)]
def q21q_l0_o:Outs:=[(.normal,[(5,.own K_SSi 99)])]
noncomputable def q21q_l0_r (N:Nat) (back:q21q_l0_H->Option q21q_l0_O) (d:q21q_l0_H):Option q21q_l0_O:=
 let s2:=d.1
 let s5:=d.2.1
 let s16:=d.2.2.1
 let s17:=d.2.2.2.1
 let s18:=d.2.2.2.2.1
 if (decide (s18<s17))=true then
  if (idxIn s18 (List.length s16))=true then
  (q21q_l2 N N ((s2,(at_ I s16 s18.toNat,(([]:List (List Int)),(s16,(s17,(s18,(s5,((List.length s5:Int),((0:Int),()))))))))))).bind fun o39=>match o39 with
  | .inl d40=>
   let x41:=IntKind.wrap .i64 (d40.2.2.2.2.1+(1:Int))
   back ((d40.1,(d40.2.1,(d40.2.2.1,(d40.2.2.2.1,(x41,()))))))
  else none
 else
  some (.inl (s5,()))
noncomputable def q21q_l0 (N:Nat):Nat->q21q_l0_H->Option q21q_l0_O
 | 0,_=>none
 | k+1,d=>q21q_l0_r N (q21q_l0 N k) d
abbrev q21q_l6_H:=List (List Int)×Unit×Int×Int×Unit
abbrev q21q_l6_O:=(List (List Int)×Unit)⊕Empty
def q21q_l6_h:Form:=[(5,.own K_SSi 99),(49,.same 5 []),(50,.v I),(51,.v I)]
def q21q_l6_o:Outs:=[(.normal,[(5,.own K_SSi 99)])]
noncomputable def q21q_l6_r (N:Nat) (back:q21q_l6_H->Option q21q_l6_O) (d:q21q_l6_H):Option q21q_l6_O:=
 let s5:=d.1
 let s49:=d.2.1
 let s50:=d.2.2.1
 let s51:=d.2.2.2.1
 if (decide (s51<s50))=true then
  if (idxIn s51 (List.length s5))=true then
  (G_sortI (at_ K_Si s5 s51.toNat,())).bind fun r53=>
  let x54:=IntKind.wrap .i64 (s51+(1:Int))
  back ((List.set s5 s51.toNat r53.1,((),(s50,(x54,())))))
  else none
 else
  some (.inl (s5,()))
noncomputable def q21q_l6 (N:Nat):Nat->q21q_l6_H->Option q21q_l6_O
 | 0,_=>none
 | k+1,d=>q21q_l6_r N (q21q_l6 N k) d
noncomputable def F_q21q (N:Nat) (d:(List Int×Unit)×List Int×Unit):Option (List (List Int)×Unit):=
 let a0:=d.1
 let a1:=d.2.1
 (q21q_l0 N N ((a0,([([]:List Int)],(a1,((List.length a1:Int),((0:Int),()))))))).bind fun o23=>match o23 with
 | .inl d24=>
  (q21q_l6 N N ((d24.1,((),((List.length d24.1:Int),((0:Int),())))))).bind fun o27=>match o27 with
  | .inl d28=>
   (G_sortF ((d28.1,(((),()),())))).bind fun r29=>
   (G_compactF ((r29.1,(((),()),())))).bind fun r30=>
   some (r30.1,())
noncomputable def S_q21q:FSig:=⟨[(K_PSiq,false),(K_Si,false)],[K_SSi],true,(G_copMoves)⟩
noncomputable def Γ_q55q:Ctx:={ tk:=assoc tks,ar:=assoc ars,fs:=assoc [(204,S_q9q)] }
noncomputable def F_q55q (N:Nat) (d:List Int×List Int×Unit):Option (Bool×Unit):=
 let a0:=d.1
 let a1:=d.2.1
 (G_l1Same ((a0,(a1,())))).bind fun r1=>
 some (r1.1,())
noncomputable def S_q55q:FSig:=⟨[(K_Si,false),(K_BSi,false)],[.bool],true,(F_q55q 0)⟩
noncomputable def FV_q55q (d:List Int×(Unit×List Int×Unit)×Unit):Option (Bool×Unit):=(F_q55q 0) (d.1,d.2.1.2)
noncomputable def SV_q55q:FSig:=⟨[(K_Si,false),(K_F_q55q_qPBSiq,false)],[.bool],true,FV_q55q⟩
noncomputable def Γ_q3q:Ctx:={ tk:=assoc tks,ar:=assoc ars,fs:=assoc [],cs:=assoc [(203,SV_q55q)] }
abbrev q3q_l0_H:=List (List Int)×(Unit×List Int×Unit)×Int×Int×Unit
abbrev q3q_l0_O:=(Int×Unit)⊕Unit⊕Empty
def q3q_l0_h:Form:=[(0,.v K_SSi),(1,.v K_F_q55q_qPBSiq),(7,.v I),(8,.v I)]
def q3q_l0_o:Outs:=[(.ret,[(4,.v I)]),(.normal,[])]
noncomputable def q3q_l0_r (N:Nat) (back:q3q_l0_H->Option q3q_l0_O) (d:q3q_l0_H):Option q3q_l0_O:=
 let s0:=d.1
 let s1:=d.2.1
 let s7:=d.2.2.1
 let s8:=d.2.2.2.1
 if (decide (s8<s7))=true then
  if (idxIn s8 (List.length s0))=true then
  (FV_q55q ((at_ K_Si s0 s8.toNat,(s1,())))).bind fun r6=>
  if (r6.1)=true then
   some (.inl (s8,()))
  else
   let x7:=IntKind.wrap .i64 (s8+(1:Int))
   back ((s0,(s1,(s7,(x7,())))))
  else none
 else
  some (.inr (.inl ()))
noncomputable def q3q_l0 (N:Nat):Nat->q3q_l0_H->Option q3q_l0_O
 | 0,_=>none
 | k+1,d=>q3q_l0_r N (q3q_l0 N k) d
noncomputable def F_q3q (N:Nat) (d:List (List Int)×(Unit×List Int×Unit)×Unit):Option (Int×Unit):=
 let a0:=d.1
 let a1:=d.2.1
 (q3q_l0 N N ((a0,(a1,((List.length a0:Int),((0:Int),())))))).bind fun o3=>match o3 with
 | .inl d4=>
  some (d4.1,())
 | .inr (.inl d5)=>
  some ((-1:Int),())
noncomputable def S_q3q:FSig:=⟨[(K_SSi,false),(K_F_q55q_qPBSiq,false)],[I],true,(G_idxWalk)⟩
noncomputable def Γ_q2q:Ctx:={ tk:=assoc tks,ar:=assoc ars,fs:=assoc [(232,S_q3q)] }
noncomputable def F_q2q (N:Nat) (d:List (List Int)×(Unit×List Int×Unit)×Unit):Option (Bool×Unit):=
 let a0:=d.1
 let a1:=d.2.1
 (G_idxWalk ((a0,(a1,())))).bind fun r1=>
 some ((decide (r1.1>=(0:Int)),()))
noncomputable def S_q2q:FSig:=⟨[(K_SSi,false),(K_F_q55q_qPBSiq,false)],[.bool],true,(F_q2q 0)⟩
noncomputable def Γ_q78q:Ctx:={ tk:=assoc tks,ar:=assoc ars,fs:=assoc [(95,S_impl_netOf),(114,S_q65q),(142,S_q64q),(143,S_q79q),(153,S_q21q),(167,S_q2q)],cs:=assoc [],fz:=fun t=>Nat.beq t 7 }
abbrev q78q_l0_H:=List (List Int)×(Int×(List (Int×Int×Unit))×Unit)×(List Int×Unit)×List (List Int)×Int×Int×Unit
abbrev q78q_l0_O:=(Bool×Unit)⊕Unit⊕Empty
def q78q_l0_h:Form:=[(1,.v K_SSi),(2,.box K_PiSPiiqq 0),(5,.box K_PSiq 99),(19,.v K_SSi),(20,.v I),(21,.v I)]
def q78q_l0_o:Outs:=[(.ret,[(4,.v .bool)]),(.normal,[])]
noncomputable def q78q_l0_r (N:Nat) (back:q78q_l0_H->Option q78q_l0_O) (d:q78q_l0_H):Option q78q_l0_O:=
 let s1:=d.1
 let s2:=d.2.1
 let s5:=d.2.2.1
 let s19:=d.2.2.2.1
 let s20:=d.2.2.2.2.1
 let s21:=d.2.2.2.2.2.1
 if (decide (s21<s20))=true then
  if (idxIn s21 (List.length s19))=true then
  ((F_q64q 0) ((s2,(at_ K_Si s19 s21.toNat,())))).bind fun r13=>
  if (!r13.1)=true then
   some (.inl (false,()))
  else
   if (idxIn (0:Int) (List.length s1))=true then
   if ((List.length (at_ K_Si s19 s21.toNat):Int) != (List.length (at_ K_Si s1 (0:Int).toNat):Int))=true then
    some (.inl (false,()))
   else
    if (decide (s21>(0:Int)))=true then
     let x14:=IntKind.wrap .i64 (s21-(1:Int))
     if (idxIn x14 (List.length s1))=true then
     (G_copMoves ((s5,(at_ K_Si s1 x14.toNat,())))).bind fun r15=>
     ((F_q2q 0) ((r15.1,(((),(at_ K_Si s19 s21.toNat,())),())))).bind fun r16=>
     if (!r16.1)=true then
      some (.inl (false,()))
     else
      let x17:=IntKind.wrap .i64 (s21+(1:Int))
      back ((s1,(s2,(s5,(s19,(s20,(x17,())))))))
     else none
    else
     let x18:=IntKind.wrap .i64 (s21+(1:Int))
     back ((s1,(s2,(s5,(s19,(s20,(x18,())))))))
   else none
  else none
 else
  some (.inr (.inl ()))
noncomputable def q78q_l0 (N:Nat):Nat->q78q_l0_H->Option q78q_l0_O
 | 0,_=>none
 | k+1,d=>q78q_l0_r N (q78q_l0 N k) d
noncomputable def F_q78q (N:Nat) (d:(Int×(List (Int×Int×Unit))×Unit)×List (List Int)×Unit):Option (Bool×Unit):=
 let a0:=d.1
 let a1:=d.2.1
 (G_graph (a0,())).bind fun r1=>
 if (!r1.1)=true then
  some (false,())
 else
  let r2:=g_q79q (((List.length a1:Int),((1:Int),((40:Int),()))))
  if (!r2.1)=true then
   some (false,())
  else
   (G_netOf (a0,())).bind fun r3=>
   (q78q_l0 N N ((a1,(a0,(r3.1,(a1,((List.length a1:Int),((0:Int),())))))))).bind fun o10=>match o10 with
   | .inl d11=>
    some (d11.1,())
   | .inr (.inl d12)=>
    some (true,())
noncomputable def S_q78q:FSig:=⟨[(K_PiSPiiqq,false),(K_SSi,false)],[.bool],true,(G_walk)⟩
noncomputable def Γ_q57q:Ctx:={ tk:=assoc tks,ar:=assoc ars,fs:=assoc [] }
noncomputable def F_q57q (N:Nat) (d:(List Int×Unit)×Unit):Option (Int×Unit):=
 let a0:=d.1
 if (decide (0<=(List.length a0.1:Int)))=true then
 let x1:=shl .i64 (1:Int) (List.length a0.1:Int)
 let x2:=IntKind.wrap .i64 (x1-(1:Int))
 some (x2,())
 else none
noncomputable def S_q57q:FSig:=⟨[(K_PSiq,false)],[I],true,(F_q57q 0)⟩
noncomputable def Γ_q82q:Ctx:={ tk:=assoc tks,ar:=assoc ars,fs:=assoc [] }
abbrev q82q_l0_H:=Int×List Int×Int×Int×Unit
abbrev q82q_l0_O:=(Int×Unit)⊕Empty
def q82q_l0_h:Form:=[(3,.v I),(6,.v K_Si),(7,.v I),(8,.v I)]
def q82q_l0_o:Outs:=[(.normal,[(3,.v I)])]
noncomputable def q82q_l0_r (N:Nat) (back:q82q_l0_H->Option q82q_l0_O) (d:q82q_l0_H):Option q82q_l0_O:=
 let s3:=d.1
 let s6:=d.2.1
 let s7:=d.2.2.1
 let s8:=d.2.2.2.1
 if (decide (s8<s7))=true then
  if (idxIn s8 (List.length s6))=true then
  if (decide (0<=at_ I s6 s8.toNat))=true then
  let x5:=shl .i64 (1:Int) (at_ I s6 s8.toNat)
  let x6:=IntKind.wrap .i64 (s8+(1:Int))
  back ((bits .or .i64 s3 x5,(s6,(s7,(x6,())))))
  else none
  else none
 else
  some (.inl (s3,()))
noncomputable def q82q_l0 (N:Nat):Nat->q82q_l0_H->Option q82q_l0_O
 | 0,_=>none
 | k+1,d=>q82q_l0_r N (q82q_l0 N k) d
noncomputable def F_q82q (N:Nat) (d:List Int×Unit):Option (Int×Unit):=
 let a0:=d.1
 (q82q_l0 N N (((0:Int),(a0,((List.length a0:Int),((0:Int),())))))).bind fun o3=>match o3 with
 | .inl d4=>
  some (d4.1,())
noncomputable def S_q82q:FSig:=⟨[(K_Si,false)],[I],true,(G_maskOf)⟩
noncomputable def Γ_q36q:Ctx:={ tk:=assoc tks,ar:=assoc ars,fs:=assoc [] }
abbrev q36q_l0_H:=Int×Int×List Int×Int×Int×Unit
abbrev q36q_l0_O:=(Int×Unit)⊕Empty
def q36q_l0_h:Form:=[(1,.v I),(5,.v I),(10,.v K_Si),(11,.v I),(12,.v I)]
def q36q_l0_o:Outs:=[(.normal,[(5,.v I)])]
noncomputable def q36q_l0_r (N:Nat) (back:q36q_l0_H->Option q36q_l0_O) (d:q36q_l0_H):Option q36q_l0_O:=
 let s1:=d.1
 let s5:=d.2.1
 let s10:=d.2.2.1
 let s11:=d.2.2.2.1
 let s12:=d.2.2.2.2.1
 if (decide (s12<s11))=true then
  if (idxIn s12 (List.length s10))=true then
  if (decide (0<=s12))=true then
  let x7:=bits .and .i64 (shr .i64 s1 s12) (1:Int)
  if (x7==(1:Int))=true then
   let x8:=bits .or .i64 s5 (at_ I s10 s12.toNat)
   let x9:=IntKind.wrap .i64 (s12+(1:Int))
   back ((s1,(x8,(s10,(s11,(x9,()))))))
  else
   let x10:=IntKind.wrap .i64 (s12+(1:Int))
   back ((s1,(s5,(s10,(s11,(x10,()))))))
  else none
  else none
 else
  some (.inl (s5,()))
noncomputable def q36q_l0 (N:Nat):Nat->q36q_l0_H->Option q36q_l0_O
 | 0,_=>none
 | k+1,d=>q36q_l0_r N (q36q_l0 N k) d
noncomputable def F_q36q (N:Nat) (d:(List Int×Unit)×Int×Unit):Option (Int×Unit):=
 let a0:=d.1
 let a1:=d.2.1
 (q36q_l0 N N ((a1,(a1,(a0.1,((List.length a0.1:Int),((0:Int),()))))))).bind fun o5=>match o5 with
 | .inl d6=>
  some (d6.1,())
noncomputable def S_q36q:FSig:=⟨[(K_PSiq,false),(I,false)],[I],true,(G_around)⟩
noncomputable def Γ_q40q:Ctx:={ tk:=assoc tks,ar:=assoc ars,fs:=assoc [(127,S_impl_setOf),(130,S_q38q),(156,S_q36q),(157,S_q82q),(205,S_q57q)] }
abbrev q40q_l0_H:=List (List Int)×(List Int×Unit)×List Int×Int×Unit
abbrev q40q_l0_O:=(List (List Int)×(List Int×Unit)×List Int×Unit)⊕Empty
def q40q_l0_h:Form:=[(1,.v K_SSi),(2,.box K_PSiq 0),(7,.own K_Si 99),(8,.v I)]
def q40q_l0_o:Outs:=[(.normal,[(1,.v K_SSi),(2,.box K_PSiq 0),(7,.own K_Si 99)])]
noncomputable def q40q_l0_r (N:Nat) (back:q40q_l0_H->Option q40q_l0_O) (d:q40q_l0_H):Option q40q_l0_O:=
 let s1:=d.1
 let s2:=d.2.1
 let s7:=d.2.2.1
 let s8:=d.2.2.2.1
 if (decide (s8>=(0:Int)))=true then
  let x25:=IntKind.wrap .i64 (s8+(1:Int))
  if (idxIn x25 (List.length s7))=true then
  (G_around ((s2,(at_ I s7 x25.toNat,())))).bind fun r26=>
  if (idxIn s8 (List.length s1))=true then
  (G_maskOf (at_ K_Si s1 s8.toNat,())).bind fun r27=>
  let x28:=bits .andNot .i64 r26.1 r27.1
  let x29:=IntKind.wrap .i64 (s8+(1:Int))
  if (idxIn x29 (List.length s1))=true then
  (G_maskOf (at_ K_Si s1 x29.toNat,())).bind fun r30=>
  if (idxIn s8 (List.length s7))=true then
  let x31:=List.set s7 s8.toNat (bits .andNot .i64 x28 r30.1)
  let x32:=IntKind.wrap .i64 (s8-(1:Int))
  back ((s1,(s2,(x31,(x32,())))))
  else none
  else none
  else none
  else none
 else
  some (.inl ((s1,(s2,(s7,())))))
noncomputable def q40q_l0 (N:Nat):Nat->q40q_l0_H->Option q40q_l0_O
 | 0,_=>none
 | k+1,d=>q40q_l0_r N (q40q_l0 N k) d
abbrev q40q_l2_H:=(List Int×Unit)×List Int×List Int×Int×Int×Int×Unit
abbrev q40q_l2_O:=(List Int×Bool×Unit)⊕(List Int×Unit)⊕Empty
def q40q_l2_h:Form:=[(2,.box K_PSiq 0),(7,.own K_Si 99),(9,.own K_Si 99),(10,.v I),(63,.v I),(64,.v I)]
def q40q_l2_o:Outs:=[(.ret,[(4,.own K_Si 99),(5,.v .bool)]),(.normal,[(9,.own K_Si 99)])]
noncomputable def q40q_l2_r (N:Nat) (back:q40q_l2_H->Option q40q_l2_O) (d:q40q_l2_H):Option q40q_l2_O:=
 let s2:=d.1
 let s7:=d.2.1
 let s9:=d.2.2.1
 let s10:=d.2.2.2.1
 let s63:=d.2.2.2.2.1
 let s64:=d.2.2.2.2.2.1
 if (decide (s64<s63))=true then
  if (idxIn s64 (List.length s7))=true then
  let x33:=bits .and .i64 s10 (at_ I s7 s64.toNat)
  (G_setOf (x33,())).bind fun r34=>
  if ((List.length r34.1:Int)==(0:Int))=true then
   some (.inl ((([]:List Int),(false,()))))
  else
   if (idxIn (0:Int) (List.length r34.1))=true then
   if (decide (List.length s9+List.length ([at_ I r34.1 (0:Int).toNat])<=lim))=true then
   let x35:=s9++([at_ I r34.1 (0:Int).toNat])
   if (idxIn (0:Int) (List.length r34.1))=true then
   ((F_q38q 0) ((s2,(at_ I r34.1 (0:Int).toNat,())))).bind fun r36=>
   let x37:=IntKind.wrap .i64 (s64+(1:Int))
   back ((s2,(s7,(x35,(r36.1,(s63,(x37,())))))))
   else none
   else none
   else none
  else none
 else
  some (.inr (.inl (s9,())))
noncomputable def q40q_l2 (N:Nat):Nat->q40q_l2_H->Option q40q_l2_O
 | 0,_=>none
 | k+1,d=>q40q_l2_r N (q40q_l2 N k) d
noncomputable def F_q40q (N:Nat) (d:(List Int×Unit)×List (List Int)×Unit):Option (List Int×Bool×Unit):=
 let a0:=d.1
 let a1:=d.2.1
 if ((decide (0<=(List.length a1:Int))&&decide ((List.length a1:Int)<=(List.length a1:Int))&&decide ((List.length a1:Int)<=(lim:Int))))=true then
 let x1:=List.replicate (List.length a1:Int).toNat (0:Int)
 let x2:=IntKind.wrap .i64 ((List.length a1:Int)-(1:Int))
 ((F_q57q 0) (a0,())).bind fun r3=>
 let x4:=IntKind.wrap .i64 ((List.length a1:Int)-(1:Int))
 if (idxIn x4 (List.length a1))=true then
 (G_maskOf (at_ K_Si a1 x4.toNat,())).bind fun r5=>
 if (idxIn x2 (List.length x1))=true then
 let x6:=List.set x1 x2.toNat (bits .andNot .i64 r3.1 r5.1)
 let x7:=IntKind.wrap .i64 ((List.length a1:Int)-(2:Int))
 (q40q_l0 N N ((a1,(a0,(x6,(x7,())))))).bind fun o15=>match o15 with
 | .inl d16=>
  if (idxIn (0:Int) (List.length d16.2.2.1))=true then
  (q40q_l2 N N ((d16.2.1,(d16.2.2.1,(([]:List Int),(at_ I d16.2.2.1 (0:Int).toNat,((List.length d16.1:Int),((0:Int),())))))))).bind fun o22=>match o22 with
  | .inl d23=>
   some ((d23.1,(d23.2.1,())))
  | .inr (.inl d24)=>
   some ((d24.1,(true,())))
  else none
 else none
 else none
 else none
noncomputable def S_q40q:FSig:=⟨[(K_PSiq,false),(K_SSi,false)],[K_Si,.bool],true,(G_netEsc)⟩
noncomputable def Γ_q49q:Ctx:={ tk:=assoc tks,ar:=assoc ars,fs:=assoc [(95,S_impl_netOf),(120,S_q78q),(121,S_q40q)] }
noncomputable def F_q49q (N:Nat) (d:(Int×(List (Int×Int×Unit))×Unit)×List (List Int)×Unit):Option (List Int×Bool×Unit):=
 let a0:=d.1
 let a1:=d.2.1
 (G_walk ((a0,(a1,())))).bind fun r1=>
 if (!r1.1)=true then
  some ((([]:List Int),(false,())))
 else
  (G_netOf (a0,())).bind fun r2=>
  (G_netEsc ((r2.1,(a1,())))).bind fun r3=>
  some ((r3.1,(r3.2.1,())))
noncomputable def S_q49q:FSig:=⟨[(K_PiSPiiqq,false),(K_SSi,false)],[K_Si,.bool],true,(F_q49q 0)⟩
noncomputable def Γ_q66q:Ctx:={ tk:=assoc tks,ar:=assoc ars,fs:=assoc [(98,S_q61q),(148,S_spec_l1In),(149,S_spec_l4At),(154,S_q77q),(155,S_q60q)] }
abbrev q66q_l0_H:=List (List Int)×(Int×(List (Int×Int×Unit))×Unit)×Int×Unit
abbrev q66q_l0_O:=(Bool×Unit)⊕Unit⊕Empty
def q66q_l0_h:Form:=[(1,.v K_SSi),(2,.box K_PiSPiiqq 0),(5,.v I)]
def q66q_l0_o:Outs:=[(.ret,[(4,.v .bool)]),(.normal,[])]
noncomputable def q66q_l0_r (N:Nat) (back:q66q_l0_H->Option q66q_l0_O) (d:q66q_l0_H):Option q66q_l0_O:=
 let s1:=d.1
 let s2:=d.2.1
 let s5:=d.2.2.1
 if (decide (s5<(List.length s1:Int)))=true then
  if (idxIn s5 (List.length s1))=true then
  if (idxIn (0:Int) (List.length s1))=true then
  if ((List.length (at_ K_Si s1 s5.toNat):Int) != (List.length (at_ K_Si s1 (0:Int).toNat):Int))=true then
   some (.inl (false,()))
  else
   if (idxIn s5 (List.length s1))=true then
   (G_l4Cops ((s2,(at_ K_Si s1 s5.toNat,())))).bind fun r12=>
   if (!r12.1)=true then
    some (.inl (false,()))
   else
    if (decide (s5>(0:Int)))=true then
     let x13:=IntKind.wrap .i64 (s5-(1:Int))
     if (idxIn x13 (List.length s1))=true then
     (G_l4Moves ((s2,(at_ K_Si s1 x13.toNat,())))).bind fun r14=>
     if (idxIn s5 (List.length s1))=true then
     (G_l4At ((r14.1,(at_ K_Si s1 s5.toNat,())))).bind fun r15=>
     if (decide (r15.1<(0:Int)))=true then
      some (.inl (false,()))
     else
      let x16:=IntKind.wrap .i64 (s5+(1:Int))
      back ((s1,(s2,(x16,()))))
     else none
     else none
    else
     let x17:=IntKind.wrap .i64 (s5+(1:Int))
     back ((s1,(s2,(x17,()))))
   else none
  else none
  else none
 else
  some (.inr (.inl ()))
noncomputable def q66q_l0 (N:Nat):Nat->q66q_l0_H->Option q66q_l0_O
 | 0,_=>none
 | k+1,d=>q66q_l0_r N (q66q_l0 N k) d
noncomputable def F_q66q (N:Nat) (d:(Int×(List (Int×Int×Unit))×Unit)×List (List Int)×Unit):Option (Bool×Unit):=
 let a0:=d.1
 let a1:=d.2.1
 let r1:=g_spec_l1In (((List.length a1:Int),((1:Int),((40:Int),()))))
 if (!r1.1)=true then
  some (false,())
 else
  if (idxIn (0:Int) (List.length a1))=true then
  ((F_q61q 0) ((a0,((List.length (at_ K_Si a1 (0:Int).toNat):Int),())))).bind fun r2=>
  if (!r2.1)=true then
   some (false,())
  else
   (q66q_l0 N N ((a1,(a0,((0:Int),()))))).bind fun o9=>match o9 with
   | .inl d10=>
    some (d10.1,())
   | .inr (.inl d11)=>
    some (true,())
  else none
noncomputable def S_q66q:FSig:=⟨[(K_PiSPiiqq,false),(K_SSi,false)],[.bool],true,(G_l11Walk)⟩
noncomputable def Γ_q62q:Ctx:={ tk:=assoc tks,ar:=assoc ars,fs:=assoc [(101,S_spec_l1Has),(124,S_q81q),(206,S_q68q),(207,S_spec_l2All)],dm:=fun t=>Nat.beq t 8,cs:=assoc [] }
abbrev q62q_l4_H:=List (List Int)×(Int×(List (Int×Int×Unit))×Unit)×List (List Int)×Int×List Int×List Int×Int×List Int×Bool×Int×Unit
abbrev q62q_l4_O:=(List (List Int)×(Int×(List (Int×Int×Unit))×Unit)×List (List Int)×Int×List Int×List Int×Int×Bool×Unit)⊕Empty
def q62q_l4_h:Form:=[(1,.v K_SSi),(2,.box K_PiSPiiqq 0),(5,.own K_SSi 1),(6,.v I),(7,.own K_Si 99),(8,.v K_Si),(9,.v I),(10,.v K_Si),(11,.v .bool),(12,.v I)]
def q62q_l4_o:Outs:=[(.normal,[(1,.v K_SSi),(2,.box K_PiSPiiqq 0),(5,.own K_SSi 1),(6,.v I),(7,.own K_Si 99),(8,.v K_Si),(9,.v I),(11,.v .bool)])]
noncomputable def q62q_l4_r (N:Nat) (back:q62q_l4_H->Option q62q_l4_O) (d:q62q_l4_H):Option q62q_l4_O:=
 let s1:=d.1
 let s2:=d.2.1
 let s5:=d.2.2.1
 let s6:=d.2.2.2.1
 let s7:=d.2.2.2.2.1
 let s8:=d.2.2.2.2.2.1
 let s9:=d.2.2.2.2.2.2.1
 let s10:=d.2.2.2.2.2.2.2.1
 let s11:=d.2.2.2.2.2.2.2.2.1
 let s12:=d.2.2.2.2.2.2.2.2.2.1
 if (decide (s12<(List.length s10:Int)))=true then
  if (s11)=true then
   let x99:=IntKind.wrap .i64 (s12+(1:Int))
   back ((s1,(s2,(s5,(s6,(s7,(s8,(s9,(s10,(true,(x99,())))))))))))
  else
   if (idxIn s12 (List.length s10))=true then
   (G_l1Has ((s8,(at_ I s10 s12.toNat,())))).bind fun r100=>
   let x101:=IntKind.wrap .i64 (s12+(1:Int))
   back ((s1,(s2,(s5,(s6,(s7,(s8,(s9,(s10,(r100.1,(x101,())))))))))))
   else none
 else
  some (.inl ((s1,(s2,(s5,(s6,(s7,(s8,(s9,(s11,()))))))))))
noncomputable def q62q_l4 (N:Nat):Nat->q62q_l4_H->Option q62q_l4_O
 | 0,_=>none
 | k+1,d=>q62q_l4_r N (q62q_l4 N k) d
abbrev q62q_l2_H:=List (List Int)×(Int×(List (Int×Int×Unit))×Unit)×List (List Int)×Int×List Int×List Int×Int×Unit
abbrev q62q_l2_O:=(List (List Int)×(Int×(List (Int×Int×Unit))×Unit)×List (List Int)×Int×List Int×Unit)⊕Empty
def q62q_l2_h:Form:=[(1,.v K_SSi),(2,.box K_PiSPiiqq 0),(5,.own K_SSi 1),(6,.v I),(7,.own K_Si 99),(8,.v K_Si),(9,.v I)]
def q62q_l2_o:Outs:=[(.normal,[(1,.v K_SSi),(2,.box K_PiSPiiqq 0),(5,.own K_SSi 1),(6,.v I),(7,.own K_Si 99)])]
noncomputable def q62q_l2_r (N:Nat) (back:q62q_l2_H->Option q62q_l2_O) (d:q62q_l2_H):Option q62q_l2_O:=
 let s1:=d.1
 let s2:=d.2.1
 let s5:=d.2.2.1
 let s6:=d.2.2.2.1
 let s7:=d.2.2.2.2.1
 let s8:=d.2.2.2.2.2.1
 let s9:=d.2.2.2.2.2.2.1
 if (decide (s9<s2.1))=true then
  ((F_q81q 0) ((s2,(s9,())))).bind fun r85=>
  (q62q_l4 N N ((s1,(s2,(s5,(s6,(s7,(s8,(s9,(r85.1,(false,((0:Int),())))))))))))).bind fun o89=>match o89 with
  | .inl d90=>
   if (d90.2.2.2.2.2.2.2.1)=true then
    if (idxIn d90.2.2.2.1 (List.length d90.1))=true then
    (G_l1Has ((at_ K_Si d90.1 d90.2.2.2.1.toNat,(d90.2.2.2.2.2.2.1,())))).bind fun r91=>
    if (!r91.1)=true then
     let x92:=IntKind.wrap .i64 (d90.2.2.2.1+(1:Int))
     if (idxIn x92 (List.length d90.1))=true then
     (G_l1Has ((at_ K_Si d90.1 x92.toNat,(d90.2.2.2.2.2.2.1,())))).bind fun r93=>
     if (!r93.1)=true then
      if (decide (List.length d90.2.2.2.2.1+List.length ([d90.2.2.2.2.2.2.1])<=lim))=true then
      let x94:=d90.2.2.2.2.1++([d90.2.2.2.2.2.2.1])
      let x95:=IntKind.wrap .i64 (d90.2.2.2.2.2.2.1+(1:Int))
      back ((d90.1,(d90.2.1,(d90.2.2.1,(d90.2.2.2.1,(x94,(d90.2.2.2.2.2.1,(x95,()))))))))
      else none
     else
      let x96:=IntKind.wrap .i64 (d90.2.2.2.2.2.2.1+(1:Int))
      back ((d90.1,(d90.2.1,(d90.2.2.1,(d90.2.2.2.1,(d90.2.2.2.2.1,(d90.2.2.2.2.2.1,(x96,()))))))))
     else none
    else
     let x97:=IntKind.wrap .i64 (d90.2.2.2.2.2.2.1+(1:Int))
     back ((d90.1,(d90.2.1,(d90.2.2.1,(d90.2.2.2.1,(d90.2.2.2.2.1,(d90.2.2.2.2.2.1,(x97,()))))))))
    else none
   else
    let x98:=IntKind.wrap .i64 (d90.2.2.2.2.2.2.1+(1:Int))
    back ((d90.1,(d90.2.1,(d90.2.2.1,(d90.2.2.2.1,(d90.2.2.2.2.1,(d90.2.2.2.2.2.1,(x98,()))))))))
 else
  some (.inl ((s1,(s2,(s5,(s6,(s7,())))))))
noncomputable def q62q_l2 (N:Nat):Nat->q62q_l2_H->Option q62q_l2_O
 | 0,_=>none
 | k+1,d=>q62q_l2_r N (q62q_l2 N k) d
abbrev q62q_l0_H:=List (List Int)×(Int×(List (Int×Int×Unit))×Unit)×List (List Int)×Int×Unit
abbrev q62q_l0_O:=(List (List Int)×Unit)⊕Empty
def q62q_l0_h:Form:=[(1,.v K_SSi),(2,.box K_PiSPiiqq 0),(5,.own K_SSi 1),(6,.v I)]
def q62q_l0_o:Outs:=[(.normal,[(5,.own K_SSi 1)])]
noncomputable def q62q_l0_r (N:Nat) (back:q62q_l0_H->Option q62q_l0_O) (d:q62q_l0_H):Option q62q_l0_O:=
 let s1:=d.1
 let s2:=d.2.1
 let s5:=d.2.2.1
 let s6:=d.2.2.2.1
 if (decide (s6>=(0:Int)))=true then
  if (idxIn (0:Int) (List.length s5))=true then
  (q62q_l2 N N ((s1,(s2,(s5,(s6,(([]:List Int),(at_ K_Si s5 (0:Int).toNat,((0:Int),()))))))))).bind fun o81=>match o81 with
  | .inl d82=>
   if (decide (List.length ([d82.2.2.2.2.1])+List.length d82.2.2.1<=lim))=true then
   let x83:=([d82.2.2.2.2.1])++d82.2.2.1
   let x84:=IntKind.wrap .i64 (d82.2.2.2.1-(1:Int))
   back ((d82.1,(d82.2.1,(x83,(x84,())))))
   else none
  else none
 else
  some (.inl (s5,()))
noncomputable def q62q_l0 (N:Nat):Nat->q62q_l0_H->Option q62q_l0_O
 | 0,_=>none
 | k+1,d=>q62q_l0_r N (q62q_l0 N k) d
noncomputable def F_q62q (N:Nat) (d:(Int×(List (Int×Int×Unit))×Unit)×List (List Int)×Unit):Option (List (List Int)×Unit):=
 let a0:=d.1
 let a1:=d.2.1
 ((F_spec_l2All 0) (a0,())).bind fun r43=>
 let x44:=IntKind.wrap .i64 ((List.length a1:Int)-(1:Int))
 if (idxIn x44 (List.length a1))=true then
 (G_l11Rest ((r43.1,(at_ K_Si a1 x44.toNat,())))).bind fun r45=>
 let x46:=IntKind.wrap .i64 ((List.length a1:Int)-(2:Int))
 (q62q_l0 N N ((a1,(a0,([r45.1],(x46,())))))).bind fun o65=>match o65 with
 | .inl d66=>
  some (d66.1,())
 else none
noncomputable def S_q62q:FSig:=⟨[(K_PiSPiiqq,false),(K_SSi,false)],[K_SSi],false,(G_l11Back)⟩
noncomputable def Γ_q54q:Ctx:={ tk:=assoc tks,ar:=assoc ars,fs:=assoc [(101,S_spec_l1Has),(115,S_q83q),(122,S_q66q),(123,S_q62q),(124,S_q81q)] }
abbrev q54q_l2_H:=List (List Int)×(Int×(List (Int×Int×Unit))×Unit)×List Int×List (List Int)×Int×List Int×Int×Unit
abbrev q54q_l2_O:=(List (List Int)×(Int×(List (Int×Int×Unit))×Unit)×List Int×List (List Int)×Int×List Int×Int×Unit)⊕Empty
def q54q_l2_h:Form:=[(1,.v K_SSi),(2,.box K_PiSPiiqq 0),(6,.own K_Si 99),(7,.v K_SSi),(8,.v I),(9,.v K_Si),(10,.v I)]
def q54q_l2_o:Outs:=[(.normal,[(1,.v K_SSi),(2,.box K_PiSPiiqq 0),(6,.own K_Si 99),(7,.v K_SSi),(8,.v I),(9,.v K_Si),(10,.v I)])]
noncomputable def q54q_l2_r (N:Nat) (back:q54q_l2_H->Option q54q_l2_O) (d:q54q_l2_H):Option q54q_l2_O:=
 let s1:=d.1
 let s2:=d.2.1
 let s6:=d.2.2.1
 let s7:=d.2.2.2.1
 let s8:=d.2.2.2.2.1
 let s9:=d.2.2.2.2.2.1
 let s10:=d.2.2.2.2.2.2.1
 if (decide (s10<(List.length s9:Int)))=true then
  if (idxIn s8 (List.length s7))=true then
  if (idxIn s10 (List.length s9))=true then
  (G_l1Has ((at_ K_Si s7 s8.toNat,(at_ I s9 s10.toNat,())))).bind fun r31=>
  if (!r31.1)=true then
   let x32:=IntKind.wrap .i64 (s10+(1:Int))
   back ((s1,(s2,(s6,(s7,(s8,(s9,(x32,()))))))))
  else
   some (.inl ((s1,(s2,(s6,(s7,(s8,(s9,(s10,())))))))))
  else none
  else none
 else
  some (.inl ((s1,(s2,(s6,(s7,(s8,(s9,(s10,())))))))))
noncomputable def q54q_l2 (N:Nat):Nat->q54q_l2_H->Option q54q_l2_O
 | 0,_=>none
 | k+1,d=>q54q_l2_r N (q54q_l2 N k) d
abbrev q54q_l0_H:=List (List Int)×(Int×(List (Int×Int×Unit))×Unit)×List Int×List (List Int)×Int×Unit
abbrev q54q_l0_O:=(List Int×Bool×Unit)⊕(List Int×Unit)⊕Empty
def q54q_l0_h:Form:=[(1,.v K_SSi),(2,.box K_PiSPiiqq 0),(6,.own K_Si 99),(7,.v K_SSi),(8,.v I)]
def q54q_l0_o:Outs:=[(.ret,[(4,.own K_Si 99),(5,.v .bool)]),(.normal,[(6,.own K_Si 99)])]
noncomputable def q54q_l0_r (N:Nat) (back:q54q_l0_H->Option q54q_l0_O) (d:q54q_l0_H):Option q54q_l0_O:=
 let s1:=d.1
 let s2:=d.2.1
 let s6:=d.2.2.1
 let s7:=d.2.2.2.1
 let s8:=d.2.2.2.2.1
 if (decide (s8<(List.length s1:Int)))=true then
  if (idxIn s8 (List.length s7))=true then
  if (decide (s8>(0:Int)))=true then
   let x19:=IntKind.wrap .i64 (s8-(1:Int))
   if (idxIn x19 (List.length s6))=true then
   ((F_q81q 0) ((s2,(at_ I s6 x19.toNat,())))).bind fun r20=>
   (q54q_l2 N N ((s1,(s2,(s6,(s7,(s8,(r20.1,((0:Int),()))))))))).bind fun o23=>match o23 with
   | .inl d24=>
    if (d24.2.2.2.2.2.2.1==(List.length d24.2.2.2.2.2.1:Int))=true then
     some (.inl ((([]:List Int),(false,()))))
    else
     if (idxIn d24.2.2.2.2.2.2.1 (List.length d24.2.2.2.2.2.1))=true then
     if (decide (List.length d24.2.2.1+List.length ([at_ I d24.2.2.2.2.2.1 d24.2.2.2.2.2.2.1.toNat])<=lim))=true then
     let x25:=d24.2.2.1++([at_ I d24.2.2.2.2.2.1 d24.2.2.2.2.2.2.1.toNat])
     let x26:=IntKind.wrap .i64 (d24.2.2.2.2.1+(1:Int))
     back ((d24.1,(d24.2.1,(x25,(d24.2.2.2.1,(x26,()))))))
     else none
     else none
   else none
  else
   (q54q_l2 N N ((s1,(s2,(s6,(s7,(s8,(at_ K_Si s7 s8.toNat,((0:Int),()))))))))).bind fun o27=>match o27 with
   | .inl d28=>
    if (d28.2.2.2.2.2.2.1==(List.length d28.2.2.2.2.2.1:Int))=true then
     some (.inl ((([]:List Int),(false,()))))
    else
     if (idxIn d28.2.2.2.2.2.2.1 (List.length d28.2.2.2.2.2.1))=true then
     if (decide (List.length d28.2.2.1+List.length ([at_ I d28.2.2.2.2.2.1 d28.2.2.2.2.2.2.1.toNat])<=lim))=true then
     let x29:=d28.2.2.1++([at_ I d28.2.2.2.2.2.1 d28.2.2.2.2.2.2.1.toNat])
     let x30:=IntKind.wrap .i64 (d28.2.2.2.2.1+(1:Int))
     back ((d28.1,(d28.2.1,(x29,(d28.2.2.2.1,(x30,()))))))
     else none
     else none
  else none
 else
  some (.inr (.inl (s6,())))
noncomputable def q54q_l0 (N:Nat):Nat->q54q_l0_H->Option q54q_l0_O
 | 0,_=>none
 | k+1,d=>q54q_l0_r N (q54q_l0 N k) d
noncomputable def F_q54q (N:Nat) (d:(Int×(List (Int×Int×Unit))×Unit)×List (List Int)×Unit):Option (List Int×Bool×Unit):=
 let a0:=d.1
 let a1:=d.2.1
 (G_graph (a0,())).bind fun r1=>
 if (!r1.1)=true then
  some ((([]:List Int),(false,())))
 else
  (G_l11Walk ((a0,(a1,())))).bind fun r2=>
  if (!r2.1)=true then
   some ((([]:List Int),(false,())))
  else
   (G_l11Back ((a0,(a1,())))).bind fun r3=>
   (q54q_l0 N N ((a1,(a0,(([]:List Int),(r3.1,((0:Int),()))))))).bind fun o16=>match o16 with
   | .inl d17=>
    some ((d17.1,(d17.2.1,())))
   | .inr (.inl d18)=>
    some ((d18.1,(true,())))
noncomputable def S_q54q:FSig:=⟨[(K_PiSPiiqq,false),(K_SSi,false)],[K_Si,.bool],true,(G_escapeOf)⟩
noncomputable def Γ_laws_rInts:Ctx:={ tk:=assoc tks,ar:=assoc ars,fs:=assoc [] }
abbrev laws_rInts_l0_H:=List Int×List Int×Int×Unit
abbrev laws_rInts_l0_O:=(Bool×Unit)⊕Unit⊕Empty
def laws_rInts_l0_h:Form:=[(0,.v K_Si),(1,.v K_Si),(5,.v I)]
def laws_rInts_l0_o:Outs:=[(.ret,[(4,.v .bool)]),(.normal,[])]
noncomputable def laws_rInts_l0_r (N:Nat) (back:laws_rInts_l0_H->Option laws_rInts_l0_O) (d:laws_rInts_l0_H):Option laws_rInts_l0_O:=
 let s0:=d.1
 let s1:=d.2.1
 let s5:=d.2.2.1
 if (decide (s5<(List.length s0:Int)))=true then
  if (idxIn s5 (List.length s0))=true then
  if (idxIn s5 (List.length s1))=true then
  if (at_ I s0 s5.toNat != at_ I s1 s5.toNat)=true then
   some (.inl (false,()))
  else
   let x5:=IntKind.wrap .i64 (s5+(1:Int))
   back ((s0,(s1,(x5,()))))
  else none
  else none
 else
  some (.inr (.inl ()))
noncomputable def laws_rInts_l0 (N:Nat):Nat->laws_rInts_l0_H->Option laws_rInts_l0_O
 | 0,_=>none
 | k+1,d=>laws_rInts_l0_r N (laws_rInts_l0 N k) d
noncomputable def F_laws_rInts (N:Nat) (d:List Int×List Int×Unit):Option (Bool×Unit):=
 let a0:=d.1
 let a1:=d.2.1
 if ((List.length a0:Int) != (List.length a1:Int))=true then
  some (false,())
 else
  (laws_rInts_l0 N N ((a0,(a1,((0:Int),()))))).bind fun o2=>match o2 with
  | .inl d3=>
   some (d3.1,())
  | .inr (.inl d4)=>
   some (true,())
noncomputable def S_laws_rInts:FSig:=⟨[(K_Si,false),(K_Si,false)],[.bool],true,(G_rInts)⟩
noncomputable def Γ_q11q:Ctx:={ tk:=assoc tks,ar:=assoc ars,fs:=assoc [(156,S_q36q),(157,S_q82q)] }
noncomputable def F_q11q (N:Nat) (d:(List Int×Unit)×Int×List Int×Unit):Option (Int×Unit):=
 let a0:=d.1
 let a1:=d.2.1
 let a2:=d.2.2.1
 (G_maskOf (a2,())).bind fun r1=>
 (G_around ((a0,(bits .andNot .i64 a1 r1.1,())))).bind fun r2=>
 some (bits .andNot .i64 r2.1 r1.1,())
noncomputable def S_q11q:FSig:=⟨[(K_PSiq,false),(I,false),(K_Si,false)],[I],true,(F_q11q 0)⟩
noncomputable def Γ_q13q:Ctx:={ tk:=assoc tks,ar:=assoc ars,fs:=assoc [(157,S_q82q),(205,S_q57q),(209,S_q11q)] }
abbrev q13q_l0_H:=(List Int×Unit)×List Int×List (List Int)×Int×Int×Unit
abbrev q13q_l0_O:=(List Int×Unit)⊕Empty
def q13q_l0_h:Form:=[(2,.box K_PSiq 0),(5,.own K_Si 99),(17,.v K_SSi),(18,.v I),(19,.v I)]
def q13q_l0_o:Outs:=[(.normal,[(5,.own K_Si 99)])]
noncomputable def q13q_l0_r (N:Nat) (back:q13q_l0_H->Option q13q_l0_O) (d:q13q_l0_H):Option q13q_l0_O:=
 let s2:=d.1
 let s5:=d.2.1
 let s17:=d.2.2.1
 let s18:=d.2.2.2.1
 let s19:=d.2.2.2.2.1
 if (decide (s19<s18))=true then
  if (idxIn s19 (List.length s17))=true then
  if (idxIn s19 (List.length s5))=true then
  ((F_q11q 0) ((s2,(at_ I s5 s19.toNat,(at_ K_Si s17 s19.toNat,()))))).bind fun r8=>
  if (decide (List.length s5+List.length ([r8.1])<=lim))=true then
  let x9:=IntKind.wrap .i64 (s19+(1:Int))
  back ((s2,(s5++([r8.1]),(s17,(s18,(x9,()))))))
  else none
  else none
  else none
 else
  some (.inl (s5,()))
noncomputable def q13q_l0 (N:Nat):Nat->q13q_l0_H->Option q13q_l0_O
 | 0,_=>none
 | k+1,d=>q13q_l0_r N (q13q_l0 N k) d
noncomputable def F_q13q (N:Nat) (d:(List Int×Unit)×List (List Int)×Unit):Option (List Int×Unit):=
 let a0:=d.1
 let a1:=d.2.1
 ((F_q57q 0) (a0,())).bind fun r1=>
 if (idxIn (0:Int) (List.length a1))=true then
 (G_maskOf (at_ K_Si a1 (0:Int).toNat,())).bind fun r2=>
 if ((decide (0<=(1:Int))&&decide ((1:Int)<=(List.length a1:Int))&&decide ((List.length a1:Int)<=(List.length a1:Int))))=true then
 let x3:=sub_ a1 (1:Int) (List.length a1:Int)
 (q13q_l0 N N ((a0,([bits .andNot .i64 r1.1 r2.1],(x3,((List.length x3:Int),((0:Int),()))))))).bind fun o6=>match o6 with
 | .inl d7=>
  some (d7.1,())
 else none
 else none
noncomputable def S_q13q:FSig:=⟨[(K_PSiq,false),(K_SSi,false)],[K_Si],true,(G_netUns)⟩
noncomputable def Γ_q17q:Ctx:={ tk:=assoc tks,ar:=assoc ars,fs:=assoc [(95,S_impl_netOf),(120,S_q78q),(125,S_q13q)] }
noncomputable def F_q17q (N:Nat) (d:(Int×(List (Int×Int×Unit))×Unit)×List (List Int)×Unit):Option (Bool×Bool×Unit):=
 let a0:=d.1
 let a1:=d.2.1
 (G_walk ((a0,(a1,())))).bind fun r1=>
 if (!r1.1)=true then
  some ((false,(false,())))
 else
  (G_netOf (a0,())).bind fun r2=>
  (G_netUns ((r2.1,(a1,())))).bind fun r3=>
  let x4:=IntKind.wrap .i64 ((List.length r3.1:Int)-(1:Int))
  if (idxIn x4 (List.length r3.1))=true then
  some ((at_ I r3.1 x4.toNat==(0:Int),(true,())))
  else none
noncomputable def S_q17q:FSig:=⟨[(K_PiSPiiqq,false),(K_SSi,false)],[.bool,.bool],true,(F_q17q 0)⟩
noncomputable def Γ_q58q:Ctx:={ tk:=assoc tks,ar:=assoc ars,fs:=assoc [(124,S_q81q),(206,S_q68q),(207,S_spec_l2All),(210,S_q56q)] }
abbrev q58q_l0_H:=List (List Int)×(Int×(List (Int×Int×Unit))×Unit)×List (List Int)×List (List Int)×Int×Unit
abbrev q58q_l0_O:=(List (List Int)×List (List Int)×List (List Int)×Unit)⊕Empty
def q58q_l0_h:Form:=[(1,.v K_SSi),(2,.box K_PiSPiiqq 0),(5,.own K_SSi 100),(6,.own K_SSi 1),(7,.v I)]
def q58q_l0_o:Outs:=[(.normal,[(1,.v K_SSi),(5,.own K_SSi 100),(6,.own K_SSi 1)])]
noncomputable def q58q_l0_r (N:Nat) (back:q58q_l0_H->Option q58q_l0_O) (d:q58q_l0_H):Option q58q_l0_O:=
 let s1:=d.1
 let s2:=d.2.1
 let s5:=d.2.2.1
 let s6:=d.2.2.2.1
 let s7:=d.2.2.2.2.1
 if (decide (s7<s2.1))=true then
  ((F_q81q 0) ((s2,(s7,())))).bind fun r28=>
  if (decide (List.length s6+List.length ([r28.1])<=lim))=true then
  let x29:=IntKind.wrap .i64 (s7+(1:Int))
  back ((s1,(s2,(s5,(s6++([r28.1]),(x29,()))))))
  else none
 else
  some (.inl ((s1,(s5,(s6,())))))
noncomputable def q58q_l0 (N:Nat):Nat->q58q_l0_H->Option q58q_l0_O
 | 0,_=>none
 | k+1,d=>q58q_l0_r N (q58q_l0 N k) d
abbrev q58q_l2_H:=List (List Int)×List (List Int)×Int×List (List Int)×Unit
abbrev q58q_l2_O:=(List (List Int)×Unit)⊕Empty
def q58q_l2_h:Form:=[(1,.v K_SSi),(5,.own K_SSi 1),(8,.v I),(6,.v K_SSi)]
def q58q_l2_o:Outs:=[(.normal,[(5,.own K_SSi 1)])]
noncomputable def q58q_l2_r (N:Nat) (back:q58q_l2_H->Option q58q_l2_O) (d:q58q_l2_H):Option q58q_l2_O:=
 let s1:=d.1
 let s5:=d.2.1
 let s8:=d.2.2.1
 let s6:=d.2.2.2.1
 if (decide (s8<(List.length s1:Int)))=true then
  let x30:=IntKind.wrap .i64 (s8-(1:Int))
  if (idxIn x30 (List.length s5))=true then
  if (idxIn s8 (List.length s1))=true then
  (G_l11Next ((s6,(at_ K_Si s5 x30.toNat,(at_ K_Si s1 s8.toNat,()))))).bind fun r31=>
  if (decide (List.length s5+List.length ([r31.1])<=lim))=true then
  let x32:=IntKind.wrap .i64 (s8+(1:Int))
  back ((s1,(s5++([r31.1]),(x32,(s6,())))))
  else none
  else none
  else none
 else
  some (.inl (s5,()))
noncomputable def q58q_l2 (N:Nat):Nat->q58q_l2_H->Option q58q_l2_O
 | 0,_=>none
 | k+1,d=>q58q_l2_r N (q58q_l2 N k) d
noncomputable def F_q58q (N:Nat) (d:(Int×(List (Int×Int×Unit))×Unit)×List (List Int)×Unit):Option (List (List Int)×Unit):=
 let a0:=d.1
 let a1:=d.2.1
 ((F_spec_l2All 0) (a0,())).bind fun r17=>
 if (idxIn (0:Int) (List.length a1))=true then
 (G_l11Rest ((r17.1,(at_ K_Si a1 (0:Int).toNat,())))).bind fun r18=>
 (q58q_l0 N N ((a1,(a0,([r18.1],(([]:List (List Int)),((0:Int),()))))))).bind fun o21=>match o21 with
 | .inl d22=>
  (q58q_l2 N N ((d22.1,(d22.2.1,((1:Int),(d22.2.2.1,())))))).bind fun o26=>match o26 with
  | .inl d27=>
   some (d27.1,())
 else none
noncomputable def S_q58q:FSig:=⟨[(K_PiSPiiqq,false),(K_SSi,false)],[K_SSi],false,(G_l11Sets)⟩
noncomputable def Γ_q18q:Ctx:={ tk:=assoc tks,ar:=assoc ars,fs:=assoc [(115,S_q83q),(122,S_q66q),(126,S_q58q)] }
noncomputable def F_q18q (N:Nat) (d:(Int×(List (Int×Int×Unit))×Unit)×List (List Int)×Unit):Option (Bool×Bool×Unit):=
 let a0:=d.1
 let a1:=d.2.1
 (G_graph (a0,())).bind fun r1=>
 if (!r1.1)=true then
  some ((false,(false,())))
 else
  (G_l11Walk ((a0,(a1,())))).bind fun r2=>
  if (!r2.1)=true then
   some ((false,(false,())))
  else
   (G_l11Sets ((a0,(a1,())))).bind fun r3=>
   let x4:=IntKind.wrap .i64 ((List.length a1:Int)-(1:Int))
   if (idxIn x4 (List.length r3.1))=true then
   some (((List.length (at_ K_Si r3.1 x4.toNat):Int)==(0:Int),(true,())))
   else none
end Go.V.W
namespace Go.V.W
open Go.Proofs
noncomputable def S_q18q:FSig:=⟨[(K_PiSPiiqq,false),(K_SSi,false)],[.bool,.bool],true,(F_q18q 0)⟩
noncomputable def Γ_q28q:Ctx:={ tk:=assoc tks,ar:=assoc ars,fs:=assoc [(95,S_impl_netOf),(120,S_q78q),(125,S_q13q),(127,S_impl_setOf)] }
abbrev q28q_l0_H:=List (List Int)×List Int×Int×Int×Unit
abbrev q28q_l0_O:=(List (List Int)×Unit)⊕Empty
def q28q_l0_h:Form:=[(6,.own K_SSi 99),(16,.own K_Si 99),(17,.v I),(18,.v I)]
def q28q_l0_o:Outs:=[(.normal,[(6,.own K_SSi 99)])]
noncomputable def q28q_l0_r (N:Nat) (back:q28q_l0_H->Option q28q_l0_O) (d:q28q_l0_H):Option q28q_l0_O:=
 let s6:=d.1
 let s16:=d.2.1
 let s17:=d.2.2.1
 let s18:=d.2.2.2.1
 if (decide (s18<s17))=true then
  if (idxIn s18 (List.length s16))=true then
  (G_setOf (at_ I s16 s18.toNat,())).bind fun r8=>
  if (decide (List.length s6+List.length ([r8.1])<=lim))=true then
  let x9:=IntKind.wrap .i64 (s18+(1:Int))
  back ((s6++([r8.1]),(s16,(s17,(x9,())))))
  else none
  else none
 else
  some (.inl (s6,()))
noncomputable def q28q_l0 (N:Nat):Nat->q28q_l0_H->Option q28q_l0_O
 | 0,_=>none
 | k+1,d=>q28q_l0_r N (q28q_l0 N k) d
noncomputable def F_q28q (N:Nat) (d:(Int×(List (Int×Int×Unit))×Unit)×List (List Int)×Unit):Option (List (List Int)×Bool×Unit):=
 let a0:=d.1
 let a1:=d.2.1
 (G_walk ((a0,(a1,())))).bind fun r1=>
 if (!r1.1)=true then
  some ((([]:List (List Int)),(false,())))
 else
  (G_netOf (a0,())).bind fun r2=>
  (G_netUns ((r2.1,(a1,())))).bind fun r3=>
  (q28q_l0 N N ((([]:List (List Int)),(r3.1,((List.length r3.1:Int),((0:Int),())))))).bind fun o6=>match o6 with
  | .inl d7=>
   some ((d7.1,(true,())))
noncomputable def S_q28q:FSig:=⟨[(K_PiSPiiqq,false),(K_SSi,false)],[K_SSi,.bool],true,(G_uns)⟩
noncomputable def Γ_q25q:Ctx:={ tk:=assoc tks,ar:=assoc ars,fs:=assoc [(115,S_q83q),(122,S_q66q),(126,S_q58q)] }
noncomputable def F_q25q (N:Nat) (d:(Int×(List (Int×Int×Unit))×Unit)×List (List Int)×Unit):Option (List (List Int)×Bool×Unit):=
 let a0:=d.1
 let a1:=d.2.1
 (G_graph (a0,())).bind fun r4=>
 if (!r4.1)=true then
  some ((([]:List (List Int)),(false,())))
 else
  (G_l11Walk ((a0,(a1,())))).bind fun r5=>
  if (!r5.1)=true then
   some ((([]:List (List Int)),(false,())))
  else
   (G_l11Sets ((a0,(a1,())))).bind fun r6=>
   some ((r6.1,(true,())))
noncomputable def S_q25q:FSig:=⟨[(K_PiSPiiqq,false),(K_SSi,false)],[K_SSi,.bool],false,(F_q25q 0)⟩
noncomputable def Γ_q70q:Ctx:={ tk:=assoc tks,ar:=assoc ars,fs:=assoc [(38,S_laws_rInts)] }
abbrev q70q_l0_H:=List (List Int)×List (List Int)×Int×Unit
abbrev q70q_l0_O:=(Bool×Unit)⊕Unit⊕Empty
def q70q_l0_h:Form:=[(0,.v K_SSi),(1,.v K_SSi),(5,.v I)]
def q70q_l0_o:Outs:=[(.ret,[(4,.v .bool)]),(.normal,[])]
noncomputable def q70q_l0_r (N:Nat) (back:q70q_l0_H->Option q70q_l0_O) (d:q70q_l0_H):Option q70q_l0_O:=
 let s0:=d.1
 let s1:=d.2.1
 let s5:=d.2.2.1
 if (decide (s5<(List.length s0:Int)))=true then
  if (idxIn s5 (List.length s0))=true then
  if (idxIn s5 (List.length s1))=true then
  (G_rInts ((at_ K_Si s0 s5.toNat,(at_ K_Si s1 s5.toNat,())))).bind fun r6=>
  if (!r6.1)=true then
   some (.inl (false,()))
  else
   let x7:=IntKind.wrap .i64 (s5+(1:Int))
   back ((s0,(s1,(x7,()))))
  else none
  else none
 else
  some (.inr (.inl ()))
noncomputable def q70q_l0 (N:Nat):Nat->q70q_l0_H->Option q70q_l0_O
 | 0,_=>none
 | k+1,d=>q70q_l0_r N (q70q_l0 N k) d
noncomputable def F_q70q (N:Nat) (d:List (List Int)×List (List Int)×Unit):Option (Bool×Unit):=
 let a0:=d.1
 let a1:=d.2.1
 if ((List.length a0:Int) != (List.length a1:Int))=true then
  some (false,())
 else
  (q70q_l0 N N ((a0,(a1,((0:Int),()))))).bind fun o3=>match o3 with
  | .inl d4=>
   some (d4.1,())
  | .inr (.inl d5)=>
   some (true,())
noncomputable def S_q70q:FSig:=⟨[(K_SSi,false),(K_SSi,false)],[.bool],true,(G_rTable)⟩
noncomputable def Γ_q69q:Ctx:={ tk:=assoc tks,ar:=assoc ars,fs:=assoc [(114,S_q65q),(120,S_q78q)] }
noncomputable def F_q69q (N:Nat) (d:(Int×(List (Int×Int×Unit))×Unit)×List (List Int)×Unit):Option (Bool×Bool×Unit):=
 let a0:=d.1
 let a1:=d.2.1
 (G_graph (a0,())).bind fun r1=>
 if (!r1.1)=true then
  some ((false,(false,())))
 else
  if (a0.1==(0:Int))=true then
   some ((false,(false,())))
  else
   (G_walk ((a0,(a1,())))).bind fun r2=>
   some ((r2.1,(true,())))
noncomputable def S_q69q:FSig:=⟨[(K_PiSPiiqq,false),(K_SSi,false)],[.bool,.bool],true,(F_q69q 0)⟩
noncomputable def Γ_q80q:Ctx:={ tk:=assoc tks,ar:=assoc ars,fs:=assoc [(98,S_q61q),(122,S_q66q)] }
noncomputable def F_q80q (N:Nat) (d:(Int×(List (Int×Int×Unit))×Unit)×List (List Int)×Unit):Option (Bool×Bool×Unit):=
 let a0:=d.1
 let a1:=d.2.1
 ((F_q61q 0) ((a0,((1:Int),())))).bind fun r1=>
 if (!r1.1)=true then
  some ((false,(false,())))
 else
  (G_l11Walk ((a0,(a1,())))).bind fun r2=>
  some ((r2.1,(true,())))
noncomputable def S_q80q:FSig:=⟨[(K_PiSPiiqq,false),(K_SSi,false)],[.bool,.bool],true,(F_q80q 0)⟩
noncomputable def Γ_q10q:Ctx:={ tk:=assoc tks,ar:=assoc ars,fs:=assoc [] }
abbrev q10q_l0_H:=List Int×Int×Int×Int×Unit
abbrev q10q_l0_O:=(Int×Unit)⊕Unit⊕Empty
def q10q_l0_h:Form:=[(0,.v K_Si),(1,.v I),(7,.v I),(8,.v I)]
def q10q_l0_o:Outs:=[(.ret,[(4,.v I)]),(.normal,[])]
noncomputable def q10q_l0_r (N:Nat) (back:q10q_l0_H->Option q10q_l0_O) (d:q10q_l0_H):Option q10q_l0_O:=
 let s0:=d.1
 let s1:=d.2.1
 let s7:=d.2.2.1
 let s8:=d.2.2.2.1
 if (decide (s8<s7))=true then
  if (idxIn s8 (List.length s0))=true then
  if (s1==at_ I s0 s8.toNat)=true then
   some (.inl (s8,()))
  else
   let x5:=IntKind.wrap .i64 (s8+(1:Int))
   back ((s0,(s1,(s7,(x5,())))))
  else none
 else
  some (.inr (.inl ()))
noncomputable def q10q_l0 (N:Nat):Nat->q10q_l0_H->Option q10q_l0_O
 | 0,_=>none
 | k+1,d=>q10q_l0_r N (q10q_l0 N k) d
noncomputable def F_q10q (N:Nat) (d:List Int×Int×Unit):Option (Int×Unit):=
 let a0:=d.1
 let a1:=d.2.1
 (q10q_l0 N N ((a0,(a1,((List.length a0:Int),((0:Int),())))))).bind fun o2=>match o2 with
 | .inl d3=>
  some (d3.1,())
 | .inr (.inl d4)=>
  some ((-1:Int),())
noncomputable def S_q10q:FSig:=⟨[(K_Si,false),(I,false)],[I],true,(G_index)⟩
noncomputable def Γ_q5q:Ctx:={ tk:=assoc tks,ar:=assoc ars,fs:=assoc [(211,S_q10q)] }
noncomputable def F_q5q (N:Nat) (d:List Int×Int×Unit):Option (Bool×Unit):=
 let a0:=d.1
 let a1:=d.2.1
 (G_index ((a0,(a1,())))).bind fun r1=>
 some ((decide (r1.1>=(0:Int)),()))
noncomputable def S_q5q:FSig:=⟨[(K_Si,false),(I,false)],[.bool],true,(F_q5q 0)⟩
noncomputable def Γ_q46q:Ctx:={ tk:=assoc tks,ar:=assoc ars,fs:=assoc [(95,S_impl_netOf),(120,S_q78q),(128,S_q41q),(129,S_q5q),(130,S_q38q)] }
abbrev q46q_l0_H:=List (List Int)×List Int×(List Int×Unit)×List Int×Int×Int×Unit
abbrev q46q_l0_O:=(Bool×Bool×Unit)⊕Unit⊕Empty
def q46q_l0_h:Form:=[(1,.v K_SSi),(2,.v K_Si),(8,.box K_PSiq 99),(30,.v K_Si),(31,.v I),(32,.v I)]
def q46q_l0_o:Outs:=[(.ret,[(6,.v .bool),(7,.v .bool)]),(.normal,[])]
noncomputable def q46q_l0_r (N:Nat) (back:q46q_l0_H->Option q46q_l0_O) (d:q46q_l0_H):Option q46q_l0_O:=
 let s1:=d.1
 let s2:=d.2.1
 let s8:=d.2.2.1
 let s30:=d.2.2.2.1
 let s31:=d.2.2.2.2.1
 let s32:=d.2.2.2.2.2.1
 if (decide (s32<s31))=true then
  if (idxIn s32 (List.length s30))=true then
  if (idxIn s32 (List.length s1))=true then
  ((F_q5q 0) ((at_ K_Si s1 s32.toNat,(at_ I s30 s32.toNat,())))).bind fun r16=>
  if (r16.1)=true then
   some (.inl ((false,(true,()))))
  else
   if (decide (s32>(0:Int)))=true then
    if (idxIn s32 (List.length s1))=true then
    let x17:=IntKind.wrap .i64 (s32-(1:Int))
    if (idxIn x17 (List.length s2))=true then
    ((F_q5q 0) ((at_ K_Si s1 s32.toNat,(at_ I s2 x17.toNat,())))).bind fun r18=>
    if (r18.1)=true then
     some (.inl ((false,(true,()))))
    else
     let x19:=IntKind.wrap .i64 (s32-(1:Int))
     if (idxIn x19 (List.length s2))=true then
     ((F_q38q 0) ((s8,(at_ I s2 x19.toNat,())))).bind fun r20=>
     if (decide (0<=at_ I s30 s32.toNat))=true then
     let x21:=shr .i64 r20.1 (at_ I s30 s32.toNat)
     if (bits .and .i64 x21 (1:Int)==(0:Int))=true then
      some (.inl ((false,(true,()))))
     else
      let x22:=IntKind.wrap .i64 (s32+(1:Int))
      back ((s1,(s2,(s8,(s30,(s31,(x22,())))))))
     else none
     else none
    else none
    else none
   else
    let x23:=IntKind.wrap .i64 (s32+(1:Int))
    back ((s1,(s2,(s8,(s30,(s31,(x23,())))))))
  else none
  else none
 else
  some (.inr (.inl ()))
noncomputable def q46q_l0 (N:Nat):Nat->q46q_l0_H->Option q46q_l0_O
 | 0,_=>none
 | k+1,d=>q46q_l0_r N (q46q_l0 N k) d
noncomputable def F_q46q (N:Nat) (d:(Int×(List (Int×Int×Unit))×Unit)×List (List Int)×List Int×Unit):Option (Bool×Bool×Unit):=
 let a0:=d.1
 let a1:=d.2.1
 let a2:=d.2.2.1
 (G_walk ((a0,(a1,())))).bind fun r1=>
 if (!r1.1)=true then
  some ((false,(false,())))
 else
  if ((List.length a2:Int) != (List.length a1:Int))=true then
   some ((false,(true,())))
  else
   let x2:=IntKind.wrap .i64 (a0.1-(1:Int))
   (G_allWithin ((a2,((0:Int),(x2,()))))).bind fun r3=>
   if (!r3.1)=true then
    some ((false,(true,())))
   else
    (G_netOf (a0,())).bind fun r4=>
    (q46q_l0 N N ((a1,(a2,(r4.1,(a2,((List.length a2:Int),((0:Int),())))))))).bind fun o13=>match o13 with
    | .inl d14=>
     some ((d14.1,(d14.2.1,())))
    | .inr (.inl d15)=>
     some ((true,(true,())))
noncomputable def S_q46q:FSig:=⟨[(K_PiSPiiqq,false),(K_SSi,false),(K_Si,false)],[.bool,.bool],true,(G_escape)⟩
noncomputable def Γ_laws_rHas:Ctx:={ tk:=assoc tks,ar:=assoc ars,fs:=assoc [] }
abbrev laws_rHas_l0_H:=List Int×Int×Int×Unit
abbrev laws_rHas_l0_O:=(Bool×Unit)⊕Unit⊕Empty
def laws_rHas_l0_h:Form:=[(0,.v K_Si),(1,.v I),(5,.v I)]
def laws_rHas_l0_o:Outs:=[(.ret,[(4,.v .bool)]),(.normal,[])]
noncomputable def laws_rHas_l0_r (N:Nat) (back:laws_rHas_l0_H->Option laws_rHas_l0_O) (d:laws_rHas_l0_H):Option laws_rHas_l0_O:=
 let s0:=d.1
 let s1:=d.2.1
 let s5:=d.2.2.1
 if (decide (s5<(List.length s0:Int)))=true then
  if (idxIn s5 (List.length s0))=true then
  if (at_ I s0 s5.toNat==s1)=true then
   some (.inl (true,()))
  else
   let x5:=IntKind.wrap .i64 (s5+(1:Int))
   back ((s0,(s1,(x5,()))))
  else none
 else
  some (.inr (.inl ()))
noncomputable def laws_rHas_l0 (N:Nat):Nat->laws_rHas_l0_H->Option laws_rHas_l0_O
 | 0,_=>none
 | k+1,d=>laws_rHas_l0_r N (laws_rHas_l0 N k) d
noncomputable def F_laws_rHas (N:Nat) (d:List Int×Int×Unit):Option (Bool×Unit):=
 let a0:=d.1
 let a1:=d.2.1
 (laws_rHas_l0 N N ((a0,(a1,((0:Int),()))))).bind fun o2=>match o2 with
 | .inl d3=>
  some (d3.1,())
 | .inr (.inl d4)=>
  some (false,())
noncomputable def S_laws_rHas:FSig:=⟨[(K_Si,false),(I,false)],[.bool],true,(G_rHas)⟩
noncomputable def Γ_q22q:Ctx:={ tk:=assoc tks,ar:=assoc ars,fs:=assoc [(37,S_q54q),(91,S_q31q),(93,S_q33q),(131,S_q34q)] }
noncomputable def F_q22q (N:Nat) (d:List Int×Unit):Option ((Int×(List (Int×Int×Unit))×Unit)×List (List Int)×List Int×Unit):=
 let a0:=d.1
 ((pickF F_q34q P_walk) (((a0,((0:Int),((0:Int),()))),()))).bind fun r7=>
 (G_escapeOf ((r7.1,(r7.2.1,())))).bind fun r8=>
 if (decide ((List.length r8.1:Int)>(0:Int)))=true then
  ((F_q31q 0) ((r7.2.2.1,((List.length r8.1:Int),())))).bind fun r9=>
  ((F_q31q 0) ((r9.2.1,((6:Int),())))).bind fun r10=>
  if (r10.1==(0:Int))=true then
   ((F_q33q 0) ((r10.2.1,(r7.1,())))).bind fun r11=>
   if (idxIn r9.1 (List.length r8.1))=true then
   let x12:=List.set r8.1 r9.1.toNat r11.1
   some ((r7.1,(r7.2.1,(x12,()))))
   else none
  else
   if (r10.1==(1:Int))=true then
    if ((decide (0<=(1:Int))&&decide ((1:Int)<=(List.length r8.1:Int))&&decide ((List.length r8.1:Int)<=(List.length r8.1:Int))))=true then
    let x13:=sub_ r8.1 (1:Int) (List.length r8.1:Int)
    some ((r7.1,(r7.2.1,(x13,()))))
    else none
   else
    if (r10.1==(2:Int))=true then
     let x14:=IntKind.wrap .i64 ((List.length r8.1:Int)-(1:Int))
     if (idxIn x14 (List.length r8.1))=true then
     if (decide (List.length r8.1+List.length ([at_ I r8.1 x14.toNat])<=lim))=true then
     let x15:=r8.1++([at_ I r8.1 x14.toNat])
     some ((r7.1,(r7.2.1,(x15,()))))
     else none
     else none
    else
     some ((r7.1,(r7.2.1,(r8.1,()))))
 else
  some ((r7.1,(r7.2.1,(r8.1,()))))
noncomputable def S_q22q:FSig:=⟨[(K_Su8,false)],[K_PiSPiiqq,K_SSi,K_Si],false,(F_q22q 0)⟩
noncomputable def Γ_q50q:Ctx:={ tk:=assoc tks,ar:=assoc ars,fs:=assoc [(101,S_spec_l1Has),(115,S_q83q),(122,S_q66q),(124,S_q81q),(132,S_q73q)] }
abbrev q50q_l0_H:=List (List Int)×List Int×(Int×(List (Int×Int×Unit))×Unit)×Int×Unit
abbrev q50q_l0_O:=(Bool×Bool×Unit)⊕(List (List Int)×List Int×Unit)⊕Empty
def q50q_l0_h:Form:=[(1,.v K_SSi),(2,.v K_Si),(3,.box K_PiSPiiqq 0),(8,.v I)]
def q50q_l0_o:Outs:=[(.ret,[(6,.v .bool),(7,.v .bool)]),(.normal,[(1,.v K_SSi),(2,.v K_Si)])]
noncomputable def q50q_l0_r (N:Nat) (back:q50q_l0_H->Option q50q_l0_O) (d:q50q_l0_H):Option q50q_l0_O:=
 let s1:=d.1
 let s2:=d.2.1
 let s3:=d.2.2.1
 let s8:=d.2.2.2.1
 if (decide (s8<(List.length s2:Int)))=true then
  if (decide (s8<(List.length s1:Int)))=true then
   if (idxIn s8 (List.length s2))=true then
   let r15:=g_q73q ((s3,(at_ I s2 s8.toNat,())))
   if (!r15.1)=true then
    some (.inl ((false,(true,()))))
   else
    if (idxIn s8 (List.length s1))=true then
    if (idxIn s8 (List.length s2))=true then
    (G_l1Has ((at_ K_Si s1 s8.toNat,(at_ I s2 s8.toNat,())))).bind fun r16=>
    if (r16.1)=true then
     some (.inl ((false,(true,()))))
    else
     if (decide (s8>(0:Int)))=true then
      if (idxIn s8 (List.length s1))=true then
      let x17:=IntKind.wrap .i64 (s8-(1:Int))
      if (idxIn x17 (List.length s2))=true then
      (G_l1Has ((at_ K_Si s1 s8.toNat,(at_ I s2 x17.toNat,())))).bind fun r18=>
      if (r18.1)=true then
       some (.inl ((false,(true,()))))
      else
       let x19:=IntKind.wrap .i64 (s8-(1:Int))
       if (idxIn x19 (List.length s2))=true then
       ((F_q81q 0) ((s3,(at_ I s2 x19.toNat,())))).bind fun r20=>
       if (idxIn s8 (List.length s2))=true then
       (G_l1Has ((r20.1,(at_ I s2 s8.toNat,())))).bind fun r21=>
       if (!r21.1)=true then
        some (.inl ((false,(true,()))))
       else
        let x22:=IntKind.wrap .i64 (s8+(1:Int))
        back ((s1,(s2,(s3,(x22,())))))
       else none
       else none
      else none
      else none
     else
      let x23:=IntKind.wrap .i64 (s8+(1:Int))
      back ((s1,(s2,(s3,(x23,())))))
    else none
    else none
   else none
  else
   some (.inr (.inl ((s1,(s2,())))))
 else
  some (.inr (.inl ((s1,(s2,())))))
noncomputable def q50q_l0 (N:Nat):Nat->q50q_l0_H->Option q50q_l0_O
 | 0,_=>none
 | k+1,d=>q50q_l0_r N (q50q_l0 N k) d
noncomputable def F_q50q (N:Nat) (d:(Int×(List (Int×Int×Unit))×Unit)×List (List Int)×List Int×Unit):Option (Bool×Bool×Unit):=
 let a0:=d.1
 let a1:=d.2.1
 let a2:=d.2.2.1
 (G_graph (a0,())).bind fun r1=>
 if (!r1.1)=true then
  some ((false,(false,())))
 else
  (G_l11Walk ((a0,(a1,())))).bind fun r2=>
  if (!r2.1)=true then
   some ((false,(false,())))
  else
   (q50q_l0 N N ((a1,(a2,(a0,((0:Int),())))))).bind fun o12=>match o12 with
   | .inl d13=>
    some ((d13.1,(d13.2.1,())))
   | .inr (.inl d14)=>
    some (((List.length d14.2.1:Int)==(List.length d14.1:Int),(true,())))
noncomputable def S_q50q:FSig:=⟨[(K_PiSPiiqq,false),(K_SSi,false),(K_Si,false)],[.bool,.bool],true,(G_escape)⟩
noncomputable def Γ_laws_FnBlindWalks:Ctx:={ tk:=assoc tks,ar:=assoc ars,fs:=assoc [(9,S_laws_rBig),(35,S_q20q),(36,S_q49q),(37,S_q54q),(38,S_laws_rInts),(39,S_q17q),(40,S_q18q),(41,S_q28q),(42,S_q25q),(43,S_q70q),(44,S_q69q),(45,S_q80q),(46,S_q46q),(47,S_laws_rHas),(48,S_q22q),(49,S_q50q)] }
abbrev laws_FnBlindWalks_l0_H:=List Int×List Int×List (List Int)×Int×Unit
abbrev laws_FnBlindWalks_l0_O:=(Bool×Unit)⊕(List Int×Unit)⊕Empty
def laws_FnBlindWalks_l0_h:Form:=[(0,.v K_Su8),(5,.own K_Si 99),(13,.own K_SSi 99),(23,.v I)]
def laws_FnBlindWalks_l0_o:Outs:=[(.ret,[(2,.v .bool)]),(.normal,[(0,.v K_Su8)])]
noncomputable def laws_FnBlindWalks_l0_r (N:Nat) (back:laws_FnBlindWalks_l0_H->Option laws_FnBlindWalks_l0_O) (d:laws_FnBlindWalks_l0_H):Option laws_FnBlindWalks_l0_O:=
 let s0:=d.1
 let s5:=d.2.1
 let s13:=d.2.2.1
 let s23:=d.2.2.2.1
 if (decide (s23<(List.length s5:Int)))=true then
  if (idxIn s23 (List.length s13))=true then
  if (idxIn s23 (List.length s5))=true then
  (G_rHas ((at_ K_Si s13 s23.toNat,(at_ I s5 s23.toNat,())))).bind fun r65=>
  if (!r65.1)=true then
   some (.inl (false,()))
  else
   let x66:=IntKind.wrap .i64 (s23+(1:Int))
   back ((s0,(s5,(s13,(x66,())))))
  else none
  else none
 else
  some (.inr (.inl (s0,())))
noncomputable def laws_FnBlindWalks_l0 (N:Nat):Nat->laws_FnBlindWalks_l0_H->Option laws_FnBlindWalks_l0_O
 | 0,_=>none
 | k+1,d=>laws_FnBlindWalks_l0_r N (laws_FnBlindWalks_l0 N k) d
noncomputable def F_laws_FnBlindWalks (N:Nat) (d:List Int×Unit):Option (Bool×Unit):=
 let a0:=d.1
 let r1:=g_laws_rBig (a0,())
 if (r1.1)=true then
  some (true,())
 else
  ((F_q20q 0) (a0,())).bind fun r2=>
  ((F_q49q 0) ((r2.1,(r2.2.1,())))).bind fun r3=>
  (G_escapeOf ((r2.1,(r2.2.1,())))).bind fun r4=>
  if (!(r3.2.1==r4.2.1))=true then
   some (false,())
  else
   (G_rInts ((r3.1,(r4.1,())))).bind fun r5=>
   if (!r5.1)=true then
    some (false,())
   else
    ((F_q17q 0) ((r2.1,(r2.2.1,())))).bind fun r6=>
    ((F_q18q 0) ((r2.1,(r2.2.1,())))).bind fun r7=>
    if (!(r6.1==r7.1))=true then
     some (false,())
    else
     if (!(r6.2.1==r7.2.1))=true then
      some (false,())
     else
      (G_uns ((r2.1,(r2.2.1,())))).bind fun r8=>
      ((F_q25q 0) ((r2.1,(r2.2.1,())))).bind fun r9=>
      if (!(r8.2.1==r9.2.1))=true then
       some (false,())
      else
       if (!(r8.2.1==r6.2.1))=true then
        some (false,())
       else
        (G_rTable ((r8.1,(r9.1,())))).bind fun r10=>
        if (!r10.1)=true then
         some (false,())
        else
         ((F_q69q 0) ((r2.1,(r2.2.1,())))).bind fun r11=>
         ((F_q80q 0) ((r2.1,(r2.2.1,())))).bind fun r12=>
         if (!(r11.1==r12.1))=true then
          some (false,())
         else
          if (!(r11.2.1==r12.2.1))=true then
           some (false,())
          else
           if (r11.2.1)=true then
            if (!(r6.2.1==r11.1))=true then
             some (false,())
            else
             if (r6.2.1)=true then
              if (r3.2.1==r6.1)=true then
               some (false,())
              else
               if ((List.length r8.1:Int) != (List.length r2.2.1:Int))=true then
                some (false,())
               else
                let x13:=IntKind.wrap .i64 ((List.length r8.1:Int)-(1:Int))
                if (idxIn x13 (List.length r8.1))=true then
                if (!(r6.1==((List.length (at_ K_Si r8.1 x13.toNat):Int)==(0:Int))))=true then
                 some (false,())
                else
                 if (r3.2.1)=true then
                  (G_escape ((r2.1,(r2.2.1,(r3.1,()))))).bind fun r14=>
                  if (!r14.2.1)=true then
                   some (false,())
                  else
                   if (!r14.1)=true then
                    some (false,())
                   else
                    (laws_FnBlindWalks_l0 N N ((a0,(r3.1,(r8.1,((0:Int),())))))).bind fun o17=>match o17 with
                    | .inl d18=>
                     some (d18.1,())
                    | .inr (.inl d19)=>
                     ((F_q22q 0) (d19.1,())).bind fun r20=>
                     (G_escape ((r20.1,(r20.2.1,(r20.2.2.1,()))))).bind fun r21=>
                     (G_escape ((r20.1,(r20.2.1,(r20.2.2.1,()))))).bind fun r22=>
                     if (!(r21.1==r22.1))=true then
                      some (false,())
                     else
                      if (!(r21.2.1==r22.2.1))=true then
                       some (false,())
                      else
                       if (!r21.1)=true then
                        some (true,())
                       else
                        ((F_q17q 0) ((r20.1,(r20.2.1,())))).bind fun r23=>
                        if (r23.2.1)=true then
                         some (!r23.1,())
                        else
                         some (false,())
                 else
                  ((F_q22q 0) (a0,())).bind fun r24=>
                  (G_escape ((r24.1,(r24.2.1,(r24.2.2.1,()))))).bind fun r25=>
                  (G_escape ((r24.1,(r24.2.1,(r24.2.2.1,()))))).bind fun r26=>
                  if (!(r25.1==r26.1))=true then
                   some (false,())
                  else
                   if (!(r25.2.1==r26.2.1))=true then
                    some (false,())
                   else
                    if (!r25.1)=true then
                     some (true,())
                    else
                     ((F_q17q 0) ((r24.1,(r24.2.1,())))).bind fun r27=>
                     if (r27.2.1)=true then
                      some (!r27.1,())
                     else
                      some (false,())
                else none
             else
              if (r3.2.1)=true then
               (G_escape ((r2.1,(r2.2.1,(r3.1,()))))).bind fun r28=>
               if (!r28.2.1)=true then
                some (false,())
               else
                if (!r28.1)=true then
                 some (false,())
                else
                 (laws_FnBlindWalks_l0 N N ((a0,(r3.1,(r8.1,((0:Int),())))))).bind fun o29=>match o29 with
                 | .inl d30=>
                  some (d30.1,())
                 | .inr (.inl d31)=>
                  ((F_q22q 0) (d31.1,())).bind fun r32=>
                  (G_escape ((r32.1,(r32.2.1,(r32.2.2.1,()))))).bind fun r33=>
                  (G_escape ((r32.1,(r32.2.1,(r32.2.2.1,()))))).bind fun r34=>
                  if (!(r33.1==r34.1))=true then
                   some (false,())
                  else
                   if (!(r33.2.1==r34.2.1))=true then
                    some (false,())
                   else
                    if (!r33.1)=true then
                     some (true,())
                    else
                     ((F_q17q 0) ((r32.1,(r32.2.1,())))).bind fun r35=>
                     if (r35.2.1)=true then
                      some (!r35.1,())
                     else
                      some (false,())
              else
               ((F_q22q 0) (a0,())).bind fun r36=>
               (G_escape ((r36.1,(r36.2.1,(r36.2.2.1,()))))).bind fun r37=>
               (G_escape ((r36.1,(r36.2.1,(r36.2.2.1,()))))).bind fun r38=>
               if (!(r37.1==r38.1))=true then
                some (false,())
               else
                if (!(r37.2.1==r38.2.1))=true then
                 some (false,())
                else
                 if (!r37.1)=true then
                  some (true,())
                 else
                  ((F_q17q 0) ((r36.1,(r36.2.1,())))).bind fun r39=>
                  if (r39.2.1)=true then
                   some (!r39.1,())
                  else
                   some (false,())
           else
            if (!(r6.2.1==false))=true then
             some (false,())
            else
             if (r6.2.1)=true then
              if (r3.2.1==r6.1)=true then
               some (false,())
              else
               if ((List.length r8.1:Int) != (List.length r2.2.1:Int))=true then
                some (false,())
               else
                let x40:=IntKind.wrap .i64 ((List.length r8.1:Int)-(1:Int))
                if (idxIn x40 (List.length r8.1))=true then
                if (!(r6.1==((List.length (at_ K_Si r8.1 x40.toNat):Int)==(0:Int))))=true then
                 some (false,())
                else
                 if (r3.2.1)=true then
                  (G_escape ((r2.1,(r2.2.1,(r3.1,()))))).bind fun r41=>
                  if (!r41.2.1)=true then
                   some (false,())
                  else
                   if (!r41.1)=true then
                    some (false,())
                   else
                    (laws_FnBlindWalks_l0 N N ((a0,(r3.1,(r8.1,((0:Int),())))))).bind fun o42=>match o42 with
                    | .inl d43=>
                     some (d43.1,())
                    | .inr (.inl d44)=>
                     ((F_q22q 0) (d44.1,())).bind fun r45=>
                     (G_escape ((r45.1,(r45.2.1,(r45.2.2.1,()))))).bind fun r46=>
                     (G_escape ((r45.1,(r45.2.1,(r45.2.2.1,()))))).bind fun r47=>
                     if (!(r46.1==r47.1))=true then
                      some (false,())
                     else
                      if (!(r46.2.1==r47.2.1))=true then
                       some (false,())
                      else
                       if (!r46.1)=true then
                        some (true,())
                       else
                        ((F_q17q 0) ((r45.1,(r45.2.1,())))).bind fun r48=>
                        if (r48.2.1)=true then
                         some (!r48.1,())
                        else
                         some (false,())
                 else
                  ((F_q22q 0) (a0,())).bind fun r49=>
                  (G_escape ((r49.1,(r49.2.1,(r49.2.2.1,()))))).bind fun r50=>
                  (G_escape ((r49.1,(r49.2.1,(r49.2.2.1,()))))).bind fun r51=>
                  if (!(r50.1==r51.1))=true then
                   some (false,())
                  else
                   if (!(r50.2.1==r51.2.1))=true then
                    some (false,())
                   else
                    if (!r50.1)=true then
                     some (true,())
                    else
                     ((F_q17q 0) ((r49.1,(r49.2.1,())))).bind fun r52=>
                     if (r52.2.1)=true then
                      some (!r52.1,())
                     else
                      some (false,())
                else none
             else
              if (r3.2.1)=true then
               (G_escape ((r2.1,(r2.2.1,(r3.1,()))))).bind fun r53=>
               if (!r53.2.1)=true then
                some (false,())
               else
                if (!r53.1)=true then
                 some (false,())
                else
                 (laws_FnBlindWalks_l0 N N ((a0,(r3.1,(r8.1,((0:Int),())))))).bind fun o54=>match o54 with
                 | .inl d55=>
                  some (d55.1,())
                 | .inr (.inl d56)=>
                  ((F_q22q 0) (d56.1,())).bind fun r57=>
                  (G_escape ((r57.1,(r57.2.1,(r57.2.2.1,()))))).bind fun r58=>
                  (G_escape ((r57.1,(r57.2.1,(r57.2.2.1,()))))).bind fun r59=>
                  if (!(r58.1==r59.1))=true then
                   some (false,())
                  else
                   if (!(r58.2.1==r59.2.1))=true then
                    some (false,())
                   else
                    if (!r58.1)=true then
                     some (true,())
                    else
                     ((F_q17q 0) ((r57.1,(r57.2.1,())))).bind fun r60=>
                     if (r60.2.1)=true then
                      some (!r60.1,())
                     else
                      some (false,())
              else
               ((F_q22q 0) (a0,())).bind fun r61=>
               (G_escape ((r61.1,(r61.2.1,(r61.2.2.1,()))))).bind fun r62=>
               (G_escape ((r61.1,(r61.2.1,(r61.2.2.1,()))))).bind fun r63=>
               if (!(r62.1==r63.1))=true then
                some (false,())
               else
                if (!(r62.2.1==r63.2.1))=true then
                 some (false,())
                else
                 if (!r62.1)=true then
                  some (true,())
                 else
                  ((F_q17q 0) ((r61.1,(r61.2.1,())))).bind fun r64=>
                  if (r64.2.1)=true then
                   some (!r64.1,())
                  else
                   some (false,())
noncomputable def S_laws_FnBlindWalks:FSig:=⟨[(K_Su8,false)],[.bool],true,(G_law)⟩
end Go.V.W
