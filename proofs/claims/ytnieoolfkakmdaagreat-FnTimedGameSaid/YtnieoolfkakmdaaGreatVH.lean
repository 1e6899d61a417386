/- What the law FnTimedGame leans on, part 8: an interpreter of the model as plain data, its soundness, the functions as it tells them, and their laws. -/
import Derived.Test.YtnieoolfkakmdaaGreatVG
set_option linter.unusedVariables false
set_option linter.unusedSimpArgs false
set_option maxRecDepth 100000
noncomputable section
namespace Go.V.W
open Go.Proofs
theorem I1 {α:Type} {m:List α} {x:α} {k:Nat} (h:m.length<=k) (hk:k<=100000):decide (List.length m+List.length [x]<=lim)=true:=by
 unfold lim
 simp
 omega
theorem Asa (N:Nat) (p n:Nat) (hn:n<=8) (out:List Tab) (r:Int) (rows:Tab) (x:Nat) (k:Nat) (hk:n<=k) :
  NR N (k+1) ((p:Int),(n:Int),out,r,rows,(x:Int),[],(0:Int),())=some (.inl ((p:Int),(n:Int),out,r,rows,(x:Int),(List.range n).map (Br x),())):=by
 refine Kg (L:=NR N) (r:=Lc N) (fun _ _=>rfl) (n:=n) (mk:=fun i m=>((p:Int),(n:Int),out,r,rows,(x:Int),m,(i:Int),())) (f:=Br x) (o:=fun m=>.inl ((p:Int),(n:Int),out,r,rows,(x:Int),m,())) ?_ ?_ k hk
 ·intro back i m hi hm
  have hml:m.length<=8:=by rw [hm];simp;omega
  unfold Lc Br
  simp only [Az hi,if_true,I1 hml (by omega),Dw hi hn]
  by_cases e:x=i
  ·subst e;simp only [beq_self_eq_true,if_true,I1 hml (by omega)]
  ·have e':((x:Int)==(i:Int))=false:=by simpa using fun h:(x:Int)=(i:Int)=>e (by omega)
   simp only [e',e,AGb,if_false,I1 hml (by omega),if_true]
 ·intro back m _
  unfold Lc
  simp only [AL,AGb,if_false]
theorem Asu (N:Nat) (hN:10<=N) (p n:Nat) (hn:n<=8) (out:List Tab) (r:Int) (k:Nat) (hk:n<=k) :
  NQ N (k+1) ((p:Int),(n:Int),out,r,[],(0:Int),())=some (.inl ((p:Int),(n:Int),out,r,AO n Br,())):=by
 refine Kg (L:=NQ N) (r:=KA N) (fun _ _=>rfl) (n:=n) (mk:=fun i m=>((p:Int),(n:Int),out,r,m,(i:Int),())) (f:=fun x=>(List.range n).map (Br x)) (o:=fun m=>.inl ((p:Int),(n:Int),out,r,m,())) ?_ ?_ k hk
 ·intro back i m hi hm
  have hml:m.length<=8:=by rw [hm];simp;omega
  have h4:=Asa N p n hn out r m i (N-1) (by omega)
  rw [show N-1+1=N by omega] at h4
  unfold KA
  simp only [Az hi,if_true,h4,Option.bind_some,I1 hml (by omega),Dw hi hn]
 ·intro back m _
  unfold KA
  simp only [AL,AGb,if_false]
theorem XG (d) (r) (h:Es d=some r):∃N,XZ N d=some r:=by
 obtain ⟨p,n,_⟩:=d
 unfold Es at h
 split at h
 ·rename_i hc
  simp only [AGc] at hc
  have hp:=AX.1 hc.1
  have hn:=AX.1 hc.2
  have h:=AGg h
  subst h
  have ep:p=(p.toNat:Int):=by omega
  have en:n=(n.toNat:Int):=by omega
  have hn8:n.toNat<=8:=by omega
  have hp8:p.toNat<=8:=by omega
  refine ⟨20,?_⟩
  unfold XZ
  have:=Kg (L:=SG 20) (r:=KF 20) (fun _ _=>rfl) (n:=p.toNat) (mk:=fun i m=>((p.toNat:Int),(n.toNat:Int),m,(i:Int),())) (f:=fun _=>AO n.toNat Br) (o:=fun m=>.inl (m,()))
   (by
    intro back i m hi hm
    have hml:m.length<=8:=by rw [hm];simp;omega
    have h4:=Asu 20 (by omega) p.toNat n.toNat hn8 m (i:Int) 19 (by omega)
    unfold KF
    simp only [Az hi,if_true,h4,Option.bind_some,I1 hml (by omega),Dw hi hp8])
   (by
    intro back m _
    unfold KF
    simp only [AL,AGb,if_false]) 19 (by omega)
  simp only [Int.natCast_zero,<- ep,<- en] at this
  simp only [this,Option.bind_some]
  rfl
 ·cases h
theorem Aea (d) (r) (h:Ii d=some r):∃N,SE N d=some r:=by
 obtain ⟨B,T,r0,c0,q0,_⟩:=d
 unfold Ii at h
 split at h
 ·rename_i hA
  have hc:=hA
  unfold okA at hc
  simp only [AGc,decide_eq_true_eq] at hc
  obtain ⟨⟨⟨⟨⟨hB,h8⟩,hT⟩,hr0⟩,hc0⟩,hq0⟩:=hc
  have h:=AGg h
  subst h
  obtain ⟨B1,B2,B3⟩:=HO hB
  obtain ⟨er,hr⟩:=Dk hr0
  obtain ⟨ec,hc⟩:=Dk hc0
  obtain ⟨eq,hq⟩:=Dk hq0
  generalize r0.toNat=r at er hr
  generalize c0.toNat=c at ec hc
  generalize q0.toNat=q at eq hq
  subst er ec eq
  obtain ⟨b1,b2⟩:=B3 r hr
  have hcB:c<B[r].length:=by omega
  obtain ⟨b3,b4⟩:=b2 c hcB
  have eb:CK B (r:Int) (c:Int)=B[r][c]:=by
   unfold CK
   simp only [Int.toNat_natCast,BJ hr,BJ hcB]
  have hmx:B[r][c].length<=maxLen:=by unfold maxLen;omega
  refine ⟨20,?_⟩
  unfold SE
  have key:=Cp (L:=NA 20) (r:=IO 20) (fun _ _=>rfl) B[r][c] (mk:=fun i=>(B,T,(r:Int),(c:Int),(q:Int),(i:Int),())) (q:=fun b => !decide (0<=Aw (CK B (r:Int)) (Cw B.length T (r:Int)) b (q:Int))) (o:=.inl (true,())) (f:=.inr (.inl ()))
   (by
    intro back i hi
    obtain ⟨y,hy,ey⟩:=b4 B[r][c][i] (AGk hi)
    have hA:=TF (u:=()) hB h8 hT hr hy hq
    unfold IO
    simp only [Ad hr,Ad hcB,Ad hi,Int.toNat_natCast,BC (e:=Ag) hr,BC (e:=Ai) hcB,BC (e:=I) hi,Az hi,if_true,ey,CU,hA,Option.bind_some,A1 hi hmx,ge_iff_le]
    cases decide (0<=Aw (CK B (r:Int)) (Cw B.length T (r:Int)) (y:Int) (q:Int))<;>rfl)
   (by
    intro back
    unfold IO
    simp only [Ad hr,Ad hcB,Int.toNat_natCast,BC (e:=Ag) hr,BC (e:=Ai) hcB,AL,if_true,AGb,if_false]) 19 0 (by omega) (by omega)
  simp only [Int.natCast_zero,List.drop_zero] at key
  simp only [key,eb]
  have ea:∀(p:Int->Bool) (l:List Int),(l.all fun b => !p b) = !l.any p:=fun p l=>by simp [List.all_eq_not_any_not]
  rw [ea]
  cases (B[r][c].any fun b=>decide (0<=Aw (CK B (r:Int)) (Cw B.length T (r:Int)) b (q:Int)))<;>rfl
 ·cases h
def Gc (h g:Nat->Nat->Nat->Int) (r c i:Nat):Nat->Nat->Nat->Int:=fun a b d=>if a=r/\b=c/\d<i then h a b d else g a b d
def J6 (h g:Nat->Nat->Nat->Int) (r i:Nat):Nat->Nat->Nat->Int:=fun a b d=>if a=r/\b<i then h a b d else g a b d
def LF (h g:Nat->Nat->Nat->Int) (i:Nat):Nat->Nat->Nat->Int:=fun a b d=>if a<i then h a b d else g a b d
theorem Aqh {t:Tt} (ht:AV t=true) (f:Nat->Nat->Nat->Int) {r c q:Nat} (hr:r<t.2.1.toNat) (hc:c<t.1.1.toNat) (hq:q<t.1.1.toNat) (hf:f r c q<0) :
  Ii (A2 t,A7 t.2.1.toNat t.1.1.toNat f,(r:Int),(c:Int),(q:Int),())=some (Ba t.2.1.toNat t.1.1.toNat (Ay t) f r c q,()):=by
 obtain ⟨b1,b2,b3,b4⟩:=Lu ht
 obtain ⟨n1,n2,n3,p1,p2,p3,_⟩:=Bi ht
 have hA:okA (A2 t,A7 t.2.1.toNat t.1.1.toNat f,(r:Int),(c:Int),(q:Int),())=true:=TF (by rw [b3];exact b1) (by omega) (by rw [b2,b3];exact Ail _ _ _) (by omega) (by omega) (by omega)
 unfold Ii Ba
 have hd:decide (f r c q<0)=true:=decide_eq_true hf
 simp only [hA,if_true,b2,Vn f hr (show t.2.1.toNat<=8 by omega),hd,Bool.true_and]
 rw [b4 r hr c hc]
 congr 2
 apply congrArg
 funext b
 rw [Jo (b1:=CK (A2 t) (r:Int)) (b2:=Ay t r) (b4 r hr q hq)]
theorem Aoq (N:Nat) (t:Tt) (ht:AV t=true) (f g:Nat->Nat->Nat->Int) (m:Int) (fl:Bool) (r c:Nat) (hr:r<t.2.1.toNat) (hc:c<t.1.1.toNat) (k:Nat) (hk:t.1.1.toNat<=k) :
  Nn N (k+1) (t,A2 t,A7 t.2.1.toNat t.1.1.toNat f,m,A7 t.2.1.toNat t.1.1.toNat g,fl,(r:Int),(c:Int),(0:Int),()) =
   some (.inl (t,A2 t,A7 t.2.1.toNat t.1.1.toNat f,m,A7 t.2.1.toNat t.1.1.toNat (Gc (Bb t.2.1.toNat t.1.1.toNat (Ay t) m f) g r c t.1.1.toNat),fl||(List.range t.1.1.toNat).any (Ba t.2.1.toNat t.1.1.toNat (Ay t) f r c),(r:Int),(c:Int),())):=by
 obtain ⟨n1,n2,n3,p1,p2,p3,_⟩:=Bi ht
 have h0:A7 t.2.1.toNat t.1.1.toNat g=A7 t.2.1.toNat t.1.1.toNat (Gc (Bb t.2.1.toNat t.1.1.toNat (Ay t) m f) g r c 0):=B7 fun a b d _ _ _=>by unfold Gc;simp
 have:=D0 (L:=Nn N) (r:=Lf N) (fun _ _=>rfl) (n:=t.1.1.toNat) (mk:=fun i=>(t,A2 t,A7 t.2.1.toNat t.1.1.toNat f,m,A7 t.2.1.toNat t.1.1.toNat (Gc (Bb t.2.1.toNat t.1.1.toNat (Ay t) m f) g r c i),fl||(List.range i).any (Ba t.2.1.toNat t.1.1.toNat (Ay t) f r c),(r:Int),(c:Int),(i:Int),()))
  (o:=.inl (t,A2 t,A7 t.2.1.toNat t.1.1.toNat f,m,A7 t.2.1.toNat t.1.1.toNat (Gc (Bb t.2.1.toNat t.1.1.toNat (Ay t) m f) g r c t.1.1.toNat),fl||(List.range t.1.1.toNat).any (Ba t.2.1.toNat t.1.1.toNat (Ay t) f r c),(r:Int),(c:Int),()))
  (by
   intro back i hi
   generalize hh:Bb t.2.1.toNat t.1.1.toNat (Ay t) m f=h
   have e1:∀v,h r c i=v->A7 t.2.1.toNat t.1.1.toNat (Nw (Gc h g r c i) r c i v)=A7 t.2.1.toNat t.1.1.toNat (Gc h g r c (i+1)):=fun v hv=>B7 fun a b d _ _ _=>by
    unfold Nw Gc
    by_cases h1:a=r/\b=c/\d=i
    ·obtain ⟨rfl,rfl,rfl⟩:=h1
     rw [if_pos ⟨rfl,rfl,rfl⟩,if_pos ⟨rfl,rfl,Nat.lt_succ_self _⟩,hv]
    ·rw [if_neg h1]
     by_cases h2:a=r/\b=c/\d<i
     ·rw [if_pos h2,if_pos ⟨h2.1,h2.2.1,by omega⟩]
     ·rw [if_neg h2,if_neg (fun h3=>h2 ⟨h3.1,h3.2.1,by
       have:d≠i:=fun e=>h1 ⟨h3.1,h3.2.1,e⟩
       omega⟩)]
   have e2:∀v w,Nw (Nw (Gc h g r c i) r c i v) r c i w=Nw (Gc h g r c i) r c i w:=fun v w=>by
    funext a b d
    unfold Nw
    split<;>rfl
   have ea:(List.range (i+1)).any (Ba t.2.1.toNat t.1.1.toNat (Ay t) f r c)=((List.range i).any (Ba t.2.1.toNat t.1.1.toNat (Ay t) f r c)||Ba t.2.1.toNat t.1.1.toNat (Ay t) f r c i):=by
    rw [List.range_succ,List.any_append]
    simp
   have hi':decide ((i:Int)<t.1.1)=true:=by simp;omega
   unfold Lf
   have l3:∀f,(A7 t.2.1.toNat t.1.1.toNat f).length=t.2.1.toNat:=Bw _ _
   simp only [hi',if_true,l3,Ad hr,Int.toNat_natCast,Fy _ hr,Cr,Ad hc,Ea _ hc,Lk,Ad hi,Afu _ hi,Dw hi n3]
   have es:List.set (A7 t.2.1.toNat t.1.1.toNat (Gc h g r c i)) r (List.set (AO t.1.1.toNat (Gc h g r c i r)) c (List.set ((List.range t.1.1.toNat).map (Gc h g r c i r c)) i (f r c i)))=A7 t.2.1.toNat t.1.1.toNat (Nw (Gc h g r c i) r c i (f r c i)):=TU _ hr hc hi _
   rw [es]
   by_cases hf:f r c i<0
   ·simp only [hf,decide_true,if_true,Aqh ht f hr hc hi hf,Option.bind_some]
    cases hcan:Ba t.2.1.toNat t.1.1.toNat (Ay t) f r c i with
    | true=>
     have hv:h r c i=m:=by rw [<- hh];unfold Bb;rw [if_pos hcan]
     simp only [if_true,l3,Ad hr,Fy _ hr,Cr,Ad hc,Ea _ hc,Lk,Ad hi,ea,hcan,Bool.or_true]
     rw [TU _ hr hc hi,e2,e1 m hv]
    | false=>
     have hv:h r c i=f r c i:=by rw [<- hh];unfold Bb;rw [if_neg (by rw [hcan];simp)]
     simp only [AGb,if_false,ea,hcan,Bool.or_false]
     rw [e1 _ hv]
   ·have hcan:Ba t.2.1.toNat t.1.1.toNat (Ay t) f r c i=false:=by unfold Ba;simp [hf]
    have hv:h r c i=f r c i:=by rw [<- hh];unfold Bb;rw [if_neg (by rw [hcan];simp)]
    simp only [hf,decide_false,AGb,if_false,ea,hcan,Bool.or_false]
    rw [e1 _ hv])
  (by
   intro back
   have hi':decide ((t.1.1.toNat:Int)<t.1.1)=false:=by simp;omega
   unfold Lf
   simp only [hi',AGb,if_false]) k hk
 simp only [List.range_zero,List.any_nil,Bool.or_false,Int.natCast_zero] at this
 rw [<- h0] at this
 exact this
theorem Aiy (N:Nat) (hN:10<=N) (t:Tt) (ht:AV t=true) (f g:Nat->Nat->Nat->Int) (m:Int) (fl:Bool) (r:Nat) (hr:r<t.2.1.toNat) (k:Nat) (hk:t.1.1.toNat<=k) :
  MT N (k+1) (t,A2 t,A7 t.2.1.toNat t.1.1.toNat f,m,A7 t.2.1.toNat t.1.1.toNat g,fl,(r:Int),(0:Int),()) =
   some (.inl (t,A2 t,A7 t.2.1.toNat t.1.1.toNat f,m,A7 t.2.1.toNat t.1.1.toNat (J6 (Bb t.2.1.toNat t.1.1.toNat (Ay t) m f) g r t.1.1.toNat),fl||(List.range t.1.1.toNat).any (fun c=>(List.range t.1.1.toNat).any (Ba t.2.1.toNat t.1.1.toNat (Ay t) f r c)),(r:Int),())):=by
 obtain ⟨n1,n2,n3,p1,p2,p3,_⟩:=Bi ht
 have h0:A7 t.2.1.toNat t.1.1.toNat g=A7 t.2.1.toNat t.1.1.toNat (J6 (Bb t.2.1.toNat t.1.1.toNat (Ay t) m f) g r 0):=B7 fun a b d _ _ _=>by unfold J6;simp
 have:=D0 (L:=MT N) (r:=Ls N) (fun _ _=>rfl) (n:=t.1.1.toNat) (mk:=fun i=>(t,A2 t,A7 t.2.1.toNat t.1.1.toNat f,m,A7 t.2.1.toNat t.1.1.toNat (J6 (Bb t.2.1.toNat t.1.1.toNat (Ay t) m f) g r i),fl||(List.range i).any (fun c=>(List.range t.1.1.toNat).any (Ba t.2.1.toNat t.1.1.toNat (Ay t) f r c)),(r:Int),(i:Int),()))
  (o:=.inl (t,A2 t,A7 t.2.1.toNat t.1.1.toNat f,m,A7 t.2.1.toNat t.1.1.toNat (J6 (Bb t.2.1.toNat t.1.1.toNat (Ay t) m f) g r t.1.1.toNat),fl||(List.range t.1.1.toNat).any (fun c=>(List.range t.1.1.toNat).any (Ba t.2.1.toNat t.1.1.toNat (Ay t) f r c)),(r:Int),()))
  (by
   intro back i hi
   have hi':decide ((i:Int)<t.1.1)=true:=by simp;omega
   have h6:=Aoq N t ht f (J6 (Bb t.2.1.toNat t.1.1.toNat (Ay t) m f) g r i) m (fl||(List.range i).any (fun c=>(List.range t.1.1.toNat).any (Ba t.2.1.toNat t.1.1.toNat (Ay t) f r c))) r i hr hi (N-1) (by omega)
   rw [show N-1+1=N by omega] at h6
   have e1:A7 t.2.1.toNat t.1.1.toNat (Gc (Bb t.2.1.toNat t.1.1.toNat (Ay t) m f) (J6 (Bb t.2.1.toNat t.1.1.toNat (Ay t) m f) g r i) r i t.1.1.toNat)=A7 t.2.1.toNat t.1.1.toNat (J6 (Bb t.2.1.toNat t.1.1.toNat (Ay t) m f) g r (i+1)):=B7 fun a b d _ _ hd=>by
    unfold Gc J6
    by_cases h1:a=r/\b=i
    ·rw [if_pos ⟨h1.1,h1.2,hd⟩,if_pos ⟨h1.1,by omega⟩]
    ·rw [if_neg (fun h=>h1 ⟨h.1,h.2.1⟩)]
     by_cases h2:a=r/\b<i
     ·rw [if_pos h2,if_pos ⟨h2.1,by omega⟩]
     ·rw [if_neg h2,if_neg (fun h3=>h2 ⟨h3.1,by
       have:b≠i:=fun e=>h1 ⟨h3.1,e⟩
       omega⟩)]
   have ea:(List.range (i+1)).any (fun c=>(List.range t.1.1.toNat).any (Ba t.2.1.toNat t.1.1.toNat (Ay t) f r c))=((List.range i).any (fun c=>(List.range t.1.1.toNat).any (Ba t.2.1.toNat t.1.1.toNat (Ay t) f r c))||(List.range t.1.1.toNat).any (Ba t.2.1.toNat t.1.1.toNat (Ay t) f r i)):=by
    rw [List.range_succ,List.any_append]
    simp
   unfold Ls
   simp only [hi',if_true,h6,Option.bind_some,Dw hi n3,e1,ea,Bool.or_assoc])
  (by
   intro back
   have hi':decide ((t.1.1.toNat:Int)<t.1.1)=false:=by simp;omega
   unfold Ls
   simp only [hi',AGb,if_false]) k hk
 simp only [List.range_zero,List.any_nil,Bool.or_false,Int.natCast_zero] at this
 rw [<- h0] at this
 exact this
theorem Aj4 (N:Nat) (hN:10<=N) (t:Tt) (ht:AV t=true) (f g:Nat->Nat->Nat->Int) (m:Int) (k:Nat) (hk:t.2.1.toNat<=k) :
  No N (k+1) (t,A2 t,A7 t.2.1.toNat t.1.1.toNat f,m,A7 t.2.1.toNat t.1.1.toNat g,false,(0:Int),()) =
   some (.inl (t,A2 t,m,A7 t.2.1.toNat t.1.1.toNat (Bb t.2.1.toNat t.1.1.toNat (Ay t) m f),IX t.2.1.toNat t.1.1.toNat (Ba t.2.1.toNat t.1.1.toNat (Ay t) f),())):=by
 obtain ⟨n1,n2,n3,p1,p2,p3,_⟩:=Bi ht
 have h0:A7 t.2.1.toNat t.1.1.toNat g=A7 t.2.1.toNat t.1.1.toNat (LF (Bb t.2.1.toNat t.1.1.toNat (Ay t) m f) g 0):=B7 fun a b d _ _ _=>by unfold LF;simp
 have hz:A7 t.2.1.toNat t.1.1.toNat (LF (Bb t.2.1.toNat t.1.1.toNat (Ay t) m f) g t.2.1.toNat)=A7 t.2.1.toNat t.1.1.toNat (Bb t.2.1.toNat t.1.1.toNat (Ay t) m f):=B7 fun a b d ha _ _=>by unfold LF;rw [if_pos ha]
 have:=D0 (L:=No N) (r:=K5 N) (fun _ _=>rfl) (n:=t.2.1.toNat) (mk:=fun i=>(t,A2 t,A7 t.2.1.toNat t.1.1.toNat f,m,A7 t.2.1.toNat t.1.1.toNat (LF (Bb t.2.1.toNat t.1.1.toNat (Ay t) m f) g i),(List.range i).any (fun r=>(List.range t.1.1.toNat).any (fun c=>(List.range t.1.1.toNat).any (Ba t.2.1.toNat t.1.1.toNat (Ay t) f r c))),(i:Int),()))
  (o:=.inl (t,A2 t,m,A7 t.2.1.toNat t.1.1.toNat (LF (Bb t.2.1.toNat t.1.1.toNat (Ay t) m f) g t.2.1.toNat),(List.range t.2.1.toNat).any (fun r=>(List.range t.1.1.toNat).any (fun c=>(List.range t.1.1.toNat).any (Ba t.2.1.toNat t.1.1.toNat (Ay t) f r c))),()))
  (by
   intro back i hi
   have hi':decide ((i:Int)<t.2.1)=true:=by simp;omega
   have h4:=Aiy N hN t ht f (LF (Bb t.2.1.toNat t.1.1.toNat (Ay t) m f) g i) m ((List.range i).any (fun r=>(List.range t.1.1.toNat).any (fun c=>(List.range t.1.1.toNat).any (Ba t.2.1.toNat t.1.1.toNat (Ay t) f r c)))) i hi (N-1) (by omega)
   rw [show N-1+1=N by omega] at h4
   have e1:A7 t.2.1.toNat t.1.1.toNat (J6 (Bb t.2.1.toNat t.1.1.toNat (Ay t) m f) (LF (Bb t.2.1.toNat t.1.1.toNat (Ay t) m f) g i) i t.1.1.toNat)=A7 t.2.1.toNat t.1.1.toNat (LF (Bb t.2.1.toNat t.1.1.toNat (Ay t) m f) g (i+1)):=B7 fun a b d _ hb _=>by
    unfold J6 LF
    by_cases h1:a=i
    ·rw [if_pos ⟨h1,hb⟩,if_pos (by omega)]
    ·rw [if_neg (fun h=>h1 h.1)]
     by_cases h2:a<i
     ·rw [if_pos h2,if_pos (by omega)]
     ·rw [if_neg h2,if_neg (by omega)]
   have ea:(List.range (i+1)).any (fun r=>(List.range t.1.1.toNat).any (fun c=>(List.range t.1.1.toNat).any (Ba t.2.1.toNat t.1.1.toNat (Ay t) f r c)))=((List.range i).any (fun r=>(List.range t.1.1.toNat).any (fun c=>(List.range t.1.1.toNat).any (Ba t.2.1.toNat t.1.1.toNat (Ay t) f r c)))||(List.range t.1.1.toNat).any (fun c=>(List.range t.1.1.toNat).any (Ba t.2.1.toNat t.1.1.toNat (Ay t) f i c))):=by
    rw [List.range_succ,List.any_append]
    simp
   unfold K5
   simp only [hi',if_true,h4,Option.bind_some,Dw (show i<8 by omega) (AGf 8),e1,ea])
  (by
   intro back
   have hi':decide ((t.2.1.toNat:Int)<t.2.1)=false:=by simp;omega
   unfold K5
   simp only [hi',AGb,if_false]) k hk
 simp only [List.range_zero,List.any_nil,Int.natCast_zero] at this
 rw [<- h0,hz] at this
 exact this
theorem LJ {t:Tt} (ht:AV t=true):Es (t.2.1,t.1.1,())=some (A7 t.2.1.toNat t.1.1.toNat BK,()):=by
 obtain ⟨n1,n2,n3,p1,p2,p3,_⟩:=Bi ht
 unfold Es
 have e1:inB 0 8 t.2.1=true:=AX.2 (by omega)
 have e2:inB 0 8 t.1.1=true:=AX.2 (by omega)
 simp only [e1,e2,Bool.and_self,if_true]
theorem Ajs (N:Nat) (hN:20<=N) (t:Tt) (ht:AV t=true):∀(k m:Nat) (f:Nat->Nat->Nat->Int),m+k<=5000->Nk t.2.1.toNat t.1.1.toNat f<k -> ∀fu,k<=fu ->
  Ni N fu (t,A2 t,A7 t.2.1.toNat t.1.1.toNat f,(m:Int),())=some (.inl (A7 t.2.1.toNat t.1.1.toNat (Db t.2.1.toNat t.1.1.toNat (Ay t) k (m:Int) f),())):=by
 obtain ⟨n1,n2,n3,p1,p2,p3,_⟩:=Bi ht
 intro k
 induction k with
 | zero=>intro m f _ h;omega
 | succ k ih=>
  intro m f hm hng fu hfu
  obtain ⟨fu,rfl⟩:∃z,fu=z+1:=⟨fu-1,by omega⟩
  have h2:=Aj4 N (by omega) t ht f BK (m:Int) (N-1) (by omega)
  rw [show N-1+1=N by omega] at h2
  have hw:IntKind.wrap .i64 ((m:Int)+1)=((m+1:Nat):Int):=by
   rw [Bj _ (by omega) (by omega)]
   rfl
  show Pw N (Ni N fu) _=_
  unfold Pw
  simp only [LJ ht,Option.bind_some,h2,hw,Db]
  by_cases ha:IX t.2.1.toNat t.1.1.toNat (Ba t.2.1.toNat t.1.1.toNat (Ay t) f)=true
  ·rw [if_pos ha,ha]
   simp only [Bool.not_true,AGb,if_false]
   have:=Mq (t:=(m:Int)) (by omega) ha
   exact ih (m+1) _ (by omega) (by omega) fu (by omega)
  ·have ha':IX t.2.1.toNat t.1.1.toNat (Ba t.2.1.toNat t.1.1.toNat (Ay t) f)=false:=(Bool.not_eq_true _).mp ha
   rw [if_neg ha,ha']
   have e:A7 t.2.1.toNat t.1.1.toNat (Bb t.2.1.toNat t.1.1.toNat (Ay t) (m:Int) f)=A7 t.2.1.toNat t.1.1.toNat f:=B7 fun a b d h1 h2 h3=>by
    unfold Bb
    refine if_neg fun h=>ha ?_
    exact EH.2 ⟨a,b,d,h1,h2,h3,h⟩
   rw [e]
   rfl
theorem S4 {t:Tt} (ht:AV t=true):Nk t.2.1.toNat t.1.1.toNat BK<520:=by
 obtain ⟨n1,n2,n3,p1,p2,p3,_⟩:=Bi ht
 have h:=Zt t.2.1.toNat t.1.1.toNat BK
 have h1:t.1.1.toNat*t.1.1.toNat<=8*8:=Nat.mul_le_mul n3 n3
 have h2:t.2.1.toNat*(t.1.1.toNat*t.1.1.toNat)<=4*(8*8):=Nat.mul_le_mul p3 h1
 omega
theorem XT (d) (r) (h:Dl d=some r):∃N,XI N d=some r:=by
 obtain ⟨t,_⟩:=d
 unfold Dl at h
 split at h
 ·rename_i hc
  simp only [AGc] at hc
  obtain ⟨ht,ho⟩:=hc
  have h:=AGg h
  subst h
  refine ⟨600,?_⟩
  unfold XI
  have key:=Ajs 600 (by omega) t ht 520 1 BK (by omega) (S4 ht) 600 (by omega)
  simp only [Int.natCast_one] at key
  simp only [Dg,ht,ho,Bool.and_self,if_true,Option.bind_some,LJ ht,key]
  rfl
 ·cases h
open Go.Proofs
theorem Uw {l:List Int} (hn:Eo l=true) (u v w x:Unit) (fv:Unit×Unit) {T:Tab} (hT:sqL l.length T=true) {b q:Nat} (hb:b<l.length) (hq:q<l.length) :
  RU ((b:Int),(v,(q:Int),(l,u),T,fv,w),x)=some (decide (0<=Aw (AH l) T (b:Int) (q:Int)),()):=by
 obtain ⟨t1,t2⟩:=Cj hT
 unfold RU W3 WQ Tq Aw
 by_cases e:(b:Int)=(q:Int)
 ·simp [e]
 ·have e':((b:Int)==(q:Int))=false:=by simpa using e
  have i1:Af (b:Int) T.length=true:=Ad (by omega)
  have hlen:decide ((at_ Ai T b).length=l.length)=true:=decide_eq_true (t2 b hb)
  have hw:AW (fun z=>(at_ Ai T b).getD z.toNat 0) (AH l (q:Int)) 0=AW (AS T (b:Int)) (AH l (q:Int)) 0:=EI fun z hz=>by
   have hlt:b<T.length:=by omega
   unfold AS
   rw [BC (e:=Ai) hlt,Int.toNat_natCast,BJ hlt]
  simp only [e',e,AGb,if_false,i1,if_true,Int.toNat_natCast,BG,hn,hlen,GR hq,Bool.and_self,Option.bind_some,hw,ge_iff_le]
  cases decide (0<=AW (AS T (b:Int)) (AH l (q:Int)) 0)<;>rfl
theorem Yd (d) (r) (h:HZ d=some r):∃N,Ah2 N d=some r:=by
 obtain ⟨xs,⟨v,q,⟨l,u⟩,T,fv,w⟩,_⟩:=d
 unfold HZ at h
 split at h
 ·rename_i hc
  simp only [AGc] at hc
  obtain ⟨⟨⟨⟨hn,hT⟩,hq⟩,hxs⟩,hlen⟩:=hc
  have hlen:xs.length<=1000:=of_decide_eq_true hlen
  obtain ⟨q1,q2⟩:=Dk hq
  have h:=AGg h
  subst h
  have hmx:xs.length<=maxLen:=by unfold maxLen;omega
  refine ⟨xs.length+1,?_⟩
  unfold Ah2
  have:=E4 (L:=XL (xs.length+1)) (r:=Nq (xs.length+1)) (fun _ _=>rfl) (e:=I) xs (mk:=fun i=>(xs,(v,q,(l,u),T,fv,w),(xs.length:Int),(i:Int),())) (q:=fun b=>decide (0<=Aw (AH l) T b q)) (o:=fun i=>.inl ((i:Int),())) (f:=.inr (.inl ()))
   (by
    intro back i hi
    have hx:at_ I xs i=xs[i]:=AM (e:=I) hi
    obtain ⟨b1,b2⟩:=Dk (List.all_eq_true.1 hxs xs[i] (AGk hi))
    have hcan:=Uw hn u v w () fv hT b2 q2
    rw [<- b1,<- q1] at hcan
    unfold Nq
    simp only [Az hi,if_true,Ad hi,Int.toNat_natCast,A1 hi hmx,hx,hcan,Option.bind_some])
   (by intro back;unfold Nq;simp only [AL,AGb,if_false]) xs.length 0 (by omega) (by omega)
  simp only [Int.natCast_zero,List.drop_zero] at this
  simp only [this,Option.bind_some]
  cases Gs (fun b=>decide (0<=Aw (AH l) T b q)) xs 0<;>rfl
 ·cases h
theorem Rp {l:List Int} (hn:Eo l=true) (u x:Unit) (fv:Unit×Unit) {T:Tab} (hT:sqL l.length T=true) {c q:Nat} (hc:c<l.length) (hq:q<l.length) :
  TB 0 ((l,u),T,(c:Int),(q:Int),fv,x)=some ((AH l (c:Int)).any (fun b=>decide (0<=Aw (AH l) T b (q:Int))),()):=by
 unfold TB Aht
 have hall:(AH l (c:Int)).all (inB 0 ((l.length:Int)-1))=true:=List.all_eq_true.2 fun z hz=>by
  obtain ⟨y,hy,rfl⟩:=MQ hn c hc z hz
  exact GR hy
 have hbl:=D1 l (c:Int)
 have hs1:Aat (AH l (c:Int))=true:=decide_eq_true (by omega)
 simp only [MN hn u hc,Tb hn hc,Option.bind_some,HZ,hn,hT,GR hq,hall,hs1,Bool.and_self,if_true,FA]
def Eb (p n r i:Nat):List Tab:=(List.range p).map fun a=>if a<r then AO n Br else if a=r then (List.range i).map (fun c=>(List.range n).map (Br c)) else []
theorem PS (p n r i:Nat):(Eb p n r i).length=p:=by simp [Eb]
theorem Qw {p n r i j:Nat} (hj:j<p) (h:j<(Eb p n r i).length):(Eb p n r i)[j]=if j<r then AO n Br else if j=r then (List.range i).map (fun c=>(List.range n).map (Br c)) else []:=by
 apply AGg
 rw [<- AGn h]
 unfold Eb
 rw [List.getElem?_map,List.getElem?_range hj]
 rfl
theorem Ato {p n r i:Nat} (hr:r<p):at_ Ag (Eb p n r i) r=(List.range i).map (fun c=>(List.range n).map (Br c)):=by
 have h:r<(Eb p n r i).length:=by rw [PS];exact hr
 rw [BC (e:=Ag) h,Qw hr h]
 simp
theorem Apb {p n r i:Nat} (hr:r<p):List.set (Eb p n r i) r ((List.range i).map (fun c=>(List.range n).map (Br c))++[(List.range n).map (Br i)])=Eb p n r (i+1):=by
 apply List.ext_getElem
 ·simp [Eb]
 ·intro j h1 h2
  have hj:j<p:=by rw [PS] at h2;exact h2
  rw [List.getElem_set,Qw (i:=i+1) hj h2]
  by_cases e:r=j
  ·subst e
   simp [List.range_succ]
  ·rw [if_neg e,Qw hj]
   have e':¬j=r:=fun h=>e h.symm
   simp only [e',if_false]
theorem Aef (p n r:Nat):Eb p n r n=Eb p n (r+1) 0:=by
 unfold Eb
 refine List.map_congr_left fun a _ => ?_
 by_cases h1:a<r
 ·rw [if_pos h1,if_pos (by omega)]
 ·by_cases h2:a=r
  ·subst h2
   rw [if_neg h1,if_pos rfl,if_pos (by omega)]
   rfl
  ·rw [if_neg h1,if_neg h2,if_neg (by omega)]
   by_cases h3:a=r+1
   ·rw [if_pos h3];rfl
   ·rw [if_neg h3]
theorem Z6 {n:Nat} (h1:1<=n) (h8:n<=8):DP ([-1],(n:Int),())=some (List.replicate n (-1),()):=by
 unfold DP
 have e1:decide (1<=(n:Int))=true:=by simp;omega
 have e2:decide ((n:Int)<=8)=true:=by simp;omega
 simp only [List.length_singleton,decide_true,e1,e2,Bool.and_self,if_true,Int.toNat_natCast,List.headD_cons]
theorem ADy (N:Nat) (nets:List Nt) (p n r:Nat) (hr:r<p) (hn:n<=8) (s25 s26:Int) (k:Nat) (hk:n<=k) :
  M6 N (k+1) (nets,(n:Int),Eb p n r 0,(r:Int),s25,s26,(n:Int),(0:Int),())=some (.inl (nets,(n:Int),Eb p n (r+1) 0,s25,s26,())):=by
 rw [<- Aef]
 refine D0 (L:=M6 N) (r:=K3 N) (fun _ _=>rfl) (n:=n) (mk:=fun i=>(nets,(n:Int),Eb p n r i,(r:Int),s25,s26,(n:Int),(i:Int),())) ?_ ?_ k hk
 ·intro back i hi
  have i3:Af (i:Int) (List.replicate n (-1:Int)).length=true:=Ad (by simp;exact hi)
  have hml:(List.map (fun c=>List.map (Br c) (List.range n)) (List.range i)).length<=8:=by simp;omega
  have hb:(Nat.beq r r&&true)=true:=by simp
  unfold K3
  simp only [Az hi,if_true,Z6 (show 1<=n by omega) hn,Option.bind_some,i3,Int.toNat_natCast,PS,Ad hr,Ato hr,Ai2 n i hi,I1 hml (by omega),hb,Apb hr,Dw hi hn]
 ·intro back
  unfold K3
  simp only [AL,AGb,if_false]
theorem ADr (N:Nat) (hN:10<=N) (nets:List Nt) (p n:Nat) (hn:n<=8) (hp:p<=8) (k:Nat) (hk:p<=k) :
  NJ N (k+1) (nets,(n:Int),List.replicate p [],(p:Int),(0:Int),())=some (.inl (nets,(n:Int),A7 p n BK,())):=by
 have h0:List.replicate p ([]:Tab)=Eb p n 0 0:=by
  apply List.ext_getElem
  ·simp [Eb]
  ·intro i h1 h2
   unfold Eb
   simp
 have h1:Eb p n p 0=A7 p n BK:=by
  unfold Eb A7
  refine List.map_congr_left fun a ha => ?_
  rw [if_pos (List.mem_range.1 ha)]
  rfl
 rw [h0,<- h1]
 refine D0 (L:=NJ N) (r:=Ld N) (fun _ _=>rfl) (n:=p) (mk:=fun i=>(nets,(n:Int),Eb p n i 0,(p:Int),(i:Int),())) ?_ ?_ k hk
 ·intro back i hi
  have h2:=ADy N nets p n i hi hn (p:Int) (i:Int) (N-1) (by omega)
  rw [show N-1+1=N by omega] at h2
  unfold Ld
  simp only [Az hi,if_true,h2,Option.bind_some,Dw hi hp]
 ·intro back
  unfold Ld
  simp only [AL,AGb,if_false]
abbrev T4:=Int×Int×Int×Unit
def Mv (g:Nat->Nat->Nat->Bool) (r c i:Nat):List T4:=((List.range i).filter (g r c)).map fun q:Nat=>((r:Int),(c:Int),(q:Int),())
def GS (g:Nat->Nat->Nat->Bool) (n r i:Nat):List T4:=(List.range i).flatMap fun c=>Mv g r c n
def Ji (g:Nat->Nat->Nat->Bool) (n i:Nat):List T4:=(List.range i).flatMap fun r=>GS g n r n
theorem Ako (g:Nat->Nat->Nat->Bool) (r c i:Nat):Mv g r c (i+1)=if g r c i=true then Mv g r c i++[((r:Int),(c:Int),(i:Int),())] else Mv g r c i:=by
 unfold Mv
 rw [List.range_succ,List.filter_append]
 by_cases h:g r c i=true
 ·rw [if_pos h];simp [h]
 ·rw [if_neg h];simp [h]
theorem Ze (g:Nat->Nat->Nat->Bool) (r c i:Nat):(Mv g r c i).length<=i:=by
 unfold Mv
 rw [List.length_map]
 have:=List.length_filter_le (g r c) (List.range i)
 simpa using this
theorem SW (g:Nat->Nat->Nat->Bool) (n r i:Nat):GS g n r (i+1)=GS g n r i++Mv g r i n:=by
 unfold GS
 rw [List.range_succ,List.flatMap_append]
 simp
theorem Vr (g:Nat->Nat->Nat->Bool) (n i:Nat):Ji g n (i+1)=Ji g n i++GS g n i n:=by
 unfold Ji
 rw [List.range_succ,List.flatMap_append]
 simp
theorem Vq (g:Nat->Nat->Nat->Bool) (n r:Nat):∀i,(GS g n r i).length<=i*n:=by
 intro i
 induction i with
 | zero=>simp [GS]
 | succ i ih=>
  have:=Ze g r i n
  rw [SW,List.length_append,Nat.succ_mul]
  omega
theorem Aad (g:Nat->Nat->Nat->Bool) (n:Nat):∀i,(Ji g n i).length<=i*(n*n):=by
 intro i
 induction i with
 | zero=>simp [Ji]
 | succ i ih=>
  have:=Vq g n i n
  rw [Vr,List.length_append,Nat.succ_mul]
  omega
theorem Ks {g:Nat->Nat->Nat->Bool} {n p:Nat} {e:T4}:e∈Ji g n p ↔ ∃r c q,r<p/\c<n/\q<n/\g r c q=true/\e=((r:Int),(c:Int),(q:Int),()):=by
 unfold Ji GS Mv
 simp only [List.mem_flatMap,List.mem_range,List.mem_map,List.mem_filter]
 constructor
 ·rintro ⟨r,hr,c,hc,q,⟨hq,hg⟩,rfl⟩
  exact ⟨r,c,q,hr,hc,hq,hg,rfl⟩
 ·rintro ⟨r,c,q,hr,hc,hq,hg,rfl⟩
  exact ⟨r,hr,c,hc,q,⟨hq,hg⟩,rfl⟩
structure TT (nets:List Nt) (p n:Nat):Prop where
 ok:HN n nets=true
 len:nets.length=p
 n8:n<=8
theorem ADc (N:Nat) {nets:List Nt} {p n:Nat} (H:TT nets p n) (f:Nat->Nat->Nat->Int) (t:Int) (fd:Bool) (fresh:List T4) (hfl:fresh.length<=5000) (r c:Nat) (hr:r<p) (hrn:r<nets.length) (hc:c<n) (s54:List Nt) (s55 s56 s61 s62:Int) (k:Nat) (hk:n<=k) :
  JO N (k+1) (nets,(n:Int),A7 p n f,t,fd,fresh,(r:Int),nets[r],(c:Int),s54,s55,s56,s61,s62,(n:Int),(0:Int),()) =
   some (.inl (nets,(n:Int),A7 p n f,t,fd,fresh++Mv (Ba p n (By nets) f) r c n,(r:Int),nets[r],s54,s55,s56,s61,s62,())):=by
 obtain ⟨N1,N2,N3⟩:=CN H.ok
 have hn8:=H.n8
 have hpl:=H.len
 obtain ⟨nb,nl⟩:=N3 r hrn
 obtain ⟨w1,w2,w3⟩:=JR hr (show p<=8 by omega)
 have w2':(((r+1:Nat):Int)).tmod (p:Int)=(((r+1) % p:Nat):Int):=w2
 have e0:((p:Int) != 0)=true:=by rw [bne_iff_ne];omega
 have h0:fresh=fresh++Mv (Ba p n (By nets) f) r c 0:=by simp [Mv]
 have:=D0 (L:=JO N) (r:=I5 N) (fun _ _=>rfl) (n:=n) (mk:=fun i=>(nets,(n:Int),A7 p n f,t,fd,fresh++Mv (Ba p n (By nets) f) r c i,(r:Int),nets[r],(c:Int),s54,s55,s56,s61,s62,(n:Int),(i:Int),()))
  (o:=.inl (nets,(n:Int),A7 p n f,t,fd,fresh++Mv (Ba p n (By nets) f) r c n,(r:Int),nets[r],s54,s55,s56,s61,s62,()))
  (by
   intro back i hi
   have hml:(fresh++Mv (Ba p n (By nets) f) r c i).length<=5008:=by
    have:=Ze (Ba p n (By nets) f) r c i
    rw [List.length_append];omega
   unfold I5
   simp only [Az hi,if_true,Bw,Ad hr,Int.toNat_natCast,Fy _ hr,Cr,Ad hc,Ea _ hc,Lk,Ad hi,Afu _ hi,Dw hi hn8,Ako,hpl,w1,e0,w2',Ad w3,Fy _ w3]
   have eb:By nets r=AH nets[r].1:=by unfold By;rw [BJ hrn]
   by_cases hf:f r c i<0
   ·have hcan:=Rp nb nets[r].2 () ((),()) (T:=AO n (f ((r+1) % p))) (by rw [nl];exact MU _ _) (show c<nets[r].1.length by omega) (show i<nets[r].1.length by omega)
    have e:nets[r]=(nets[r].1,nets[r].2):=rfl
    rw [<- e] at hcan
    have ec:(AH nets[r].1 (c:Int)).any (fun b=>decide (0<=Aw (AH nets[r].1) (AO n (f ((r+1) % p))) b (i:Int)))=Ba p n (By nets) f r c i:=by
     unfold Ba
     simp only [hf,decide_true,Bool.true_and,eb]
    rw [ec] at hcan
    simp only [hf,decide_true,if_true,hcan,Option.bind_some]
    cases hg:Ba p n (By nets) f r c i with
    | true=>simp only [if_true,I1 hml (by omega),List.append_assoc]
    | false=>simp only [AGb,if_false]
   ·have hg:Ba p n (By nets) f r c i=false:=by unfold Ba;simp [hf]
    simp only [hf,decide_false,AGb,if_false,hg])
  (by
   intro back
   unfold I5
   simp only [AL,AGb,if_false]) k hk
 simp only [Int.natCast_zero] at this
 rw [<- h0] at this
 exact this
theorem AFj (N:Nat) (hN:10<=N) {nets:List Nt} {p n:Nat} (H:TT nets p n) (f:Nat->Nat->Nat->Int) (t:Int) (fd:Bool) (fresh:List T4) (hfl:fresh.length<=4000) (r:Nat) (hr:r<p) (hrn:r<nets.length) (s54:List Nt) (s55 s56:Int) (k:Nat) (hk:n<=k) :
  NN N (k+1) (nets,(n:Int),A7 p n f,t,fd,fresh,(r:Int),nets[r],s54,s55,s56,(n:Int),(0:Int),()) =
   some (.inl (nets,(n:Int),A7 p n f,t,fd,fresh++GS (Ba p n (By nets) f) n r n,s54,s55,s56,())):=by
 have hn8:=H.n8
 have h0:fresh=fresh++GS (Ba p n (By nets) f) n r 0:=by simp [GS]
 have:=D0 (L:=NN N) (r:=LA N) (fun _ _=>rfl) (n:=n) (mk:=fun i=>(nets,(n:Int),A7 p n f,t,fd,fresh++GS (Ba p n (By nets) f) n r i,(r:Int),nets[r],s54,s55,s56,(n:Int),(i:Int),()))
  (o:=.inl (nets,(n:Int),A7 p n f,t,fd,fresh++GS (Ba p n (By nets) f) n r n,s54,s55,s56,()))
  (by
   intro back i hi
   have hml:(fresh++GS (Ba p n (By nets) f) n r i).length<=5000:=by
    have:=Vq (Ba p n (By nets) f) n r i
    have:i*n<=8*8:=Nat.mul_le_mul (by omega) hn8
    rw [List.length_append];omega
   have h10:=ADc N H f t fd (fresh++GS (Ba p n (By nets) f) n r i) hml r i hr hrn hi s54 s55 s56 (n:Int) (i:Int) (N-1) (by omega)
   rw [show N-1+1=N by omega] at h10
   unfold LA
   simp only [Az hi,if_true,h10,Option.bind_some,Dw hi hn8,SW,List.append_assoc])
  (by
   intro back
   unfold LA
   simp only [AL,AGb,if_false]) k hk
 simp only [Int.natCast_zero] at this
 rw [<- h0] at this
 exact this
theorem AE2 (N:Nat) (hN:10<=N) {nets:List Nt} {p n:Nat} (H:TT nets p n) (f:Nat->Nat->Nat->Int) (t:Int) (fd:Bool) (k:Nat) (hk:p<=k) :
  MP N (k+1) (nets,(n:Int),A7 p n f,t,fd,[],nets,(p:Int),(0:Int),()) =
   some (.inl (nets,(n:Int),A7 p n f,t,fd,Ji (Ba p n (By nets) f) n p,())):=by
 obtain ⟨N1,N2,N3⟩:=CN H.ok
 have hn8:=H.n8
 have hpl:=H.len
 have h0:([]:List T4)=Ji (Ba p n (By nets) f) n 0:=by simp [Ji]
 have:=D0 (L:=MP N) (r:=Ll N) (fun _ _=>rfl) (n:=p) (mk:=fun i=>(nets,(n:Int),A7 p n f,t,fd,Ji (Ba p n (By nets) f) n i,nets,(p:Int),(i:Int),()))
  (o:=.inl (nets,(n:Int),A7 p n f,t,fd,Ji (Ba p n (By nets) f) n p,()))
  (by
   intro back i hi
   have hin:i<nets.length:=by omega
   have hml:(Ji (Ba p n (By nets) f) n i).length<=4000:=by
    have:=Aad (Ba p n (By nets) f) n i
    have h1:n*n<=8*8:=Nat.mul_le_mul hn8 hn8
    have:i*(n*n)<=8*(8*8):=Nat.mul_le_mul (by omega) h1
    omega
   have h8:=AFj N hN H f t fd (Ji (Ba p n (By nets) f) n i) hml i hi hin nets (p:Int) (i:Int) (N-1) (by omega)
   rw [show N-1+1=N by omega] at h8
   unfold Ll
   simp only [Az hi,if_true,Ad hin,Int.toNat_natCast,BC (e:=AA) hin,h8,Option.bind_some,Dw hi (show p<=8 by omega),Vr])
  (by
   intro back
   unfold Ll
   simp only [AL,AGb,if_false]) k hk
 simp only [Int.natCast_zero] at this
 rw [<- h0] at this
 exact this
def isT (r c q:Nat) (e:T4):Bool:=e.1==(r:Int)&&e.2.1==(c:Int)&&e.2.2.1==(q:Int)
theorem AAj (N:Nat) (nets:List Nt) (p n:Nat) (f:Nat->Nat->Nat->Int) (t:Int) (F:List T4) (hF:∀e∈F,∃r c q:Nat,r<p/\c<n/\q<n/\e=((r:Int),(c:Int),(q:Int),())) (hl:F.length<=5000) (k:Nat) (hk:F.length<=k) :
  Kq N (k+1) (nets,(n:Int),A7 p n f,t,false,F,(F.length:Int),(0:Int),()) =
   some (.inl (nets,(n:Int),A7 p n (fun a b d=>if F.any (isT a b d)=true then t else f a b d),t,decide (0<F.length),())):=by
 have hmx:F.length<=maxLen:=by unfold maxLen;omega
 have h0:A7 p n f=A7 p n (fun a b d=>if (F.take 0).any (isT a b d)=true then t else f a b d):=B7 fun a b d _ _ _=>by simp
 have h1:F.any=(F.take F.length).any:=by rw [List.take_of_length_le (AGf _)]
 have:=D0 (L:=Kq N) (r:=Jg N) (fun _ _=>rfl) (n:=F.length) (mk:=fun i=>(nets,(n:Int),A7 p n (fun a b d=>if (F.take i).any (isT a b d)=true then t else f a b d),t,decide (0<i),F,(F.length:Int),(i:Int),()))
  (o:=.inl (nets,(n:Int),A7 p n (fun a b d=>if (F.take F.length).any (isT a b d)=true then t else f a b d),t,decide (0<F.length),()))
  (by
   intro back i hi
   obtain ⟨r,c,q,hr,hc,hq,he⟩:=hF F[i] (AGk hi)
   have e1:A7 p n (Nw (fun a b d=>if (F.take i).any (isT a b d)=true then t else f a b d) r c q t)=A7 p n (fun a b d=>if (F.take (i+1)).any (isT a b d)=true then t else f a b d):=B7 fun a b d _ _ _=>by
    unfold Nw
    rw [List.take_add_one,AGn hi,List.any_append,he]
    simp only [Option.toList_some,List.any_cons,List.any_nil,Bool.or_false,isT]
    by_cases h:a=r/\b=c/\d=q
    ·obtain ⟨rfl,rfl,rfl⟩:=h
     simp
    ·rw [if_neg h]
     have:((r:Int)==(a:Int)&&(c:Int)==(b:Int)&&(q:Int)==(d:Int))=false:=by
      apply Bool.eq_false_iff.2
      intro hh
      simp only [AGc,beq_iff_eq] at hh
      exact h ⟨by omega,by omega,by omega⟩
     rw [this,Bool.or_false]
   have e2:decide (0<i+1)=true:=by simp
   unfold Jg
   simp only [Az hi,if_true,Ad hi,Int.toNat_natCast,BC (e:=Do) hi,he,Bw,Ad hr,Fy _ hr,Cr,Ad hc,Ea _ hc,Lk,Ad hq,A1 hi hmx,e2]
   rw [TU _ hr hc hq,e1])
  (by
   intro back
   unfold Jg
   simp only [AL,AGb,if_false]) k hk
 simp only [Int.natCast_zero,Nat.lt_irrefl,decide_false] at this
 rw [<- h0] at this
 rw [h1]
 exact this
theorem Auh {g:Nat->Nat->Nat->Bool} {n p a b d:Nat} (ha:a<p) (hb:b<n) (hd:d<n):(Ji g n p).any (isT a b d)=g a b d:=by
 apply Bool.eq_iff_iff.2
 rw [List.any_eq_true]
 constructor
 ·rintro ⟨e,he,h⟩
  obtain ⟨r,c,q,h1,h2,h3,h4,rfl⟩:=Ks.1 he
  unfold isT at h
  simp only [AGc,beq_iff_eq] at h
  have e1:r=a:=by omega
  have e2:c=b:=by omega
  have e3:q=d:=by omega
  subst e1 e2 e3
  exact h4
 ·intro h
  exact ⟨_,Ks.2 ⟨a,b,d,ha,hb,hd,h,rfl⟩,by unfold isT;simp⟩
theorem Aun {g:Nat->Nat->Nat->Bool} {n p:Nat}:decide (0<(Ji g n p).length)=IX p n g:=by
 apply Bool.eq_iff_iff.2
 rw [decide_eq_true_eq,EH]
 constructor
 ·intro h
  obtain ⟨r,c,q,h1,h2,h3,h4,_⟩:=Ks.1 (AGk h)
  exact ⟨r,c,q,h1,h2,h3,h4⟩
 ·rintro ⟨r,c,q,hr,hc,hq,h⟩
  exact List.length_pos_of_mem (Ks.2 ⟨r,c,q,hr,hc,hq,h,rfl⟩)
theorem AD7 (N:Nat) (hN:600<=N) {nets:List Nt} {p n:Nat} (H:TT nets p n):∀(k m:Nat) (f:Nat->Nat->Nat->Int),m+k<=5000->Nk p n f<k -> ∀fu,k+1<=fu ->
  NO N fu (nets,(n:Int),A7 p n f,(m:Int),true,())=some (.inl (A7 p n (Db p n (By nets) k (m:Int) f),())):=by
 obtain ⟨N1,N2,N3⟩:=CN H.ok
 have hn8:=H.n8
 have hpl:=H.len
 intro k
 induction k with
 | zero=>intro m f _ h;omega
 | succ k ih=>
  intro m f hm hng fu hfu
  obtain ⟨fu,rfl⟩:∃z,fu=z+1:=⟨fu-1,by omega⟩
  have h6:=AE2 N (by omega) H f (m:Int) false (N-1) (by omega)
  rw [show N-1+1=N by omega] at h6
  have hlen:(Ji (Ba p n (By nets) f) n p).length<=520:=by
   have:=Aad (Ba p n (By nets) f) n p
   have h1:n*n<=8*8:=Nat.mul_le_mul hn8 hn8
   have:p*(n*n)<=8*(8*8):=Nat.mul_le_mul (by omega) h1
   omega
  have h12:=AAj N nets p n f (m:Int) (Ji (Ba p n (By nets) f) n p) (fun e he=>by
   obtain ⟨r,c,q,h1,h2,h3,_,h5⟩:=Ks.1 he
   exact ⟨r,c,q,h1,h2,h3,h5⟩) (by omega) (N-1) (by omega)
  rw [show N-1+1=N by omega,Aun] at h12
  have et:A7 p n (fun a b d=>if (Ji (Ba p n (By nets) f) n p).any (isT a b d)=true then (m:Int) else f a b d)=A7 p n (Bb p n (By nets) (m:Int) f):=B7 fun a b d ha hb hd=>by
   rw [Auh ha hb hd]
   rfl
  rw [et] at h12
  have hw:IntKind.wrap .i64 ((m:Int)+1)=((m+1:Nat):Int):=by
   rw [Bj _ (by omega) (by omega)]
   rfl
  show QD N (NO N fu) _=_
  unfold QD
  simp only [if_true,hpl,h6,Option.bind_some,h12,hw,Db]
  by_cases ha:IX p n (Ba p n (By nets) f)=true
  ·rw [if_pos ha,ha]
   have:=Mq (t:=(m:Int)) (by omega) ha
   exact ih (m+1) _ (by omega) (by omega) fu (by omega)
  ·have ha':IX p n (Ba p n (By nets) f)=false:=(Bool.not_eq_true _).mp ha
   rw [if_neg ha,ha']
   obtain ⟨fu,rfl⟩:∃z,fu=z+1:=⟨fu-1,by omega⟩
   have e:A7 p n (Bb p n (By nets) (m:Int) f)=A7 p n f:=B7 fun a b d h1 h2 h3=>by
    unfold Bb
    refine if_neg fun h=>ha ?_
    exact EH.2 ⟨a,b,d,h1,h2,h3,h⟩
   rw [e]
   rfl
theorem T3 (d) (r) (h:CJ d=some r):∃N,Xk N d=some r:=by
 obtain ⟨nets,_⟩:=d
 unfold CJ at h
 split at h
 ·rename_i hN
  have hN:HN (nN nets) nets=true:=hN
  obtain ⟨N1,N2,N3⟩:=CN hN
  have h:=AGg h
  subst h
  have h0:0<nets.length:=by omega
  have en:=Adt h0
  obtain ⟨nb,nl⟩:=N3 0 h0
  have hn8:nN nets<=8:=by
   have:=(CR nb).2.2.1
   omega
  have H:TT nets nets.length (nN nets):=⟨hN,rfl,hn8⟩
  refine ⟨600,?_⟩
  unfold Xk E8
  have i0:Af (0:Int) nets.length=true:=Ad h0
  have z0:(0:Int).toNat=0:=rfl
  have a0:at_ AA nets 0=nets[0]:=BC (e:=AA) h0
  have hc:(decide (0<=(nets.length:Int))&&decide ((nets.length:Int)<=(nets.length:Int))&&decide ((nets.length:Int)<=(lim:Int)))=true:=by
   have a1:(nets.length:Int)<=(lim:Int):=by unfold lim;omega
   simp only [a1,CP,decide_true,Bool.and_self,Int.le_refl]
  have k0:=ADr 600 (by omega) nets nets.length (nN nets) hn8 N2 599 (by omega)
  have hng:Nk nets.length (nN nets) BK<520:=by
   have h:=Zt nets.length (nN nets) BK
   have h1:nN nets*nN nets<=8*8:=Nat.mul_le_mul hn8 hn8
   have h2:nets.length*(nN nets*nN nets)<=8*(8*8):=Nat.mul_le_mul N2 h1
   omega
  have k4:=AD7 600 (by omega) H 520 1 BK (by omega) hng 600 (by omega)
  simp only [Int.natCast_one] at k4
  simp only [i0,if_true,z0,a0,<- en,hc,Int.toNat_natCast,List.length_replicate,k0,Option.bind_some,k4]
  rfl
 ·cases h
theorem FZ {t:Tt} (ht:AV t=true) (u:Unit):CJ (Bt t,u)=some (AN t,()):=by
 obtain ⟨b1,b2,b3,b4⟩:=Nx ht
 have e1:HN (nN (Bt t)) (Bt t)=true:=by rw [b3];exact b1
 unfold CJ
 simp only [e1,if_true]
 rw [b2,b3]
 unfold AN
 rw [Uz (b1:=By (Bt t)) (b2:=Ay t) b4]
open Go.Proofs
theorem As6 {n:Nat} (hn:n<=8) {rows:Tab} (h:sqL n rows=true):DV rows=true/\Al8 rows<=64:=by
 unfold sqL at h
 simp only [AGc,decide_eq_true_eq,List.all_eq_true] at h
 have key:∀(l:Tab),(∀x∈l,x.length=n)->Al8 l<=8*l.length:=by
  intro l
  induction l with
  | nil=>intro _;simp [Al8]
  | cons x l ih=>
   intro hl
   have h1:=hl x (by simp)
   have h2:=ih fun y hy=>hl y (by simp [hy])
   simp only [Al8,List.length_cons]
   omega
 refine ⟨IU (by omega) (List.all_eq_true.2 fun x hx=>decide_eq_true (by rw [h.2 x hx];omega)),?_⟩
 have:=key rows h.2
 omega
theorem WR {n p:Nat} (hn:n<=8) (hp:p<=8) {T:List Tab} (h:JM n p T=true):Ja T=true/\Ajv T<=512:=by
 unfold JM at h
 simp only [AGc,decide_eq_true_eq,List.all_eq_true] at h
 have key:∀(l:List Tab),(∀x∈l,sqL n x=true)->Ajv l<=64*l.length:=by
  intro l
  induction l with
  | nil=>intro _;simp [Ajv]
  | cons x l ih=>
   intro hl
   have h1:=(As6 hn (hl x (by simp))).2
   have h2:=ih fun y hy=>hl y (by simp [hy])
   simp only [Ajv,List.length_cons]
   omega
 refine ⟨?_,?_⟩
 ·unfold Ja
  rw [AGc]
  exact ⟨Fp (by omega),List.all_eq_true.2 fun x hx=>(As6 hn (h.2 x hx)).1⟩
 ·have:=key T h.2
  omega
def ttB (t:Tt):List Tab×Bool×Unit:=if AV t=true then (AN t,true,()) else ([],false,())
theorem KI {t:Tt} (ht:AV t=true):JM t.1.1.toNat t.2.1.toNat (AN t)=true:=Ail _ _ _
theorem AAn (t:Tt):Ja (ttB t).1=true/\Ajv (ttB t).1<=512:=by
 unfold ttB
 split
 ·rename_i ht
  obtain ⟨n1,n2,n3,p1,p2,p3,_⟩:=Bi ht
  exact WR n3 (by omega) (KI ht)
 ·exact ⟨rfl,by decide⟩
theorem Abt (t:Tt) (w:Unit) (ho:okT t=true):Jr 0 (t,w)=some (ttB t):=by
 unfold Jr ttB C7
 simp only [ho,if_true,Option.bind_some]
 cases ht:AV t with
 | false=>rfl
 | true=>simp only [Bool.not_true,AGb,if_false,Dl,ht,ho,Bool.and_self,if_true,Option.bind_some]
theorem Ad7 (t:Tt) (w:Unit) (ho:okT t=true):Jq 0 (t,w)=some (ttB t):=by
 unfold Jq ttB
 simp only [U5 t _ ho,Option.bind_some]
 cases ht:AV t with
 | false=>rfl
 | true=>simp only [Bool.not_true,AGb,if_false,Fz ht ho,FZ ht,if_true,Option.bind_some]
theorem Af6 {after:Int->Int}:∀{l:List Int} {b m:Int},(∀x∈l,¬0<=after x)->Cs after l b m=b:=by
 intro l
 induction l with
 | nil=>intro b m _;rfl
 | cons x l ih=>
  intro b m h
  have hx:=h x (by simp)
  simp only [Cs]
  rw [if_neg (fun h'=>hx h'.1)]
  exact ih fun y hy=>h y (by simp [hy])
theorem Aak {after:Int->Int}:∀{l:List Int} {b m:Int},Cs after l b m=b\/Cs after l b m∈l:=by
 intro l
 induction l with
 | nil=>intro b m;exact .inl rfl
 | cons x l ih=>
  intro b m
  simp only [Cs]
  split
  ·rcases ih (b:=x) (m:=after x) with h | h
   ·right;rw [h];simp
   ·right;simp [h]
  ·rcases ih (b:=b) (m:=m) with h | h
   ·exact .inl h
   ·right;simp [h]
theorem Aan {after:Int->Int}:∀{l:List Int} {b m:Int},(∃x∈l,0<=after x)->b<0->Cs after l b m∈l:=by
 intro l
 induction l with
 | nil=>intro b m ⟨x,hx,_⟩;simp at hx
 | cons x l ih=>
  intro b m ⟨y,hy,h⟩ hb
  simp only [Cs]
  by_cases hx:0<=after x
  ·rw [if_pos ⟨hx,.inl hb⟩]
   rcases Aak (after:=after) (l:=l) (b:=x) (m:=after x) with h | h
   ·rw [h];simp
   ·simp [h]
  ·rw [if_neg (fun h'=>hx h'.1)]
   rcases List.mem_cons.1 hy with rfl | hy
   ·exact absurd h hx
   ·have:=ih (m:=m) ⟨y,hy,h⟩ hb
    simp [this]
def Be (t:Tt) (r:Nat) (b y:Int):Int:=Aw (Ay t r) (Cw t.2.1.toNat (AN t) (r:Int)) b y
theorem YV {t:Tt} (ht:AV t=true) {r b y:Nat} (hr:r<t.2.1.toNat) (hb:b<t.1.1.toNat) (hy:y<t.1.1.toNat):CU (A2 t,AN t,(r:Int),(b:Int),(y:Int),())=some (Be t r (b:Int) (y:Int),()):=by
 obtain ⟨b1,b2,b3,b4⟩:=Lu ht
 obtain ⟨n1,n2,n3,p1,p2,p3,_⟩:=Bi ht
 have hA:okA (A2 t,AN t,(r:Int),(b:Int),(y:Int),())=true:=TF (by rw [b3];exact b1) (by omega) (by rw [b2,b3];exact KI ht) (by omega) (by omega) (by omega)
 unfold CU Be
 simp only [hA,if_true,b2]
 rw [Jo (b1:=CK (A2 t) (r:Int)) (b2:=Ay t r) (b4 r hr y hy)]
theorem Am3 {t:Tt} {r x:Nat} (hr:r<t.2.1.toNat) (hx:x<t.1.1.toNat):(at_ Ag (A2 t) r).length=t.1.1.toNat/\at_ Ai (at_ Ag (A2 t) r) x=Ay t r (x:Int):=by
 have e:at_ Ag (A2 t) r=(List.range t.1.1.toNat).map fun x:Nat=>Ay t r (x:Int):=by
  have h:r<(A2 t).length:=by unfold A2;rw [List.length_map,List.length_range];exact hr
  rw [BC (e:=Ag) h]
  apply AGg
  rw [<- AGn h]
  unfold A2
  rw [List.getElem?_map,List.getElem?_range hr]
  rfl
 rw [e]
 refine ⟨by simp,?_⟩
 have h:x<((List.range t.1.1.toNat).map fun x:Nat=>Ay t r (x:Int)).length:=by simpa using hx
 rw [BC (e:=Ai) h]
 simp
theorem Fq {t:Tt} {r x:Nat} (hx:x<t.1.1.toNat):(Ay t r (x:Int)).length<=t.1.1.toNat /\ ∀z∈Ay t r (x:Int),∃y:Nat,y<t.1.1.toNat/\z=(y:Int):=
 ⟨OO _ _ _,Kt _ _ x hx⟩
theorem Wx (N:Nat) (t:Tt) (ht:AV t=true) (r x y:Nat) (hr:r<t.2.1.toNat) (hx:x<t.1.1.toNat) (hy:y<t.1.1.toNat):∀(k i f:Nat) (b m:Int),i+k=(Ay t r (x:Int)).length->k<f ->
  KQ N f ((x:Int),(y:Int),A2 t,AN t,(r:Int),b,m,(i:Int),())=some (.inl (Cs (fun z=>Be t r z (y:Int)) ((Ay t r (x:Int)).drop i) b m,())):=by
 obtain ⟨b1,b2,b3,b4⟩:=Lu ht
 obtain ⟨n1,n2,n3,p1,p2,p3,_⟩:=Bi ht
 obtain ⟨q1,q2⟩:=Am3 (t:=t) hr hx
 obtain ⟨o1,o2⟩:=Fq (t:=t) (r:=r) hx
 have hmx:(Ay t r (x:Int)).length<=maxLen:=by unfold maxLen;omega
 have hr':r<(A2 t).length:=by omega
 intro k
 induction k with
 | zero=>
  intro i f b m h1 h2
  obtain ⟨f,rfl⟩:∃z,f=z+1:=⟨f-1,by omega⟩
  have e:i=(Ay t r (x:Int)).length:=by omega
  subst e
  rw [AGi (AGf _)]
  show HE N (KQ N f) _=_
  unfold HE
  simp only [Ad hr',Int.toNat_natCast,q1,Ad hx,q2,AL,if_true,AGb,if_false,Cs]
 | succ k ih=>
  intro i f b m h1 h2
  obtain ⟨f,rfl⟩:∃z,f=z+1:=⟨f-1,by omega⟩
  have hi:i<(Ay t r (x:Int)).length:=by omega
  obtain ⟨z,hz,ez⟩:=o2 (Ay t r (x:Int))[i] (AGk hi)
  have hd:(Ay t r (x:Int)).drop i=(z:Int)::(Ay t r (x:Int)).drop (i+1):=by rw [AGj hi,ez]
  show HE N (KQ N f) _=_
  unfold HE
  rw [hd]
  simp only [Ad hr',Int.toNat_natCast,q1,Ad hx,q2,Az hi,if_true,Ad hi,BC (e:=I) hi,ez,YV ht hr hz hy,Option.bind_some,A1 hi hmx,Cs]
  generalize hv:Be t r (z:Int) (y:Int)=v
  by_cases h1':v>=0
  ·by_cases h2':b<0
   ·simp only [h1',h2',decide_true,if_true,true_or,and_self]
    exact ih (i+1) f _ _ (by omega) (by omega)
   ·by_cases h3':v<m
    ·simp only [h1',h2',h3',decide_true,decide_false,AGb,if_true,if_false,or_true,and_self]
     exact ih (i+1) f _ _ (by omega) (by omega)
    ·simp only [h1',h2',h3',decide_true,decide_false,AGb,if_true,if_false,or_self,and_false]
     exact ih (i+1) f _ _ (by omega) (by omega)
  ·simp only [h1',decide_false,AGb,if_false,false_and]
   exact ih (i+1) f _ _ (by omega) (by omega)
theorem HR {t:Tt} (ht:AV t=true) {c:Int} (hc:inB 0 1000 c=true):(t.2.1 != 0)=true/\c.tmod t.2.1=(As t c:Int)/\As t c<t.2.1.toNat:=by
 obtain ⟨n1,n2,n3,p1,p2,p3,_⟩:=Bi ht
 have hc:=AX.1 hc
 have:=WL hc.1 (show 0<t.2.1 by omega)
 unfold As
 refine ⟨?_,by omega,by omega⟩
 rw [bne_iff_ne]
 omega
theorem UM (d) (r) (h:Bo d=some r):∃N,Wf N d=some r:=by
 obtain ⟨t,c,x,y,_⟩:=d
 unfold Bo at h
 split at h
 ·rename_i ho
  have ho:okT t=true:=ho
  have h:=AGg h
  subst h
  refine ⟨20,?_⟩
  unfold Wf C7 trB
  simp only [ho,if_true,Option.bind_some,SL]
  cases ht:AV t with
  | false=>simp [JA,ht]
  | true=>
   obtain ⟨n1,n2,n3,p1,p2,p3,_⟩:=Bi ht
   have hpos:0<t.1.1:=by omega
   have h8:t.1.1<=8:=by omega
   simp only [Bool.not_true,AGb,if_false,Aj7 t.1 _ _ hpos h8]
   cases hc:inB 0 1000 c with
   | false=>simp
   | true=>
    cases hx:inB 0 (t.1.1-1) x with
    | false=>simp [JA,hx]
    | true=>
     cases hy:inB 0 (t.1.1-1) y with
     | false=>simp [JA,hy]
     | true=>
      have he:JA t x y=true:=by unfold JA;simp only [ht,hx,hy,Bool.and_self]
      simp only [Bool.not_true,AGb,if_false,he,Bool.true_and]
      by_cases e:x=y
      ·simp [e]
      ·have e':(x==y)=false:=by simpa using e
       obtain ⟨_,ex,ey,hxn,hyn⟩:=MC he
       obtain ⟨c0,c1,c2⟩:=HR ht hc
       have key:=Wx 20 t ht (As t c) x.toNat y.toNat c2 hxn hyn (Ay t (As t c) (x.toNat:Int)).length 0 20 (-1) 0 (by omega) (by
        have:=(Fq (t:=t) (r:=As t c) hxn).1;omega)
       simp only [Int.natCast_zero,List.drop_zero,<- ex,<- ey] at key
       simp only [e',e,AGb,if_false,decide_false,Bool.not_false,if_true,Dg,Dl,ht,ho,Bool.and_self,Option.bind_some,c0,c1,key]
       have ea:(fun z=>Be t (As t c) z y)=fun b=>Aw (Ay t (As t c)) (Cw t.2.1.toNat (AN t) (As t c:Int)) b y:=rfl
       rw [ea]
       by_cases hn:Cs (fun b=>Aw (Ay t (As t c)) (Cw t.2.1.toNat (AN t) (As t c:Int)) b y) (Ay t (As t c) x) (-1) 0<0
       ·simp only [hn,decide_true,if_true]
       ·simp only [hn,decide_false,AGb,if_false]
 ·cases h
def AQ (t:Tt):Nat->Nat->Nat->Int:=Db t.2.1.toNat t.1.1.toNat (Ay t) 520 1 BK
theorem C8 (t:Tt):AN t=A7 t.2.1.toNat t.1.1.toNat (AQ t):=rfl
theorem Hx (t:Tt):Lg t.2.1.toNat t.1.1.toNat (Ay t):=fun r _=>Kt _ _
theorem EL {t:Tt} (ht:AV t=true):Inv3 t.2.1.toNat t.1.1.toNat (Ay t) (AQ t)/\IX t.2.1.toNat t.1.1.toNat (Ba t.2.1.toNat t.1.1.toNat (Ay t) (AQ t))=false:=
 Aby (Hx t) 520 1 BK (by decide) (Inv3.start _ _ _) (S4 ht)
theorem EO {t:Tt} (ht:AV t=true) {r:Nat} (hr:r<t.2.1.toNat) (b y:Int):Be t r b y=Aw (Ay t r) (AO t.1.1.toNat (AQ t ((r+1) % t.2.1.toNat))) b y:=by
 obtain ⟨n1,n2,n3,p1,p2,p3,_⟩:=Bi ht
 unfold Be
 rw [C8,Vn _ hr (by omega)]
theorem Ami {t:Tt} (ht:AV t=true) {r x y:Nat} (hr:r<t.2.1.toNat) (hx:x<t.1.1.toNat) (hy:y<t.1.1.toNat) (h:AQ t r x y<1) (hne:x≠y):Cs (fun z=>Be t r z (y:Int)) (Ay t r (x:Int)) (-1) 0 = -1:=by
 obtain ⟨hI,hN⟩:=EL ht
 have hf:AQ t r x y<0:=by
  have:=hI.away r x y hne
  omega
 refine Af6 fun z hz h0 => ?_
 have hcan:Ba t.2.1.toNat t.1.1.toNat (Ay t) (AQ t) r x y=true:=by
  unfold Ba
  rw [AGc,List.any_eq_true]
  refine ⟨decide_eq_true hf,z,hz,decide_eq_true ?_⟩
  have h0:0<=Be t r z (y:Int):=h0
  rw [EO ht hr] at h0
  exact h0
 have:IX t.2.1.toNat t.1.1.toNat (Ba t.2.1.toNat t.1.1.toNat (Ay t) (AQ t))=true:=EH.2 ⟨r,x,y,hr,hx,hy,hcan⟩
 rw [hN] at this
 cases this
theorem Al0 {t:Tt} (ht:AV t=true) {r x y:Nat} (hr:r<t.2.1.toNat) (hx:x<t.1.1.toNat) (hy:y<t.1.1.toNat) (h:¬AQ t r x y<1):x≠y /\ ¬Cs (fun z=>Be t r z (y:Int)) (Ay t r (x:Int)) (-1) 0<0:=by
 obtain ⟨hI,_⟩:=EL ht
 have hne:x≠y:=fun e=>by
  subst e
  rw [hI.home] at h
  exact h (by decide)
 refine ⟨hne,?_⟩
 rcases hI.why r x y hr hx hy (by omega) with e | ⟨b,hb,h0⟩
 ·exact absurd e hne
 ·have hm:=Aan (after:=fun z=>Be t r z (y:Int)) (l:=Ay t r (x:Int)) (b := -1) (m:=0) ⟨b,hb,by rw [EO ht hr];exact h0⟩ (by decide)
  obtain ⟨z,_,ez⟩:=(Fq (t:=t) (r:=r) hx).2 _ hm
  omega
theorem Xa (N:Nat) (t:Tt) (ht:AV t=true) (r y:Nat) (hr:r<t.2.1.toNat) (hy:y<t.1.1.toNat) (L:List Int) (hL:∀z∈L,∃w:Nat,w<t.1.1.toNat/\z=(w:Int)) (hLl:L.length<=1000):∀(k i f:Nat) (b m:Int),i+k=L.length->k<f ->
  KW N f ((r:Int),(y:Int),t,Bt t,AN t,b,m,L,(L.length:Int),(i:Int),())=some (.inl (Cs (fun z=>Be t r z (y:Int)) (L.drop i) b m,())):=by
 obtain ⟨b1,b2,b3,b4⟩:=Nx ht
 obtain ⟨n1,n2,n3,p1,p2,p3,_⟩:=Bi ht
 have hmx:L.length<=maxLen:=by unfold maxLen;omega
 have hr':r<(Bt t).length:=by omega
 obtain ⟨_,_,N3⟩:=CN b1
 obtain ⟨nb,nl⟩:=N3 r hr'
 obtain ⟨w1,w2,w3⟩:=JR hr (show t.2.1.toNat<=8 by omega)
 rw [<- p1] at w2
 have w2':(((r+1:Nat):Int)).tmod t.2.1=(((r+1) % t.2.1.toNat:Nat):Int):=w2
 have e0:(t.2.1 != 0)=true:=by rw [bne_iff_ne];omega
 have hTl:(AN t).length=t.2.1.toNat:=Bw _ _ _
 intro k
 induction k with
 | zero=>
  intro i f b m h1 h2
  obtain ⟨f,rfl⟩:∃z,f=z+1:=⟨f-1,by omega⟩
  have e:i=L.length:=by omega
  subst e
  rw [AGi (AGf _)]
  show HD N (KW N f) _=_
  unfold HD
  simp only [AL,AGb,if_false,Cs]
 | succ k ih=>
  intro i f b m h1 h2
  obtain ⟨f,rfl⟩:∃z,f=z+1:=⟨f-1,by omega⟩
  have hi:i<L.length:=by omega
  obtain ⟨z,hz,ez⟩:=hL L[i] (AGk hi)
  have hd:L.drop i=(z:Int)::L.drop (i+1):=by rw [AGj hi,ez]
  show HD N (KW N f) _=_
  unfold HD
  rw [hd]
  simp only [Az hi,if_true,Ad hi,Int.toNat_natCast,BC (e:=I) hi,ez,A1 hi hmx,Cs]
  by_cases hzy:(z:Int)=(y:Int)
  ·have hv:Be t r (z:Int) (y:Int)=0:=by unfold Be Aw;rw [if_pos hzy]
   have hb:((z:Int) != (y:Int))=false:=by simp [hzy]
   rw [hv]
   by_cases h2':b<0
   ·simp only [hb,AGb,if_false,ge_iff_le,Int.le_refl,decide_true,if_true,h2',true_or,and_self]
    exact ih (i+1) f _ _ (by omega) (by omega)
   ·by_cases h3':(0:Int)<m
    ·simp only [hb,AGb,if_false,ge_iff_le,Int.le_refl,decide_true,decide_false,if_true,h2',h3',or_true,and_self]
     exact ih (i+1) f _ _ (by omega) (by omega)
    ·simp only [hb,AGb,if_false,ge_iff_le,Int.le_refl,decide_true,decide_false,if_true,h2',h3',or_self,and_false]
     exact ih (i+1) f _ _ (by omega) (by omega)
  ·have hb:((z:Int) != (y:Int))=true:=by simpa using hzy
   have e1:at_ Ag (AN t) ((r+1) % t.2.1.toNat)=AO t.1.1.toNat (AQ t ((r+1) % t.2.1.toNat)):=Fy _ w3
   have hta:BG (at_ AA (Bt t) r,at_ Ai (AO t.1.1.toNat (AQ t ((r+1) % t.2.1.toNat))) z,(y:Int),())=some (Be t r (z:Int) (y:Int),()):=by
    unfold BG
    have hrl:(at_ Ai (AO t.1.1.toNat (AQ t ((r+1) % t.2.1.toNat))) z).length=t.1.1.toNat:=by rw [Ea _ hz,Lk]
    have hd1:decide ((at_ Ai (AO t.1.1.toNat (AQ t ((r+1) % t.2.1.toNat))) z).length=(Bt t)[r].1.length)=true:=decide_eq_true (by rw [hrl,nl])
    have hd2:inB 0 (((Bt t)[r].1.length:Int)-1) (y:Int)=true:=by rw [nl];exact GR hy
    simp only [BC (e:=AA) hr',nb,hd1,hd2,Bool.and_self,if_true]
    rw [EO ht hr]
    unfold Aw
    rw [if_neg hzy]
    have hbn:AH (Bt t)[r].1 (y:Int)=Ay t r (y:Int):=by
     have:=b4 r hr y hy
     unfold By at this
     rw [BJ hr'] at this
     exact this
    rw [hbn]
    congr 2
   simp only [hb,if_true,Ad hr',w1,e0,w2',hTl,Ad w3,Int.toNat_natCast,e1,Cr,Ad hz,hta,Option.bind_some]
   generalize hv:Be t r (z:Int) (y:Int)=v
   by_cases h1':v>=0
   ·by_cases h2':b<0
    ·simp only [h1',h2',decide_true,if_true,true_or,and_self]
     exact ih (i+1) f _ _ (by omega) (by omega)
    ·by_cases h3':v<m
     ·simp only [h1',h2',h3',decide_true,decide_false,AGb,if_true,if_false,or_true,and_self]
      exact ih (i+1) f _ _ (by omega) (by omega)
     ·simp only [h1',h2',h3',decide_true,decide_false,AGb,if_true,if_false,or_self,and_false]
      exact ih (i+1) f _ _ (by omega) (by omega)
   ·simp only [h1',decide_false,AGb,if_false,false_and]
    exact ih (i+1) f _ _ (by omega) (by omega)
theorem UJ (d) (r) (h:Bo d=some r):∃N,W4 N d=some r:=by
 obtain ⟨t,c,x,y,_⟩:=d
 unfold Bo at h
 split at h
 ·rename_i ho
  have ho:okT t=true:=ho
  have h:=AGg h
  subst h
  refine ⟨20,?_⟩
  unfold W4 trB
  simp only [Alr t x y c _ ho,Option.bind_some]
  cases he:JA t x y with
  | false=>simp
  | true=>
   cases hc:inB 0 1000 c with
   | false=>simp
   | true=>
    obtain ⟨ht,ex,ey,hxn,hyn⟩:=MC he
    obtain ⟨n1,n2,n3,p1,p2,p3,_⟩:=Bi ht
    obtain ⟨c0,c1,c2⟩:=HR ht hc
    generalize hX:x.toNat=X at ex hxn
    generalize hY:y.toNat=Y at ey hyn
    subst ex ey
    obtain ⟨b1,b2,b3,b4⟩:=Nx ht
    have hrN:As t c<(Bt t).length:=by omega
    obtain ⟨_,_,N3⟩:=CN b1
    obtain ⟨nb,nl⟩:=N3 _ hrN
    have hTl:(AN t).length=t.2.1.toNat:=Bw _ _ _
    have e1:at_ Ag (AN t) (As t c)=AO t.1.1.toNat (AQ t (As t c)):=Fy _ c2
    simp only [Bool.and_self,Bool.not_true,AGb,if_false,Fz ht ho,FZ ht,Option.bind_some,c0,if_true,c1,hTl,Ad c2,Int.toNat_natCast,e1,Cr,Ad hxn,Ea _ hxn,Lk,Ad hyn,Afu _ hyn,Bool.true_and]
    have ea:(fun b=>Aw (Ay t (As t c)) (Cw t.2.1.toNat (AN t) (As t c:Int)) b (Y:Int))=fun z=>Be t (As t c) z (Y:Int):=rfl
    rw [ea]
    by_cases hv:AQ t (As t c) X Y<1
    ·simp only [hv,decide_true,if_true]
     by_cases e:(X:Int)=(Y:Int)
     ·simp [e]
     ·have:=Ami ht c2 hxn hyn hv (fun e'=>e (by omega))
      simp [e,this]
    ·obtain ⟨hne,hpos⟩:=Al0 ht c2 hxn hyn hv
     have e:¬(X:Int)=(Y:Int):=fun h=>hne (by omega)
     have hbn:AH (Bt t)[As t c].1 (X:Int)=Ay t (As t c) (X:Int):=by
      have:=b4 _ c2 X hxn
      unfold By at this
      rw [BJ hrN] at this
      exact this
     have hcl:=MN nb (Bt t)[As t c].2 (show X<(Bt t)[As t c].1.length by omega)
     have hso:=Tb nb (show X<(Bt t)[As t c].1.length by omega)
     rw [hbn] at hso
     obtain ⟨o1,o2⟩:=Fq (t:=t) (r:=As t c) hxn
     have key:=Xa 20 t ht (As t c) Y c2 hyn (Ay t (As t c) (X:Int)) o2 (by omega) (Ay t (As t c) (X:Int)).length 0 20 (-1) 0 (by omega) (by omega)
     simp only [Int.natCast_zero,List.drop_zero] at key
     have en:(Bt t)[As t c]=((Bt t)[As t c].1,(Bt t)[As t c].2):=rfl
     rw [<- en] at hcl
     simp only [hv,decide_false,AGb,if_false,Ad hrN,if_true,BC (e:=AA) hrN,hcl,Option.bind_some,hso,key,e,Bool.not_false,hpos]
 ·cases h
open Go.Proofs
theorem Zb (d) (r) (h:EE d=some r):∃N,XN N d=some r:=by
 obtain ⟨l,_⟩:=d
 unfold EE at h
 split at h
 ·rename_i hl
  have hmx:=BH (Ci hl)
  have h:=AGg h
  subst h
  have key:∀(k i f:Nat) (m:Int),i+k=l.length->k<f->Gm (l.length+1) f (l,m,(i:Int),())=some (.inl (AW (fun z=>z) (l.drop i) m,()))\/Gm (l.length+1) f (l,m,(i:Int),())=some (.inr (.inl (AW (fun z=>z) (l.drop i) m,()))):=by
   intro k
   induction k with
   | zero=>
    intro i f m h1 h2
    obtain ⟨f,rfl⟩:∃z,f=z+1:=⟨f-1,by omega⟩
    have e:i=l.length:=by omega
    subst e
    rw [AGi (AGf _)]
    right
    simp [Gm,KS,AW]
   | succ k ih=>
    intro i f m h1 h2
    obtain ⟨f,rfl⟩:∃z,f=z+1:=⟨f-1,by omega⟩
    have hi:i<l.length:=by omega
    have step:Gm (l.length+1) (f+1) (l,m,(i:Int),())=if l[i]<0 then some (.inl (-1,())) else Gm (l.length+1) f (l,(if m<l[i] then l[i] else m),((i+1:Nat):Int),()):=by
     show KS (l.length+1) (Gm (l.length+1) f) _=_
     unfold KS
     simp only [Az hi,if_true,Ad hi,Int.toNat_natCast,BC (e:=I) hi,Ahy,A1 hi hmx]
     by_cases h:l[i]<0
     ·simp only [h,decide_true,if_true]
     ·simp only [h,decide_false,AGb,if_false]
    rw [step,AGj hi]
    simp only [AW]
    by_cases h:l[i]<0
    ·rw [if_pos h,if_pos h]
     exact .inl rfl
    ·rw [if_neg h,if_neg h]
     exact ih (i+1) f _ (by omega) (by omega)
  refine ⟨l.length+1,?_⟩
  unfold XN
  have:=key l.length 0 (l.length+1) 0 (by omega) (by omega)
  simp only [Int.natCast_zero,List.drop_zero] at this
  rcases this with h | h<;>simp only [h,Option.bind_some]
 ·cases h
theorem Av1 (d) (r) (h:ST d=some r):∃N,Wa N d=some r:=by
 obtain ⟨l,_⟩:=d
 unfold ST at h
 split at h
 ·rename_i hc
  simp only [AGc,decide_eq_true_eq] at hc
  obtain ⟨hl,h0⟩:=hc
  have h0:0<l.length:=h0
  have hmx:=BH (Ci hl)
  have h:=AGg h
  subst h
  have key:∀(k i f:Nat) (m:Int),i+k=l.length->k<f->Lq (l.length+1) f (l,m,(i:Int),())=some (.inl ((l.drop i).foldl (fun a b=>if a<b then b else a) m,())):=by
   intro k
   induction k with
   | zero=>
    intro i f m h1 h2
    obtain ⟨f,rfl⟩:∃z,f=z+1:=⟨f-1,by omega⟩
    have e:i=l.length:=by omega
    subst e
    rw [AGi (AGf _)]
    simp [Lq,KD]
   | succ k ih=>
    intro i f m h1 h2
    obtain ⟨f,rfl⟩:∃z,f=z+1:=⟨f-1,by omega⟩
    have hi:i<l.length:=by omega
    show KD (l.length+1) (Lq (l.length+1) f) _=_
    unfold KD
    rw [AGj hi]
    simp only [Az hi,if_true,Ad hi,Int.toNat_natCast,BC (e:=I) hi,A1 hi hmx,List.foldl_cons]
    exact ih (i+1) f _ (by omega) (by omega)
  refine ⟨l.length+1,?_⟩
  unfold Wa
  have h1:decide ((l.length:Int)<1)=false:=by simp;omega
  have i0:Af (0:Int) l.length=true:=Ad h0
  have z0:(0:Int).toNat=0:=rfl
  have:=key (l.length-1) 1 (l.length+1) l[0] (by omega) (by omega)
  simp only [Int.natCast_one] at this
  simp only [h1,AGb,if_false,i0,if_true,z0,BC (e:=I) h0,this,Option.bind_some]
  cases l with
  | nil=>simp at h0
  | cons a l=>simp
 ·cases h
theorem Aph:∀(l:List Int) (m:Int),(∀x∈l,0<=x)->AW (fun z=>z) l m=l.foldl (fun a b=>if a<b then b else a) m:=by
 intro l
 induction l with
 | nil=>intro m _;rfl
 | cons x l ih=>
  intro m h
  have hx:=h x (by simp)
  simp only [AW,List.foldl_cons]
  rw [if_neg (by omega)]
  exact ih _ fun y hy=>h y (by simp [hy])
theorem Ar5 {l:List Int} (u:Unit) (hl:okL l=true) (h0:0<l.length) (hp:∀x∈l,0<=x):ST (l,u)=some (AW (fun z=>z) l 0,()):=by
 unfold ST
 have e:decide (0<l.length)=true:=decide_eq_true h0
 simp only [hl,e,Bool.and_self,if_true]
 rw [Aph l 0 hp]
 cases l with
 | nil=>simp at h0
 | cons a l=>
  have ha:=hp a (by simp)
  simp only [List.headD_cons,List.foldl_cons,Int.lt_irrefl,if_false]
  by_cases h:0<a
  ·rw [if_pos h]
  ·have:a=0:=by omega
   rw [if_neg h,this]
def Bp (n:Nat) (f:Nat->Nat->Int) (x:Nat):Int:=AW (fun z=>z) ((List.range n).map (f x)) 0
theorem Lw {n:Nat} (hn:n<=8) (f:Nat->Nat->Int) {x:Nat} (u:Unit):EE ((List.range n).map (f x),u)=some (Bp n f x,()):=by
 unfold EE Bp
 rw [if_pos (Fp (by simp;omega))]
theorem Abr (N:Nat) (n:Nat) (hn:n<=8) (f:Nat->Nat->Int):∀(k i fu:Nat) (b:Int),i+k=n->k<fu->(b<0 \/ ∃y:Nat,y<n/\b=(y:Int)) ->
  KT N fu (AO n f,b,(i:Int),())=some (.inl (AO n f,Gx (Bp n f) ((List.range n).drop i) b,())):=by
 intro k
 induction k with
 | zero=>
  intro i fu b h1 h2 hb
  obtain ⟨fu,rfl⟩:∃z,fu=z+1:=⟨fu-1,by omega⟩
  have e:i=n:=by omega
  subst e
  rw [AGi (by simp)]
  show HT N (KT N fu) _=_
  unfold HT
  simp only [Cr,AL,AGb,if_false,Gx]
 | succ k ih=>
  intro i fu b h1 h2 hb
  obtain ⟨fu,rfl⟩:∃z,fu=z+1:=⟨fu-1,by omega⟩
  have hi:i<n:=by omega
  have hd:(List.range n).drop i=i::(List.range n).drop (i+1):=by
   rw [AGj (by simpa using hi)]
   simp
  show HT N (KT N fu) _=_
  unfold HT
  rw [hd]
  simp only [Cr,Az hi,if_true,Ad hi,Int.toNat_natCast,Ea _ hi,Lw hn,Option.bind_some,Dw hi hn,Gx]
  by_cases h1':Bp n f i>=0
  ·rcases hb with hb | ⟨y,hy,rfl⟩
   ·simp only [h1',hb,decide_true,if_true,true_or,and_self]
    exact ih (i+1) fu _ (by omega) (by omega) (.inr ⟨i,hi,rfl⟩)
   ·have hy0:¬(y:Int)<0:=by omega
    by_cases h3':Bp n f i<Bp n f y
    ·simp only [h1',hy0,h3',decide_true,decide_false,AGb,if_true,if_false,Ad hy,Int.toNat_natCast,Ea _ hy,Lw hn,Option.bind_some,or_true,and_self]
     exact ih (i+1) fu _ (by omega) (by omega) (.inr ⟨i,hi,rfl⟩)
    ·simp only [h1',hy0,h3',decide_true,decide_false,AGb,if_true,if_false,Ad hy,Int.toNat_natCast,Ea _ hy,Lw hn,Option.bind_some,or_self,and_false]
     exact ih (i+1) fu _ (by omega) (by omega) (.inr ⟨y,hy,rfl⟩)
  ·simp only [h1',decide_false,AGb,if_false,false_and]
   exact ih (i+1) fu _ (by omega) (by omega) hb
theorem X6 {w:Nat->Int} {n:Nat}:∀{l:List Nat} {b:Int},(∀x∈l,x<n)->(b<0 \/ ∃y:Nat,y<n/\b=(y:Int))->(Gx w l b<0 \/ ∃y:Nat,y<n/\Gx w l b=(y:Int)):=by
 intro l
 induction l with
 | nil=>intro b _ hb;exact hb
 | cons x l ih=>
  intro b h hb
  simp only [Gx]
  split
  ·exact ih (fun y hy=>h y (by simp [hy])) (.inr ⟨x,h x (by simp),rfl⟩)
  ·exact ih (fun y hy=>h y (by simp [hy])) hb
theorem Arn {t:Tt} (ht:AV t=true) {c:Int} (hc:inB 0 1000 c=true):tcB t c=(if Gx (Bp t.1.1.toNat (AQ t (As t c))) (List.range t.1.1.toNat) (-1)<0 then (0,0,false,()) else (Gx (Bp t.1.1.toNat (AQ t (As t c))) (List.range t.1.1.toNat) (-1),Bp t.1.1.toNat (AQ t (As t c)) (Gx (Bp t.1.1.toNat (AQ t (As t c))) (List.range t.1.1.toNat) (-1)).toNat,true,())):=by
 obtain ⟨c0,c1,c2⟩:=HR ht hc
 have hTl:As t c<(AN t).length:=by rw [C8,Bw];exact c2
 have hw:∀x,x<t.1.1.toNat->AW (fun z=>z) (((AN t).getD (As t c) []).getD x []) 0=Bp t.1.1.toNat (AQ t (As t c)) x:=fun x hx=>by
  unfold Bp
  rw [BJ hTl]
  have e1:(AN t)[As t c]=AO t.1.1.toNat (AQ t (As t c)):=FF _ c2 hTl
  rw [e1,BJ (by rw [Cr];exact hx)]
  have:=Ea (AQ t (As t c)) hx
  rw [BC (e:=Ai) (by rw [Cr];exact hx)] at this
  rw [this]
 have hcop:∀(l:List Nat) (b:Int),(∀x∈l,x<t.1.1.toNat)->(b<0 \/ ∃y:Nat,y<t.1.1.toNat/\b=(y:Int))->Gx (fun x:Nat=>AW (fun z=>z) (((AN t).getD (As t c) []).getD x []) 0) l b=Gx (Bp t.1.1.toNat (AQ t (As t c))) l b:=by
  intro l
  induction l with
  | nil=>intro b _ _;rfl
  | cons x l ih=>
   intro b h hb
   have hx:=h x (by simp)
   have hl:=fun y hy=>h y (List.mem_cons_of_mem _ hy)
   simp only [Gx,hw x hx]
   have hbw:(Bp t.1.1.toNat (AQ t (As t c)) x>=0/\(b<0\/Bp t.1.1.toNat (AQ t (As t c)) x<AW (fun z=>z) (((AN t).getD (As t c) []).getD b.toNat []) 0))↔(Bp t.1.1.toNat (AQ t (As t c)) x>=0/\(b<0\/Bp t.1.1.toNat (AQ t (As t c)) x<Bp t.1.1.toNat (AQ t (As t c)) b.toNat)):=by
    rcases hb with hb | ⟨y,hy,rfl⟩
    ·simp [hb]
    ·rw [Int.toNat_natCast,hw y hy]
   by_cases hc':Bp t.1.1.toNat (AQ t (As t c)) x>=0/\(b<0\/Bp t.1.1.toNat (AQ t (As t c)) x<Bp t.1.1.toNat (AQ t (As t c)) b.toNat)
   ·rw [if_pos (hbw.2 hc'),if_pos hc']
    exact ih _ hl (.inr ⟨x,hx,rfl⟩)
   ·rw [if_neg (fun h'=>hc' (hbw.1 h')),if_neg hc']
    exact ih _ hl hb
 unfold tcB
 simp only [ht,hc,Bool.and_self,if_true]
 rw [hcop _ _ (fun x hx=>List.mem_range.1 hx) (.inl (by decide))]
 rcases X6 (w:=Bp t.1.1.toNat (AQ t (As t c))) (n:=t.1.1.toNat) (l:=List.range t.1.1.toNat) (b := -1) (fun x hx=>List.mem_range.1 hx) (.inl (by decide)) with h | ⟨y,hy,h⟩
 ·rw [if_pos h,if_pos h]
 ·rw [h,if_neg (by omega),if_neg (by omega),Int.toNat_natCast,hw y hy]
theorem Zo (d) (r) (h:BO d=some r):∃N,WT N d=some r:=by
 obtain ⟨t,c,_⟩:=d
 unfold BO at h
 split at h
 ·rename_i ho
  have ho:okT t=true:=ho
  have h:=AGg h
  subst h
  refine ⟨20,?_⟩
  unfold WT C7
  simp only [ho,if_true,Option.bind_some,SL]
  cases ht:AV t with
  | false=>simp [tcB,ht]
  | true=>
   cases hc:inB 0 1000 c with
   | false=>simp [tcB,hc]
   | true=>
    obtain ⟨n1,n2,n3,p1,p2,p3,_⟩:=Bi ht
    obtain ⟨c0,c1,c2⟩:=HR ht hc
    have hTl:(AN t).length=t.2.1.toNat:=Bw _ _ _
    have e1:at_ Ag (AN t) (As t c)=AO t.1.1.toNat (AQ t (As t c)):=Fy _ c2
    have key:=Abr 20 t.1.1.toNat n3 (AQ t (As t c)) t.1.1.toNat 0 20 (-1) (by omega) (by omega) (.inl (by decide))
    simp only [Int.natCast_zero,List.drop_zero] at key
    rw [Arn ht hc]
    simp only [Bool.not_true,AGb,if_false,Dl,ht,ho,Bool.and_self,if_true,Option.bind_some,c0,c1,hTl,Ad c2,Int.toNat_natCast,e1,key]
    rcases X6 (w:=Bp t.1.1.toNat (AQ t (As t c))) (n:=t.1.1.toNat) (l:=List.range t.1.1.toNat) (b := -1) (fun x hx=>List.mem_range.1 hx) (.inl (by decide)) with h | ⟨y,hy,h⟩
    ·simp only [h,decide_true,if_true]
    ·have hy0:¬(y:Int)<0:=by omega
     simp only [h,hy0,decide_false,AGb,if_false,Cr,Ad hy,if_true,Int.toNat_natCast,Ea _ hy,Lw n3,Option.bind_some]
 ·cases h
theorem ZC {w:Nat->Int} {x:Nat} {xs:List Nat} {b:Int} (h:w x>=0/\(b<0\/w x<w b.toNat)):Gx w (x::xs) b=Gx w xs (x:Int):=if_pos h
theorem Agv {w:Nat->Int} {x:Nat} {xs:List Nat} {b:Int} (h:¬(w x>=0/\(b<0\/w x<w b.toNat))):Gx w (x::xs) b=Gx w xs b:=if_neg h
theorem Af8 (N:Nat) (n:Nat) (hn:n<=8) (hn0:0<n) (f:Nat->Nat->Int) (hf:∀x y,-1<=f x y):∀(k i fu:Nat) (b l:Int) (fd:Bool),i+k=n->k<fu->(fd=false/\b=0/\l=0\/fd=true /\ ∃y:Nat,y<n/\b=(y:Int)/\l=Bp n f y) ->
  ∃b' l' fd',IJ N fu (b,l,fd,AO n f,(n:Int),(i:Int),())=some (.inl (b',l',fd',())) /\
   (if Gx (Bp n f) ((List.range n).drop i) (bif fd then b else -1)<0 then ((0:Int),(0:Int),false,()) else (Gx (Bp n f) ((List.range n).drop i) (bif fd then b else -1),Bp n f (Gx (Bp n f) ((List.range n).drop i) (bif fd then b else -1)).toNat,true,()))=(b',l',fd',()):=by
 intro k
 induction k with
 | zero=>
  intro i fu b l fd h1 h2 hb
  obtain ⟨fu,rfl⟩:∃z,fu=z+1:=⟨fu-1,by omega⟩
  have e:i=n:=by omega
  subst e
  rw [AGi (by simp)]
  refine ⟨b,l,fd,?_,?_⟩
  ·show Ia N (IJ N fu) _=_
   unfold Ia
   simp only [AL,AGb,if_false]
  ·rcases hb with ⟨rfl,rfl,rfl⟩ | ⟨rfl,y,hy,rfl,rfl⟩
   ·simp [Gx]
   ·have:¬(y:Int)<0:=by omega
    simp [Gx,this]
 | succ k ih=>
  intro i fu b l fd h1 h2 hb
  obtain ⟨fu,rfl⟩:∃z,fu=z+1:=⟨fu-1,by omega⟩
  have hi:i<n:=by omega
  have hd:(List.range n).drop i=i::(List.range n).drop (i+1):=by
   rw [AGj (by simpa using hi)]
   simp
  have hok:okL ((List.range n).map (f i))=true:=Fp (by simp;omega)
  have hlt:i<(AO n f).length:=by rw [Cr];exact hi
  have hst:IJ N (fu+1) (b,l,fd,AO n f,(n:Int),(i:Int),())=Ia N (IJ N fu) (b,l,fd,AO n f,(n:Int),(i:Int),()):=rfl
  rw [hst,hd]
  unfold Ia
  simp only [Az hi,if_true,Cr,Ad hi,Int.toNat_natCast,Ea _ hi,Rf _ _ _ hok,Option.bind_some,Dw hi hn]
  by_cases hneg:((List.range n).map (f i)).any (fun y=>y == -1)=true
  ·have hw:Bp n f i = -1:=by
    rcases B8 (fun z=>z) ((List.range n).map (f i)) 0 with ⟨_,h⟩ | ⟨h,_,_⟩
    ·exact h
    ·obtain ⟨x,hx,hx1⟩:=List.any_eq_true.1 hneg
     have:=(h x hx).1
     have hx1:=beq_iff_eq.1 hx1
     omega
   simp only [hneg,if_true]
   rw [Agv (fun h=>absurd h.1 (by rw [hw];decide))]
   exact ih (i+1) fu b l fd (by omega) (by omega) hb
  ·have hpos:∀x∈(List.range n).map (f i),0<=x:=fun x hx=>by
    obtain ⟨y,hy,rfl⟩:=List.mem_map.1 hx
    have h1:=hf i y
    have h2:f i y ≠ -1:=fun e=>hneg (List.any_eq_true.2 ⟨_,hx,by simp [e]⟩)
    omega
   have hm:=Ar5 () hok (by simpa using hn0) hpos
   have hw0:Bp n f i>=0:=by
    rcases B8 (fun z=>z) ((List.range n).map (f i)) 0 with ⟨⟨x,hx,h⟩,_⟩ | ⟨_,h,_⟩
    ·have:=hpos x hx;omega
    ·exact h
   have hneg':((List.range n).map (f i)).any (fun y=>y == -1)=false:=(Bool.not_eq_true _).mp hneg
   have hm':ST ((List.range n).map (f i),())=some (Bp n f i,()):=hm
   simp only [hneg',AGb,if_false,hm',Option.bind_some]
   rcases hb with ⟨rfl,rfl,rfl⟩ | ⟨rfl,y,hy,rfl,rfl⟩
   ·simp only [Bool.not_false,if_true,cond_false]
    rw [ZC ⟨hw0,.inl (by decide)⟩]
    have:=ih (i+1) fu (i:Int) (Bp n f i) true (by omega) (by omega) (.inr ⟨rfl,i,hi,rfl,rfl⟩)
    exact this
   ·have hy0:¬(y:Int)<0:=by omega
    simp only [Bool.not_true,AGb,if_false,cond_true]
    by_cases h3:Bp n f i<Bp n f y
    ·rw [ZC ⟨hw0,.inr (by rw [Int.toNat_natCast];exact h3)⟩]
     simp only [h3,decide_true,if_true]
     have:=ih (i+1) fu (i:Int) (Bp n f i) true (by omega) (by omega) (.inr ⟨rfl,i,hi,rfl,rfl⟩)
     exact this
    ·rw [Agv (fun h=>by
      rcases h.2 with h | h
      ·exact hy0 h
      ·rw [Int.toNat_natCast] at h;exact h3 h)]
     simp only [h3,decide_false,AGb,if_false]
     have:=ih (i+1) fu (y:Int) (Bp n f y) true (by omega) (by omega) (.inr ⟨rfl,y,hy,rfl,rfl⟩)
     exact this
theorem ZG (d) (r) (h:BO d=some r):∃N,XY N d=some r:=by
 obtain ⟨t,c,_⟩:=d
 unfold BO at h
 split at h
 ·rename_i ho
  have ho:okT t=true:=ho
  have h:=AGg h
  subst h
  refine ⟨20,?_⟩
  unfold XY
  simp only [U5 t _ ho,Option.bind_some,L1]
  cases ht:AV t with
  | false=>simp [tcB,ht]
  | true=>
   cases hc:inB 0 1000 c with
   | false=>simp [tcB,hc]
   | true=>
    obtain ⟨n1,n2,n3,p1,p2,p3,_⟩:=Bi ht
    obtain ⟨c0,c1,c2⟩:=HR ht hc
    have hTl:(AN t).length=t.2.1.toNat:=Bw _ _ _
    have e1:at_ Ag (AN t) (As t c)=AO t.1.1.toNat (AQ t (As t c)):=Fy _ c2
    obtain ⟨b',l',fd',k1,k2⟩:=Af8 20 t.1.1.toNat n3 n2 (AQ t (As t c)) (fun x y=>(EL ht).1.low _ x y) t.1.1.toNat 0 20 0 0 false (by omega) (by omega) (.inl ⟨rfl,rfl,rfl⟩)
    simp only [Int.natCast_zero,List.drop_zero,cond_false] at k1 k2
    rw [Arn ht hc,k2]
    simp only [Bool.not_true,AGb,if_false,Fz ht ho,FZ ht,Option.bind_some,c0,if_true,c1,hTl,Ad c2,Int.toNat_natCast,e1,Cr,k1]
 ·cases h
open Go.Proofs
theorem Ajm {n:Nat} {ball:Int->List Int} (hb:EZ n ball) {f g:Nat->Nat->Int} {t:Int} (ht:1<=t) (hf:∀c q,c<n->q<n->f c q<t) (hg:∀c q,c<n->q<n->g c q=f c q\/(f c q<0/\g c q=t)) {b q:Nat} (hbn:b<n) (hq:q<n) :
  (0<=Aw ball (AO n f) (b:Int) (q:Int)->Aw ball (AO n g) (b:Int) (q:Int)=Aw ball (AO n f) (b:Int) (q:Int)) /\
  (0<=Aw ball (AO n g) (b:Int) (q:Int)->Aw ball (AO n g) (b:Int) (q:Int)=Aw ball (AO n f) (b:Int) (q:Int)\/Aw ball (AO n g) (b:Int) (q:Int)=t):=by
 unfold Aw
 by_cases e:(b:Int)=(q:Int)
 ·rw [if_pos e,if_pos e]
  exact ⟨fun _=>rfl,fun _=>.inl rfl⟩
 ·simp only [if_neg e]
  have key:(∀x∈ball (q:Int),0<=AS (AO n f) (b:Int) x)->AW (AS (AO n g) (b:Int)) (ball (q:Int)) 0=AW (AS (AO n f) (b:Int)) (ball (q:Int)) 0:=fun h=>EI fun x hx=>by
   obtain ⟨y,hy,rfl⟩:=hb q hq x hx
   have:=h _ hx
   rw [Bk _ hbn hy] at this |-
   rw [Bk _ hbn hy]
   rcases hg b y hbn hy with h1 | ⟨h1,_⟩
   ·exact h1
   ·omega
  constructor
  ·intro h0
   rcases B8 (AS (AO n f) (b:Int)) (ball (q:Int)) 0 with ⟨_,h1⟩ | ⟨h1,_,_⟩
   ·omega
   ·exact key fun x hx=>(h1 x hx).1
  ·intro h0
   rcases B8 (AS (AO n g) (b:Int)) (ball (q:Int)) 0 with ⟨_,h1⟩ | ⟨h1,h2,h3⟩
   ·omega
   ·by_cases ha:∀x∈ball (q:Int),0<=AS (AO n f) (b:Int) x
    ·exact .inl (key ha)
    ·right
     obtain ⟨x,hx,hn⟩:∃x∈ball (q:Int),¬0<=AS (AO n f) (b:Int) x:=Classical.byContradiction fun hc=>ha fun x hx=>Classical.byContradiction fun h=>hc ⟨x,hx,h⟩
     obtain ⟨y,hy,rfl⟩:=hb q hq x hx
     rw [Bk _ hbn hy] at hn
     have hy1:=h1 _ hx
     rw [Bk _ hbn hy] at hy1
     have hyt:g b y=t:=by
      rcases hg b y hbn hy with h4 | ⟨_,h4⟩
      ·omega
      ·exact h4
     have hle:AW (AS (AO n g) (b:Int)) (ball (q:Int)) 0<=t:=by
      rcases h3 with h3 | ⟨z,hz,h3⟩
      ·omega
      ·obtain ⟨y2,hy2,rfl⟩:=hb q hq z hz
       rw [h3,Bk _ hbn hy2]
       rcases hg b y2 hbn hy2 with h4 | ⟨_,h4⟩
       ·have:=hf b y2 hbn hy2
        omega
       ·omega
     omega
structure Exa3 (p n:Nat) (ball:Nat->Int->List Int) (t:Int) (f:Nat->Nat->Nat->Int):Prop where
 pos:1<=t
 high:∀r c q,r<p->c<n->q<n->f r c q<t
 none:∀r c q,r<p->c<n->q<n->f r c q<0 -> ∀b∈ball r (c:Int),¬(0<=Aw (ball r) (AO n (f ((r+1) % p))) b (q:Int)/\Aw (ball r) (AO n (f ((r+1) % p))) b (q:Int)<t-1)
 some:∀r c q,r<p->c<n->q<n->1<=f r c q -> ∃b∈ball r (c:Int),0<=Aw (ball r) (AO n (f ((r+1) % p))) b (q:Int)/\Aw (ball r) (AO n (f ((r+1) % p))) b (q:Int)+1=f r c q
 best:∀r c q,r<p->c<n->q<n->0<=f r c q -> ∀b∈ball r (c:Int),0<=Aw (ball r) (AO n (f ((r+1) % p))) b (q:Int)->f r c q<=Aw (ball r) (AO n (f ((r+1) % p))) b (q:Int)+1
theorem Aqd {n:Nat} {ball:Int->List Int} (hb:EZ n ball) {f:Nat->Nat->Int} {t:Int} (ht:1<=t) (hf:∀c q,c<n->q<n->f c q<t) {b q:Nat} (hbn:b<n) (hq:q<n):Aw ball (AO n f) (b:Int) (q:Int)<=t-1:=by
 unfold Aw
 split
 ·omega
 ·rcases B8 (AS (AO n f) (b:Int)) (ball (q:Int)) 0 with ⟨_,h⟩ | ⟨_,_,h | ⟨x,hx,h⟩⟩
  ·omega
  ·omega
  ·obtain ⟨y,hy,rfl⟩:=hb q hq x hx
   rw [Bk f hbn hy] at h
   have:=hf b y hbn hy
   omega
theorem Exa3.next {p n:Nat} {ball:Nat->Int->List Int} (hp:0<p) (hb:Lg p n ball) {t:Int} {f:Nat->Nat->Nat->Int} (hI:Exa3 p n ball t f):Exa3 p n ball (t+1) (Bb p n ball t f):=by
 have ht:=hI.pos
 have hstep:∀r c q,Bb p n ball t f r c q=f r c q\/(f r c q<0/\Bb p n ball t f r c q=t):=fun r c q=>by
  unfold Bb
  split
  ·rename_i h
   unfold Ba at h
   rw [AGc,decide_eq_true_eq] at h
   exact .inr ⟨h.1,rfl⟩
  ·exact .inl rfl
 have hm:∀r,(r+1) % p<p:=fun r=>Nat.mod_lt _ hp
 have hext:∀r b q,r<p->b<n->q<n->_:=fun r b q hr hbn hq=>Ajm (f:=f ((r+1) % p)) (g:=Bb p n ball t f ((r+1) % p)) (hb r hr) ht (fun c q hc hq=>hI.high ((r+1) % p) c q (hm r) hc hq) (fun c q _ _=>hstep ((r+1) % p) c q) hbn hq
 have hlt:∀r b q,r<p->b<n->q<n->_:=fun r b q hr hbn hq=>Aqd (f:=f ((r+1) % p)) (hb r hr) ht (fun c q hc hq=>hI.high ((r+1) % p) c q (hm r) hc hq) (b:=b) (q:=q) hbn hq
 refine ⟨by omega,fun r c q hr hc hq => ?_,fun r c q hr hc hq h b hbm => ?_,fun r c q hr hc hq h => ?_,fun r c q hr hc hq h b hbm h0 => ?_⟩
 ·rcases hstep r c q with h | ⟨_,h⟩
  ·have:=hI.high r c q hr hc hq;omega
  ·omega
 ·obtain ⟨b,hbn,rfl⟩:=hb r hr c hc b hbm
  have hcan:Ba p n ball f r c q=false:=by
   cases hcc:Ba p n ball f r c q with
   | false=>rfl
   | true=>
    have:Bb p n ball t f r c q=t:=by unfold Bb;rw [if_pos hcc]
    omega
  have hfr:f r c q<0:=by
   rcases hstep r c q with h1 | ⟨h1,_⟩
   ·omega
   ·exact h1
  unfold Ba at hcan
  rw [decide_eq_true hfr,Bool.true_and,List.any_eq_false] at hcan
  have hno:=hcan _ hbm
  simp only [decide_eq_true_eq] at hno
  rintro ⟨h1,h2⟩
  rcases (hext r b q hr hbn hq).2 h1 with h3 | h3
  ·rw [h3] at h1
   exact hno h1
  ·omega
 ·rcases hstep r c q with h1 | ⟨h1,h2⟩
  ·rw [h1] at h |-
   obtain ⟨b,hbm,k0,k1⟩:=hI.some r c q hr hc hq h
   obtain ⟨b',hbn,rfl⟩:=hb r hr c hc b hbm
   have:=(hext r b' q hr hbn hq).1 k0
   exact ⟨_,hbm,by rw [this];exact k0,by rw [this];exact k1⟩
  ·have hcc:Ba p n ball f r c q=true:=by
    cases hcc:Ba p n ball f r c q with
    | true=>rfl
    | false=>
     have:Bb p n ball t f r c q=f r c q:=by unfold Bb;rw [if_neg (by simp [hcc])]
     omega
   unfold Ba at hcc
   rw [AGc,List.any_eq_true] at hcc
   obtain ⟨_,b,hbm,hb0⟩:=hcc
   have hb0:=of_decide_eq_true hb0
   obtain ⟨b',hbn,rfl⟩:=hb r hr c hc b hbm
   have h3:=(hext r b' q hr hbn hq).1 hb0
   have h4:=hlt r b' q hr hbn hq
   have h5:=hI.none r c q hr hc hq h1 _ hbm
   exact ⟨_,hbm,by rw [h3];exact hb0,by rw [h3,h2];omega⟩
 ·obtain ⟨b',hbn,rfl⟩:=hb r hr c hc b hbm
  rcases (hext r b' q hr hbn hq).2 h0 with h3 | h3
  ·rw [h3] at h0 |-
   rcases hstep r c q with h1 | ⟨h1,h2⟩
   ·rw [h1] at h |-
    exact hI.best r c q hr hc hq h _ hbm h0
   ·have h5:=hI.none r c q hr hc hq h1 _ hbm
    omega
  ·rcases hstep r c q with h1 | ⟨h1,h2⟩
   ·have:=hI.high r c q hr hc hq
    omega
   ·omega
theorem Exa3.start {p n:Nat} {ball:Nat->Int->List Int} (hb:Lg p n ball):Exa3 p n ball 1 BK:=by
 refine ⟨by omega,fun r c q _ _ _ => ?_,fun r c q _ _ _ _ b _ h=>by omega,fun r c q _ _ _ h => ?_,fun r c q _ _ _ _ b _ h0 => ?_⟩
 ·unfold BK Br;split<;>omega
 ·unfold BK Br at h;split at h<;>omega
 ·have:BK r c q<=0:=by unfold BK Br;split<;>omega
  omega
theorem Aci {p n:Nat} {ball:Nat->Int->List Int} (hp:0<p) (hb:Lg p n ball):∀(k:Nat) (t:Int) (f:Nat->Nat->Nat->Int),Exa3 p n ball t f -> ∃t',Exa3 p n ball t' (Db p n ball k t f):=by
 intro k
 induction k with
 | zero=>intro t f h;exact ⟨t,h⟩
 | succ k ih=>
  intro t f h
  simp only [Db]
  split
  ·exact ih _ _ (h.next hp hb)
  ·exact ⟨t,h⟩
theorem Vb {t:Tt} (ht:AV t=true):∃m,Exa3 t.2.1.toNat t.1.1.toNat (Ay t) m (AQ t):=by
 obtain ⟨n1,n2,n3,p1,p2,p3,_⟩:=Bi ht
 exact Aci (by omega) (Hx t) 520 1 BK (Exa3.start (Hx t))
theorem Zl {t:Tt} (ht:AV t=true) {r c q:Nat} (hr:r<t.2.1.toNat) (hc:c<t.1.1.toNat) (hq:q<t.1.1.toNat) {b:Int} (hb:b∈Ay t r (c:Int)) (h0:0<=Be t r b (q:Int)):0<=AQ t r c q/\AQ t r c q<=Be t r b (q:Int)+1:=by
 obtain ⟨m,hE⟩:=Vb ht
 obtain ⟨hI,hend⟩:=EL ht
 rw [EO ht hr] at h0 |-
 have hpos:0<=AQ t r c q:=by
  by_cases h:0<=AQ t r c q
  ·exact h
  ·exfalso
   have hcan:Ba t.2.1.toNat t.1.1.toNat (Ay t) (AQ t) r c q=true:=by
    unfold Ba
    rw [decide_eq_true (show AQ t r c q<0 by omega),Bool.true_and]
    exact List.any_eq_true.2 ⟨b,hb,decide_eq_true h0⟩
   have:IX t.2.1.toNat t.1.1.toNat (Ba t.2.1.toNat t.1.1.toNat (Ay t) (AQ t))=true:=EH.2 ⟨r,c,q,hr,hc,hq,hcan⟩
   rw [hend] at this
   cases this
 exact ⟨hpos,hE.best r c q hr hc hq hpos b hb h0⟩
theorem SR {t:Tt} (ht:AV t=true) {r c q:Nat} (hr:r<t.2.1.toNat) (hc:c<t.1.1.toNat) (hq:q<t.1.1.toNat) (h:1<=AQ t r c q):∃b∈Ay t r (c:Int),0<=Be t r b (q:Int)/\Be t r b (q:Int)+1=AQ t r c q:=by
 obtain ⟨m,hE⟩:=Vb ht
 obtain ⟨b,h1,h2,h3⟩:=hE.some r c q hr hc hq h
 exact ⟨b,h1,by rw [EO ht hr];exact h2,by rw [EO ht hr];exact h3⟩
open Go.Proofs
theorem I3 {t:Tt} {r:Nat} (hr:r<t.2.1.toNat):(AN t).getD r []=AO t.1.1.toNat (AQ t r):=by
 rw [C8]
 have hl:r<(A7 t.2.1.toNat t.1.1.toNat (AQ t)).length:=by rw [Bw];exact hr
 rw [AGm,AGn hl,Option.getD_some,FF _ hr]
theorem Ajx {n:Nat} {f:Nat->Nat->Int} (h:∀c q,-1<=f c q):F0 (n:Int) (AO n f)=true:=by
 have hsq:sqL n (AO n f)=true:=MU _ _
 obtain ⟨t1,t2⟩:=Cj hsq
 unfold F0
 rw [AGc]
 refine ⟨decide_eq_true (by omega),List.all_eq_true.2 fun row hrow => ?_⟩
 obtain ⟨c,hc,rfl⟩:=List.getElem_of_mem hrow
 have hcn:c<n:=by omega
 have h2:=t2 c hcn
 have e:at_ Ai (AO n f) c=(AO n f)[c]:=AM (e:=Ai) hc
 rw [e] at h2
 unfold Kf
 rw [AGc]
 refine ⟨decide_eq_true (by omega),List.all_eq_true.2 fun v hv=>decide_eq_true ?_⟩
 obtain ⟨q,hq,rfl⟩:=List.getElem_of_mem hv
 have hb:=WY hsq hcn (show q<n by omega)
 rw [e,AM (e:=I) hq,Bk f hcn (by omega)] at hb
 have hb2:(AO n f)[c][q]=f c q:=hb
 have:=h c q
 omega
theorem ABh {t:Tt} (ht:AV t=true):tpB t (AN t)=(true,true,()):=by
 obtain ⟨n1,n2,n3,p1,p2,p3,_⟩:=Bi ht
 obtain ⟨hI,_⟩:=EL ht
 unfold tpB
 rw [if_pos ht]
 have hform:Hg t.1.1 t.2.1 (AN t)=true:=by
  unfold Hg
  rw [AGc]
  refine ⟨List.all_eq_true.2 fun T hT => ?_,decide_eq_true ?_⟩
  ·obtain ⟨r,hr,rfl⟩:=List.getElem_of_mem hT
   rw [C8,Bw] at hr
   have:=I3 hr
   rw [AGm,AGn (by rw [C8,Bw];exact hr),Option.getD_some] at this
   rw [this,n1]
   exact Ajx fun c q=>hI.low r c q
  ·rw [C8,Bw];omega
 have hall:W6 t.2.1.toNat t.1.1.toNat (fun r c q=>Ct (Bx t.1.1.toNat (Bv t (r:Int))) (Cw t.2.1.toNat (AN t) (r:Int)) (AS ((AN t).getD r []) (c:Int) (q:Int)) (c:Int) (q:Int))=true:=by
  unfold W6
  refine List.all_eq_true.2 fun r hr=>List.all_eq_true.2 fun c hc=>List.all_eq_true.2 fun q hq => ?_
  have hr:=List.mem_range.1 hr
  have hc:=List.mem_range.1 hc
  have hq:=List.mem_range.1 hq
  show Ct (Bx t.1.1.toNat (Bv t (r:Int))) (Cw t.2.1.toNat (AN t) (r:Int)) (AS ((AN t).getD r []) (c:Int) (q:Int)) (c:Int) (q:Int)=true
  rw [I3 hr,Bk _ hc hq]
  unfold Ct
  by_cases h:AQ t r c q<=0
  ·rw [if_pos h]
   by_cases h0:AQ t r c q<0
   ·rw [decide_eq_true h0,Bool.true_or]
   ·have hcq:c=q:=Classical.byContradiction fun hne=>hI.away r c q hne (by omega)
    subst hcq
    simp
  ·rw [if_neg h]
   obtain ⟨b,hb,k0,k1⟩:=SR ht hr hc hq (by omega)
   exact List.any_eq_true.2 ⟨b,hb,by
    show (decide (0<=Be t r b (q:Int))&&decide (Be t r b (q:Int)<AQ t r c q))=true
    rw [decide_eq_true k0,decide_eq_true (show Be t r b (q:Int)<AQ t r c q by omega),Bool.and_self]⟩
 rw [hform,hall,Bool.and_self]
theorem Arh {t:Tt} (ht:AV t=true) {T:List Tab} (h:(tpB t T).1=true):T.length=t.2.1.toNat/\(∀r,r<t.2.1.toNat->sqL t.1.1.toNat (T.getD r [])=true) /\
  ∀r c q,r<t.2.1.toNat->c<t.1.1.toNat->q<t.1.1.toNat->0<=AS (T.getD r []) (c:Int) (q:Int)->0<=AQ t r c q/\AQ t r c q<=AS (T.getD r []) (c:Int) (q:Int):=by
 obtain ⟨n1,n2,n3,p1,p2,p3,_⟩:=Bi ht
 obtain ⟨hI,_⟩:=EL ht
 unfold tpB at h
 rw [if_pos ht,AGc] at h
 obtain ⟨hform,hall⟩:=h
 unfold Hg at hform
 rw [AGc] at hform
 have hlen:T.length=t.2.1.toNat:=by have:=of_decide_eq_true hform.2;omega
 have hsq:∀r,r<t.2.1.toNat->sqL t.1.1.toNat (T.getD r [])=true:=fun r hr=>by
  have hr2:r<T.length:=by omega
  rw [AGm,AGn hr2,Option.getD_some]
  have:=List.all_eq_true.1 hform.1 _ (AGk hr2)
  unfold F0 at this
  rw [AGc] at this
  unfold sqL
  rw [AGc]
  refine ⟨decide_eq_true (by have:=of_decide_eq_true this.1;omega),List.all_eq_true.2 fun row hrow=>decide_eq_true ?_⟩
  have h2:=List.all_eq_true.1 this.2 row hrow
  unfold Kf at h2
  rw [AGc] at h2
  have:=of_decide_eq_true h2.1
  omega
 refine ⟨hlen,hsq,?_⟩
 have main:∀(v:Nat) r c q,r<t.2.1.toNat->c<t.1.1.toNat->q<t.1.1.toNat->0<=AS (T.getD r []) (c:Int) (q:Int)->AS (T.getD r []) (c:Int) (q:Int)<(v:Int)->0<=AQ t r c q/\AQ t r c q<=AS (T.getD r []) (c:Int) (q:Int):=by
  intro v
  induction v with
  | zero=>intro r c q _ _ _ h1 h2;omega
  | succ v ih=>
   intro r c q hr hc hq h1 h2
   have hp:Ct (Bx t.1.1.toNat (Bv t (r:Int))) (Cw t.2.1.toNat T (r:Int)) (AS (T.getD r []) (c:Int) (q:Int)) (c:Int) (q:Int)=true:=List.all_eq_true.1 (List.all_eq_true.1 (List.all_eq_true.1 hall r (List.mem_range.2 hr)) c (List.mem_range.2 hc)) q (List.mem_range.2 hq)
   unfold Ct at hp
   by_cases h0:AS (T.getD r []) (c:Int) (q:Int)<=0
   ·rw [if_pos h0,Bool.or_eq_true,decide_eq_true_eq,decide_eq_true_eq] at hp
    rcases hp with hp | hp
    ·omega
    ·have hcq:c=q:=by omega
     subst hcq
     rw [hI.home r c]
     exact ⟨Int.le_refl _,h1⟩
   ·rw [if_neg h0] at hp
    obtain ⟨b,hb,hb2⟩:=List.any_eq_true.1 hp
    rw [AGc,decide_eq_true_eq,decide_eq_true_eq] at hb2
    obtain ⟨k0,k1⟩:=hb2
    have hbm:b∈Ay t r (c:Int):=hb
    obtain ⟨b',hbn,rfl⟩:=(Hx t) r hr c hc b hbm
    have hm:(r+1) % t.2.1.toNat<t.2.1.toNat:=Nat.mod_lt _ (by omega)
    obtain ⟨hx,hnx⟩:=RJ (T:=T) hlen (show t.2.1.toNat<=8 by omega) hr
    have hnext:Cw t.2.1.toNat T (r:Int)=T.getD ((r+1) % t.2.1.toNat) []:=by
     rw [hnx,AGm,AGn hx,Option.getD_some]
    rw [hnext] at k0 k1
    have hafter:0<=Be t r (b':Int) (q:Int)/\Be t r (b':Int) (q:Int)<=Aw (Bx t.1.1.toNat (Bv t (r:Int))) (T.getD ((r+1) % t.2.1.toNat) []) (b':Int) (q:Int):=by
     rw [EO ht hr]
     unfold Aw at k0 k1 |-
     by_cases e:(b':Int)=(q:Int)
     ·simp only [if_pos e];exact ⟨Int.le_refl _,Int.le_refl _⟩
     ·simp only [if_neg e] at k0 k1 |-
      rcases B8 (AS (T.getD ((r+1) % t.2.1.toNat) []) (b':Int)) (Bx t.1.1.toNat (Bv t (r:Int)) (q:Int)) 0 with ⟨_,h3⟩ | ⟨h3,_,_⟩
      ·omega
      ·have hall2:∀x∈Ay t r (q:Int),0<=AS (AO t.1.1.toNat (AQ t ((r+1) % t.2.1.toNat))) (b':Int) x/\AS (AO t.1.1.toNat (AQ t ((r+1) % t.2.1.toNat))) (b':Int) x<=AW (AS (T.getD ((r+1) % t.2.1.toNat) []) (b':Int)) (Bx t.1.1.toNat (Bv t (r:Int)) (q:Int)) 0:=fun x hx=>by
        obtain ⟨y,hy,rfl⟩:=(Hx t) r hr q hq x hx
        obtain ⟨h4,h5⟩:=h3 _ hx
        rw [Bk _ hbn hy]
        obtain ⟨h6,h7⟩:=ih _ b' y hm hbn hy h4 (by omega)
        exact ⟨h6,by omega⟩
       rcases B8 (AS (AO t.1.1.toNat (AQ t ((r+1) % t.2.1.toNat))) (b':Int)) (Ay t r (q:Int)) 0 with ⟨⟨x,hx,h4⟩,_⟩ | ⟨_,h4,h5⟩
       ·have:=(hall2 x hx).1;omega
       ·refine ⟨h4,?_⟩
        rcases h5 with h5 | ⟨x,hx,h5⟩
        ·rw [h5];exact k0
        ·rw [h5];exact (hall2 x hx).2
    obtain ⟨h8,h9⟩:=Zl ht hr hc hq hbm hafter.1
    exact ⟨h8,by omega⟩
 exact fun r c q hr hc hq h0=>main ((AS (T.getD r []) (c:Int) (q:Int)).toNat+1) r c q hr hc hq h0 (by omega)
theorem X5:∀es:List E,Hz es (List.replicate es.length [0]) 0=es:=by
 intro es
 induction es with
 | nil=>rfl
 | cons e es ih=>
  rw [List.length_cons,List.replicate_succ]
  unfold Hz
  rw [if_pos (by simp),ih]
theorem V5 {n:Nat} {ball:Nat->Int->List Int} (hb:EZ n (ball 0)):∀(k k2:Nat) (t:Int) (f:Nat->Nat->Nat->Int),LC n (f 0)<k->LC n (f 0)<k2->0<=t ->
  AO n (Db 1 n ball k t f 0)=AO n (Pa n (ball 0) k2 t (f 0)):=by
 intro k
 induction k with
 | zero=>intro k2 t f h;omega
 | succ k ih=>
  intro k2 t f h1 h2 ht
  obtain ⟨k2,rfl⟩:∃m,k2=m+1:=⟨k2-1,by omega⟩
  simp only [Db,Pa]
  have hc:∀c q,Ba 1 n ball f 0 c q=JF n (ball 0) (f 0) c q:=fun c q=>rfl
  have ha:IX 1 n (Ba 1 n ball f)=UD n (JF n (ball 0) (f 0)):=by
   unfold IX UD
   simp only [List.range_one,List.any_cons,List.any_nil,Bool.or_false]
   rfl
  rw [ha]
  by_cases h:UD n (JF n (ball 0) (f 0))=true
  ·rw [if_pos h,if_pos h]
   have hs:=Vo (ball:=ball 0) ht h
   have he:Bb 1 n ball t f 0=ED n (ball 0) t (f 0):=rfl
   have:=ih k2 (t+1) (Bb 1 n ball t f) (by rw [he];omega) (by rw [he];omega) (by omega)
   rw [he] at this
   exact this
  ·rw [if_neg h,if_neg h]
theorem UK {n:Nat} (hn:n<=8) (es:List E) (u v:Unit):AN (((n:Int),es,u),1,List.replicate es.length [0],v)=[EX n (Bx n es)]:=by
 unfold AN NB A7 EX
 have e1:(1:Int).toNat=1:=rfl
 simp only [Int.toNat_natCast,e1,List.range_one,List.map_cons,List.map_nil]
 have hball:Ay (((n:Int),es,u),1,List.replicate es.length [0],v) 0=Bx n es:=by
  unfold Ay Bv
  simp only [Int.toNat_natCast,Int.natCast_zero,X5]
 have h1:=Wd n Br
 have h2:n*n<=64:=by
  have:=Nat.mul_le_mul hn hn
  omega
 have:=V5 (n:=n) (ball:=Ay (((n:Int),es,u),1,List.replicate es.length [0],v)) (by rw [hball];exact Kt n es) 520 65 1 BK (by show LC n Br<520;omega) (by show LC n Br<65;omega) (by omega)
 rw [this,hball]
 rfl
open Go.Proofs
theorem ACa (N:Nat) (a b:List Tab) (hab:a.length=b.length) (hok:a.all DV=true) (hmx:a.length<=maxLen):∀k i f:Nat,i+k=a.length->k<f ->
  ∃o:Em,Dy N f (a,b,(i:Int),())=some o/\((o=.inl (false,())/\a.drop i≠b.drop i)\/(o=.inr (.inl ())/\a.drop i=b.drop i)):=by
 intro k
 induction k with
 | zero=>
  intro i f h1 h2
  obtain ⟨f,rfl⟩:∃m,f=m+1:=⟨f-1,by omega⟩
  have e:i=a.length:=by omega
  refine ⟨.inr (.inl ()),?_,.inr ⟨rfl,by rw [AGi (by omega),AGi (by omega)]⟩⟩
  subst e
  show Ds _ _ _=_
  unfold Ds
  simp only [AL,AGb,if_false]
 | succ k ih=>
  intro i f h1 h2
  obtain ⟨f,rfl⟩:∃m,f=m+1:=⟨f-1,by omega⟩
  have hi:i<a.length:=by omega
  have hi2:i<b.length:=by omega
  have ea:at_ Ag a i=a[i]:=AM (e:=Ag) hi
  have eb:at_ Ag b i=b[i]:=AM (e:=Ag) hi2
  have hoi:DV a[i]=true:=List.all_eq_true.1 hok _ (AGk hi)
  obtain ⟨o,o1,o2⟩:=ih (i+1) f (by omega) (by omega)
  rw [AGj hi,AGj hi2]
  have step:Dy N (f+1) (a,b,(i:Int),())=if (!decide (a[i]=b[i]))=true then some (.inl (false,())) else Dy N f (a,b,((i+1:Nat):Int),()):=by
   show Ds _ _ _=_
   unfold Ds
   simp only [Az hi,if_true,Ad hi,Ad hi2,Int.toNat_natCast,ea,eb,FJ,hoi,Option.bind_some,A1 hi hmx]
  rw [step]
  by_cases e:a[i]=b[i]
  ·have:(!decide (a[i]=b[i]))=false:=by simp [e]
   rw [this]
   simp only [AGb,if_false]
   refine ⟨o,o1,?_⟩
   rcases o2 with ⟨p1,p2⟩ | ⟨p1,p2⟩
   ·exact .inl ⟨p1,fun h=>p2 (List.cons.inj h).2⟩
   ·exact .inr ⟨p1,by rw [e,p2]⟩
  ·have:(!decide (a[i]=b[i]))=true:=by simp [e]
   rw [this]
   simp only [if_true]
   exact ⟨_,rfl,.inl ⟨rfl,fun h=>e (List.cons.inj h).1⟩⟩
theorem Aln (d) (r) (h:Dh d=some r):∃N,Gf N d=some r:=by
 obtain ⟨a,b,_⟩:=d
 unfold Dh at h
 split at h
 ·rename_i hl
  have hl:Ja a=true:=hl
  obtain ⟨hl1,hl2⟩:=WW hl
  have hmx:=Acf hl1
  have h:=AGg h
  subst h
  refine ⟨a.length+1,?_⟩
  unfold Gf
  by_cases hne:a.length=b.length
  ·have e:((a.length:Int) != (b.length:Int))=false:=by simp;omega
   obtain ⟨o,o1,o2⟩:=ACa (a.length+1) a b hne hl2 hmx a.length 0 (a.length+1) (by omega) (by omega)
   simp only [Int.natCast_zero,List.drop_zero] at o1 o2
   simp only [e,AGb,if_false,o1,Option.bind_some]
   rcases o2 with ⟨rfl,h2⟩ | ⟨rfl,h2⟩
   ·simp only [h2,decide_false]
   ·simp only [h2,decide_true]
  ·have e:((a.length:Int) != (b.length:Int))=true:=by simp;omega
   have h2:¬a=b:=fun h=>hne (by rw [h])
   simp only [e,if_true,h2,decide_false]
 ·cases h
theorem Ame (after:Int->Int):∀(l:List Int) (b p:Int),Cs after l b p=Ij after l b p:=by
 intro l
 induction l with
 | nil=>intro b p;rfl
 | cons d l ih=>
  intro b p
  unfold Cs Ij
  by_cases h:0<=after d/\(b<0\/after d<p)
  ·rw [if_pos h,if_pos (show after d>=0/\(b<0\/after d<p) from h)]
   exact ih _ _
  ·rw [if_neg h,if_neg (show ¬(after d>=0/\(b<0\/after d<p)) from h)]
   exact ih _ _
theorem X7 {p n:Nat} {ball:Nat->Int->List Int}:∀(k:Nat) (t:Int) (f:Nat->Nat->Nat->Int),(∀r c q,f r c q<=t) -> ∀r c q,Db p n ball k t f r c q<=t+k:=by
 intro k
 induction k with
 | zero=>intro t f h r c q;have:=h r c q;simp only [Db];omega
 | succ k ih=>
  intro t f h r c q
  simp only [Db]
  split
  ·have:=ih (t+1) (Bb p n ball t f) (fun r c q=>by
    unfold Bb
    split
    ·omega
    ·have:=h r c q;omega) r c q
   omega
  ·have:=h r c q;omega
theorem Uh (t:Tt) (r c q:Nat):AQ t r c q<=521:=by
 have:=X7 (p:=t.2.1.toNat) (n:=t.1.1.toNat) (ball:=Ay t) 520 1 BK (fun r c q=>by unfold BK Br;split<;>omega) r c q
 unfold AQ
 omega
theorem Afk {t:Tt} (ht:AV t=true) {r x y:Nat} (hr:r<t.2.1.toNat) (hx:x<t.1.1.toNat) (hy:y<t.1.1.toNat) (hne:x≠y) (h:0<=Cs (fun z=>Be t r z (y:Int)) (Ay t r (x:Int)) (-1) 0) :
  ∃b:Nat,b<t.1.1.toNat/\Cs (fun z=>Be t r z (y:Int)) (Ay t r (x:Int)) (-1) 0=(b:Int)/\0<=Be t r (b:Int) (y:Int)/\AQ t r x y=Be t r (b:Int) (y:Int)+1:=by
 rw [Ame] at h |-
 have hm:Ij (fun z=>Be t r z (y:Int)) (Ay t r (x:Int)) (-1) 0∈Ay t r (x:Int):=by
  rcases Ai8 (fun z=>Be t r z (y:Int)) (Ay t r (x:Int)) (-1) 0 with h1 | h1
  ·omega
  ·exact h1
 obtain ⟨m1,m2,_⟩:=Ajd (fun z=>Be t r z (y:Int)) (Ay t r (x:Int)) (-1) 0 (by omega) (fun d hd=>by
  obtain ⟨d',_,rfl⟩:=(Fq (t:=t) (r:=r) hx).2 d hd
  omega) h
 obtain ⟨b,hb,eb⟩:=(Fq (t:=t) (r:=r) hx).2 _ hm
 rw [eb] at hm m1 m2 |-
 have m1:0<=Be t r (b:Int) (y:Int):=m1
 obtain ⟨g1,g2⟩:=Zl ht hr hx hy hm m1
 have hI:=(EL ht).1
 have g3:=hI.away r x y hne
 obtain ⟨d,d1,d2,d3⟩:=SR ht hr hx hy (show 1<=AQ t r x y by omega)
 have d4:Be t r (b:Int) (y:Int)<=Be t r d (y:Int):=m2 d d1 d2
 exact ⟨b,hb,rfl,m1,by omega⟩
theorem Nc {t:Tt} (ht:AV t=true) {r c q:Nat} (hr:r<t.2.1.toNat) (hc:c<t.1.1.toNat) (hq:q<t.1.1.toNat):(at_ Ag (AN t) r).length=t.1.1.toNat/\(at_ Ai (at_ Ag (AN t) r) c).length=t.1.1.toNat/\at_ I (at_ Ai (at_ Ag (AN t) r) c) q=AQ t r c q:=by
 have e:at_ Ag (AN t) r=AO t.1.1.toNat (AQ t r):=by rw [C8];exact Fy _ hr
 rw [e]
 have hsq:sqL t.1.1.toNat (AO t.1.1.toNat (AQ t r))=true:=MU _ _
 obtain ⟨t1,t2⟩:=Cj hsq
 refine ⟨t1,t2 c hc,?_⟩
 rw [WY hsq hc hq,Bk _ hc hq]
open Go.Proofs
theorem ACu (x:Int):0<=bits .and .u64 x 255/\bits .and .u64 x 255<=255:=by
 have h:bits .and .u64 x 255=IntKind.wrap .u64 ((BitVec.ofInt 64 x&&&BitVec.ofInt 64 255).toNat:Int):=rfl
 have e:(BitVec.ofInt 64 x&&&BitVec.ofInt 64 255).toNat<=255:=by
  rw [BitVec.toNat_and]
  have:(BitVec.ofInt 64 255).toNat=255:=by decide
  rw [this]
  exact Nat.and_le_right
 rw [h]
 generalize (BitVec.ofInt 64 x&&&BitVec.ofInt 64 255).toNat=m at e
 unfold IntKind.wrap
 simp [IntKind.bits,IntKind.signed]
 omega
theorem Ah8 {c:Cur} {u:Unit} (h:JC c) (hf:c.2.1<=Ge):Ok (P6 0 (c,u)) fun r=>0<=r.1/\r.1<=255/\Adv 1 c r.2.1:=by
 obtain ⟨l,a,s,_⟩:=c
 obtain ⟨hb,ha⟩:=h
 simp only at hb ha hf
 unfold Ge at hf
 have w1:IntKind.wrap .i64 (a+1)=a+1:=Bj _ (by omega) (by omega)
 have hx:=ACu
 have w2:∀x:Int,IntKind.wrap .i64 (bits .and .u64 x 255)=bits .and .u64 x 255:=fun x=>Bj _ (by have:=(hx x).1;omega) (by have:=(hx x).2;omega)
 have adv:∀s',Adv 1 (l,a,s,()) (l,a+1,s',()):=fun s'=>⟨⟨hb,by simp only;omega⟩,by simp only;omega⟩
 unfold P6
 simp only [w1,w2]
 refine Ok.ite (fun h1 => ?_) (fun h1 => ?_)
 ·have h1:a<l.length:=of_decide_eq_true h1
  refine Ok.pos (by unfold Af;simp;omega) ?_
  obtain ⟨v,hv⟩:∃v:Int,at_ (.int .u8) l a.toNat=v:=⟨_,rfl⟩
  have hv':0<=v/\v<=255:=by
   have hlt:a.toNat<l.length:=by omega
   rw [AM (e:=.int .u8) hlt] at hv
   rw [<- hv]
   exact hb _ (AGk hlt)
  rw [hv]
  have w3:IntKind.wrap .i64 v=v:=Bj _ (by omega) (by omega)
  simp only [w3]
  refine Ok.ite (fun _=>Ok.some ⟨hv'.1,hv'.2,adv _⟩) (fun _=>Ok.pos rfl (Ok.some ⟨(hx _).1,(hx _).2,adv _⟩))
 ·refine Ok.ite (fun _=>Ok.some ⟨by simp,by simp,adv _⟩) (fun _=>Ok.pos rfl (Ok.some ⟨(hx _).1,(hx _).2,adv _⟩))
theorem Aha {x n:Int} (h:0<=x) (hn:0<n):0<=x.tmod n/\x.tmod n<n:=by
 rw [Int.tmod_eq_emod_of_nonneg h]
 exact ⟨Int.emod_nonneg _ (by omega),Int.emod_lt_of_pos _ hn⟩
theorem Cc {c:Cur} {n:Int} {u:Unit} (h:JC c) (hf:c.2.1+2<=Ge):Ok (BU 0 (c,n,u)) fun r=>0<=r.1/\(r.1<n\/r.1=0)/\Adv 2 c r.2.1:=by
 unfold BU
 simp only
 refine Ok.ite (fun h1=>Ok.some ⟨Int.le_refl _,.inr rfl,h,by simp only;omega⟩) (fun h1 => ?_)
 have h1:¬n<=1:=of_decide_eq_false h1
 have hn:(n != 0)=true:=by simp;omega
 refine Ok.bind (Ah8 h (by omega)) fun r hr => ?_
 obtain ⟨r1,r2,r3⟩:=hr
 refine Ok.ite (fun h2 => ?_) (fun h2 => ?_)
 ·have w1:IntKind.wrap .i64 (r.1*256)=r.1*256:=Bj _ (by omega) (by omega)
  refine Ok.bind (Ah8 r3.1 (by have:=r3.2;omega)) fun q hq => ?_
  obtain ⟨q1,q2,q3⟩:=hq
  have w2:IntKind.wrap .i64 (r.1*256+q.1)=r.1*256+q.1:=Bj _ (by omega) (by omega)
  refine Ok.pos hn (Ok.some ?_)
  rw [w1,w2]
  have:=Aha (x:=r.1*256+q.1) (n:=n) (by omega) (by omega)
  exact ⟨this.1,.inl this.2,(r3.trans q3).le (by omega)⟩
 ·refine Ok.pos hn (Ok.some ?_)
  have:=Aha (x:=r.1) (n:=n) (by omega) (by omega)
  exact ⟨this.1,.inl this.2,r3.le (by omega)⟩
theorem SV {c:Cur} {n:Int} {u:Unit} (h:JC c) (hf:c.2.1+2<=Ge):Ok (F4 0 (c,n,u)) fun r=>Adv 2 c r.2.1:=by
 unfold F4
 simp only
 exact Ok.bind (Cc h hf) fun r hr=>Ok.some hr.2.2
theorem Ei {c:Cur} {l:List Int} {u:Unit} (h:JC c) (hf:c.2.1+2<=Ge) (hl:0<l.length):Ok (CD 0 (c,l,u)) fun r=>r.1∈l/\Adv 2 c r.2.1:=by
 unfold CD
 simp only
 refine Ok.bind (Cc h hf) fun r hr => ?_
 obtain ⟨r1,r2,r3⟩:=hr
 have hlt:r.1.toNat<l.length:=by omega
 refine Ok.pos (by unfold Af;simp;omega) (Ok.some ⟨?_,r3⟩)
 rw [AM (e:=I) hlt]
 exact AGk hlt
open Go.Proofs
theorem AD0 (N:Nat) (n:Nat) (hn:n<=8) (z:Gr) (a:Int):∀k x f (es:List E),x+k=n->k<f->es.length<=x -> ∃es',Nj N f ((n:Int),z,(a,es,()),(x:Int),())=some (.inl (z,(a,es',()),()))/\es'.length<=100:=by
 intro k
 induction k with
 | zero=>
  intro x f es h1 h2 h3
  obtain ⟨f,rfl⟩:∃m,f=m+1:=⟨f-1,by omega⟩
  refine ⟨es,?_,by omega⟩
  have hlt:decide (((x+1:Nat):Int)<(n:Int))=false:=decide_eq_false (by omega)
  show Et _ _ _=_
  unfold Et
  simp only [A0 (show x<=100000 by omega),hlt,AGb,if_false]
 | succ k ih=>
  intro x f es h1 h2 h3
  obtain ⟨f,rfl⟩:∃m,f=m+1:=⟨f-1,by omega⟩
  by_cases hx:x+1<n
  ·have hlt:decide (((x+1:Nat):Int)<(n:Int))=true:=decide_eq_true (by omega)
   have hle:∀e:E,decide (es.length+List.length [e]<=lim)=true:=fun e=>by unfold lim;simp;omega
   obtain ⟨es',e1,e2⟩:=ih (x+1) f (es++[((x:Int),((x+1:Nat):Int),())]) (by omega) (by omega) (by simp;omega)
   refine ⟨es',?_,e2⟩
   rw [<- e1]
   show Et _ _ _=_
   unfold Et
   simp only [A0 (show x<=100000 by omega),hlt,if_true,hle]
  ·refine ⟨es,?_,by omega⟩
   have hlt:decide (((x+1:Nat):Int)<(n:Int))=false:=decide_eq_false (by omega)
   show Et _ _ _=_
   unfold Et
   simp only [A0 (show x<=100000 by omega),hlt,AGb,if_false]
theorem Ag8 (n:Nat) (hn:n<=8):Ok (CW Fu Ev ((n:Int),())) (Ev ((n:Int),())):=by
 refine Ok.pick 20 ?_
 obtain ⟨es,e1,e2⟩:=AD0 20 n hn (0,[],()) (n:Int) n 0 20 [] (by omega) (by omega) (by simp)
 refine ⟨(((n:Int),es,()),()),?_,e2⟩
 unfold Fu
 simp only [Int.natCast_zero] at e1
 simp only [e1,Option.bind_some]
theorem AD4 (N:Nat) (n:Nat) (hn:n<=8) (z:Gr) (a:Int) (x:Int):∀k y f (es:List E),y+k=n->k<f->es.length+k<=1000 -> ∃es',SD N f ((n:Int),z,(a,es,()),x,(y:Int),())=some (.inl ((n:Int),z,(a,es',()),x,()))/\es'.length=es.length+k:=by
 intro k
 induction k with
 | zero=>
  intro y f es h1 h2 h3
  obtain ⟨f,rfl⟩:∃m,f=m+1:=⟨f-1,by omega⟩
  refine ⟨es,?_,by omega⟩
  have hlt:decide ((y:Int)<(n:Int))=false:=decide_eq_false (by omega)
  show H4 _ _ _=_
  unfold H4
  simp only [hlt,AGb,if_false]
 | succ k ih=>
  intro y f es h1 h2 h3
  obtain ⟨f,rfl⟩:∃m,f=m+1:=⟨f-1,by omega⟩
  have hlt:decide ((y:Int)<(n:Int))=true:=decide_eq_true (by omega)
  have hle:∀e:E,decide (es.length+List.length [e]<=lim)=true:=fun e=>by unfold lim;simp;omega
  obtain ⟨es',e1,e2⟩:=ih (y+1) f (es++[(x,(y:Int),())]) (by omega) (by omega) (by simp;omega)
  refine ⟨es',?_,by rw [e2];simp;omega⟩
  rw [<- e1]
  show H4 _ _ _=_
  unfold H4
  simp only [hlt,if_true,hle,A0 (show y<=100000 by omega)]
theorem AD1 (N:Nat) (hN:20<=N) (n:Nat) (hn:n<=8) (z:Gr) (a:Int):∀k x f (es:List E),x+k=n->k<f->es.length<=8*x -> ∃es',Sl N f ((n:Int),z,(a,es,()),(x:Int),())=some (.inl (z,(a,es',()),()))/\es'.length<=100:=by
 intro k
 induction k with
 | zero=>
  intro x f es h1 h2 h3
  obtain ⟨f,rfl⟩:∃m,f=m+1:=⟨f-1,by omega⟩
  refine ⟨es,?_,by omega⟩
  have hlt:decide ((x:Int)<(n:Int))=false:=decide_eq_false (by omega)
  show HU _ _ _=_
  unfold HU
  simp only [hlt,AGb,if_false]
 | succ k ih=>
  intro x f es h1 h2 h3
  obtain ⟨f,rfl⟩:∃m,f=m+1:=⟨f-1,by omega⟩
  have hlt:decide ((x:Int)<(n:Int))=true:=decide_eq_true (by omega)
  obtain ⟨e1,q1,q2⟩:=AD4 N n hn z a (x:Int) (n-(x+1)) (x+1) N es (by omega) (by omega) (by omega)
  obtain ⟨es',r1,r2⟩:=ih (x+1) f e1 (by omega) (by omega) (by omega)
  refine ⟨es',?_,r2⟩
  rw [<- r1]
  show HU _ _ _=_
  unfold HU
  simp only [hlt,if_true,A0 (show x<=100000 by omega),q1,Option.bind_some]
theorem Aq1 (n:Nat) (hn:n<=8):Ok (CW Je Ev ((n:Int),())) (Ev ((n:Int),())):=by
 refine Ok.pick 20 ?_
 obtain ⟨es,e1,e2⟩:=AD1 20 (by omega) n hn (0,[],()) (n:Int) n 0 20 [] (by omega) (by omega) (by simp)
 refine ⟨(((n:Int),es,()),()),?_,e2⟩
 unfold Je
 simp only [Int.natCast_zero] at e1
 simp only [e1,Option.bind_some]
open Go.Proofs
theorem Aoa {c:Cur} {n:Int} {es:List E} {v u:Unit} (h:JC c) (hf:c.2.1+20<=Ge) (hl:es.length<=150):Ok (Cm 0 (c,(n,es,v),u)) fun r=>r.1.2.1.length<=es.length+1/\Adv 10 c r.2.1:=by
 unfold Cm
 simp only
 have hle:∀e:E,decide (es.length+List.length [e]<=lim)=true:=fun e=>by unfold lim;simp;omega
 refine Ok.bind (Cc h (by omega)) fun r hr => ?_
 obtain ⟨r1,r2,r3⟩:=hr
 have q3:=r3.2
 refine Ok.ite (fun _ => ?_) fun _=>Ok.ite (fun _ => ?_) fun _=>Ok.ite (fun _ => ?_) fun _ => ?_
 ·refine Ok.bind (Ei r3.1 (by omega) (by simp)) fun s hs=>Ok.some ⟨by simp,(r3.trans hs.2).le (by omega)⟩
 ·refine Ok.bind (Cc r3.1 (by omega)) fun s hs => ?_
  have s3:=hs.2.2.2
  refine Ok.bind (Cc hs.2.2.1 (by omega)) fun t ht => ?_
  refine Ok.pos (hle _) (Ok.some ⟨by simp,((r3.trans hs.2.2).trans ht.2.2).le (by omega)⟩)
 ·refine Ok.ite (fun hp => ?_) fun _=>Ok.some ⟨by simp,r3.le (by omega)⟩
  have hp:=of_decide_eq_true hp
  refine Ok.bind (Cc r3.1 (by omega)) fun s hs => ?_
  obtain ⟨s1,s2,s3⟩:=hs
  refine Ok.pos (by unfold Af;simp;omega) (Ok.pos (hle _) (Ok.some ⟨by simp,(r3.trans s3).le (by omega)⟩))
 ·exact Ok.some ⟨by simp,r3.le (by omega)⟩
open Go.Proofs
theorem Aiz (e:E):∀l:List E,(Agg e l).length=l.length+1:=by
 intro l
 induction l with
 | nil=>rfl
 | cons a l ih=>unfold Agg;split<;>simp [ih]
theorem Ady {es:List E} {e:E} {u:Unit} (h:es.length<=1000):Ok (Hf (es,e,u)) fun r=>r.1.length=es.length+1:=by
 unfold Hf
 rw [if_pos (decide_eq_true h)]
 exact Ok.some (Aiz _ _)
theorem Ax3 {g:Gr} {x y:Int} {u:Unit} (h:g.2.1.length<=1000):Ok (FI (g,x,y,u)) fun _=>True:=by
 unfold FI
 rw [if_pos (show okL g.2.1=true from decide_eq_true (by unfold lim;omega))]
 exact Ok.some trivial
theorem Aue (n:Nat) (hn:n<=8):Ok (J7 0 ((n:Int),())) fun r=>r.1.2.1.length<=101:=by
 unfold J7
 simp only
 refine Ok.bind (Ag8 n hn) fun r hr => ?_
 have hr:r.1.2.1.length<=100:=hr
 refine Ok.bind (Ady (by omega)) fun q hq=>Ok.some ?_
 simp only
 omega
theorem AEk (N:Nat) (n:Nat) (hn:n<=8) (z:Gr) (a w:Int) (b:Bool) (x:Int):∀k y f (c:Cur) (es:List E),y+k=n->k<f->JC c->c.2.1+2*(k:Int)<=Ge->es.length+k<=1000 ->
  Ok (Sr N f (c,z,(n:Int),(a,es,()),w,b,x,(y:Int),())) fun o => ∃c' es',o=.inl (c',z,(n:Int),(a,es',()),w,b,x,())/\Adv (2*(k:Int)) c c'/\es'.length<=es.length+k:=by
 intro k
 induction k with
 | zero=>
  intro y f c es h1 h2 h3 h4 h5
  obtain ⟨f,rfl⟩:∃m,f=m+1:=⟨f-1,by omega⟩
  have hlt:decide ((y:Int)<(n:Int))=false:=decide_eq_false (by omega)
  show Ok (HV _ _ _) _
  unfold HV
  simp only [hlt,AGb,if_false]
  exact Ok.some ⟨c,es,rfl,⟨h3,by omega⟩,by omega⟩
 | succ k ih=>
  intro y f c es h1 h2 h3 h4 h5
  obtain ⟨f,rfl⟩:∃m,f=m+1:=⟨f-1,by omega⟩
  have hlt:decide ((y:Int)<(n:Int))=true:=decide_eq_true (by omega)
  show Ok (HV _ _ _) _
  unfold HV
  simp only [hlt,if_true,A0 (show y<=100000 by omega)]
  refine Ok.bind (Cc h3 (by omega)) fun r hr => ?_
  have r3:=hr.2.2.2
  refine Ok.ite (fun _ => ?_) (fun _ => ?_)
  ·refine Ok.bind (Ady (by omega)) fun q hq => ?_
   refine (ih (y+1) f r.2.1 q.1 (by omega) (by omega) hr.2.2.1 (by omega) (by omega)).mono fun o ho => ?_
   obtain ⟨c',es',e1,e2,e3⟩:=ho
   exact ⟨c',es',e1,(hr.2.2.trans e2).le (by omega),by omega⟩
  ·refine (ih (y+1) f r.2.1 es (by omega) (by omega) hr.2.2.1 (by omega) (by omega)).mono fun o ho => ?_
   obtain ⟨c',es',e1,e2,e3⟩:=ho
   exact ⟨c',es',e1,(hr.2.2.trans e2).le (by omega),by omega⟩
theorem AEz (N:Nat) (hN:20<=N) (n:Nat) (hn:n<=8) (z:Gr) (a w:Int) (b:Bool):∀k x f (c:Cur) (es:List E),x+k=n->k<f->JC c->c.2.1+20*(k:Int)<=Ge->es.length<=10*x ->
  Ok (G5 N f (c,z,(n:Int),(a,es,()),w,b,(x:Int),())) fun o => ∃c' es',o=.inl (c',z,(a,es',()),())/\Adv (20*(k:Int)) c c'/\es'.length<=10*n:=by
 intro k
 induction k with
 | zero=>
  intro x f c es h1 h2 h3 h4 h5
  obtain ⟨f,rfl⟩:∃m,f=m+1:=⟨f-1,by omega⟩
  have hlt:decide ((x:Int)<(n:Int))=false:=decide_eq_false (by omega)
  show Ok (Hy _ _ _) _
  unfold Hy
  simp only [hlt,AGb,if_false]
  exact Ok.some ⟨c,es,rfl,⟨h3,by omega⟩,by omega⟩
 | succ k ih=>
  intro x f c es h1 h2 h3 h4 h5
  obtain ⟨f,rfl⟩:∃m,f=m+1:=⟨f-1,by omega⟩
  have hlt:decide ((x:Int)<(n:Int))=true:=decide_eq_true (by omega)
  show Ok (Hy _ _ _) _
  unfold Hy
  simp only [hlt,if_true,A0 (show x<=100000 by omega)]
  refine Ok.bind (AEk N n hn z a w b (x:Int) (n-(x+1)) (x+1) N c es (by omega) (by omega) h3 (by omega) (by omega)) fun o ho => ?_
  obtain ⟨c1,e1,rfl,a1,l1⟩:=ho
  have b1:=a1.2
  simp only [A0 (show x<=100000 by omega)]
  refine Ok.bind (Cc a1.1 (by omega)) fun r hr => ?_
  have r3:=hr.2.2.2
  have more:∀es2:List E,es2.length<=10*(x+1)->Ok (G5 N f (r.2.1,z,(n:Int),(a,es2,()),w,b,((x+1:Nat):Int),())) fun o => ∃c' es',o=.inl (c',z,(a,es',()),())/\Adv (20*((k+1:Nat):Int)) c c'/\es'.length<=10*n:=fun es2 h=>by
   refine (ih (x+1) f r.2.1 es2 (by omega) (by omega) hr.2.2.1 (by omega) (by omega)).mono fun o ho => ?_
   obtain ⟨c',es',e1,e2,e3⟩:=ho
   exact ⟨c',es',e1,((a1.trans hr.2.2).trans e2).le (by omega),by omega⟩
  refine Ok.ite (fun _=>Ok.ite (fun _ => ?_) fun _=>more _ (by omega)) fun _=>more _ (by omega)
  refine Ok.bind (Ax3 (by simp only;omega)) fun _ _=>Ok.ite (fun _ => ?_) fun _=>more _ (by omega)
  refine Ok.bind (Ady (by omega)) fun q hq=>more _ (by omega)
def Acn (N:Nat) (c:Cur) (n:Int):Option (Gr×Cur×Unit):=
  ((BU 0) ((c,((8:Int),())))).bind fun r49=>
  if (r49.1==(0:Int))=true then
   ((CW Fu Ev) (n,())).bind fun r50=>
   ((Cm 0) ((r49.2.1,(r50.1,())))).bind fun r51=>
   some ((r51.1,(r51.2.1,())))
  else
   if (r49.1==(1:Int))=true then
    if (decide (n>(2:Int)))=true then
     ((J7 0) (n,())).bind fun r52=>
     ((Cm 0) ((r49.2.1,(r52.1,())))).bind fun r53=>
     some ((r53.1,(r53.2.1,())))
    else
     ((Cm 0) ((r49.2.1,((n,(([]:List (Int×Int×Unit)),())),())))).bind fun r54=>
     some ((r54.1,(r54.2.1,())))
   else
    if (r49.1==(2:Int))=true then
     ((CW Je Ev) (n,())).bind fun r55=>
     ((Cm 0) ((r49.2.1,(r55.1,())))).bind fun r56=>
     some ((r56.1,(r56.2.1,())))
    else
     ((CD 0) ((r49.2.1,([(3:Int),(4:Int),(6:Int)],())))).bind fun r57=>
     ((F4 0) ((r57.2.1,((6:Int),())))).bind fun r58=>
     (G5 N N ((r58.2.1,(((0:Int),(([]:List (Int×Int×Unit)),())),(n,((n,(([]:List (Int×Int×Unit)),())),(r57.1,(r58.1,((0:Int),()))))))))).bind fun o59=>match o59 with
     | .inl d60=>
      ((Cm 0) ((d60.1,(d60.2.2.1,())))).bind fun r61=>
      some ((r61.1,(r61.2.1,())))
theorem Apd {c:Cur} {n:Int} {m:Nat} (hm:m<=8) (he:n=m) (h:JC c) (hf:c.2.1+250<=Ge):Ok (Acn 20 c n) fun r=>Adv 200 c r.2.1/\r.1.2.1.length<=200:=by
 subst he
 have mar:∀(c1:Cur) (g:Gr),Adv 180 c c1->g.2.1.length<=150->Ok ((Cm 0 (c1,g,())).bind fun r=>some (r.1,r.2.1,())) fun r=>Adv 200 c r.2.1/\r.1.2.1.length<=200:=by
  intro c1 g h1 h2
  have:=h1.2
  obtain ⟨n,es,u⟩:=g
  refine Ok.bind (Aoa h1.1 (by omega) h2) fun r hr=>Ok.some ⟨(h1.trans hr.2).le (by omega),?_⟩
  have:=hr.1
  simp only at h2 |-
  omega
 unfold Acn
 refine Ok.bind (Cc h (by omega)) fun r hr => ?_
 have a1:=hr.2.2
 have b1:=a1.2
 refine Ok.ite (fun _ => ?_) fun _=>Ok.ite (fun _=>Ok.ite (fun _ => ?_) fun _=>mar _ _ (a1.le (by omega)) (by simp)) fun _=>Ok.ite (fun _ => ?_) fun _ => ?_
 ·refine Ok.bind (Ag8 m hm) fun q hq=>mar _ _ (a1.le (by omega)) ?_
  have:q.1.2.1.length<=100:=hq
  omega
 ·refine Ok.bind (Aue m hm) fun q hq=>mar _ _ (a1.le (by omega)) (by omega)
 ·refine Ok.bind (Aq1 m hm) fun q hq=>mar _ _ (a1.le (by omega)) ?_
  have:q.1.2.1.length<=100:=hq
  omega
 ·refine Ok.bind (Ei a1.1 (by omega) (by simp)) fun q hq => ?_
  have a2:=a1.trans hq.2
  have b2:=a2.2
  refine Ok.bind (SV a2.1 (by omega)) fun s hs => ?_
  have a3:=a2.trans hs
  have b3:=a3.2
  have hl:=AEz 20 (by omega) m hm (0,[],()) (m:Int) q.1 s.1 m 0 20 s.2.1 [] (by omega) (by omega) a3.1 (by omega) (by simp)
  simp only [Int.natCast_zero] at hl
  refine Ok.bind hl fun o ho => ?_
  obtain ⟨c',es',rfl,e2,e3⟩:=ho
  exact mar _ _ ((a3.trans e2).le (by omega)) (by simp only;omega)
theorem TJ {x y:Int} {u:Unit} (h:0<=x) (h2:0<=y) (h3:y<=8):∃m:Nat,m<=8/\(He (x,y,u)).1=(m:Int):=by
 unfold He
 simp only
 split
 ·rename_i hh
  have:=of_decide_eq_true hh
  exact ⟨x.toNat,by omega,by simp only;omega⟩
 ·exact ⟨y.toNat,by omega,by simp only;omega⟩
theorem NG {c:Cur} {a:Int} (h:JC c) (hf:c.2.1+300<=Ge) (h0:0<=a) (h8:a<=8):Ok (CW MB KM (c,a,())) (KM (c,a,())):=by
 refine Ok.pick 20 ?_
 have fin:∀(c1:Cur) (n:Int) (m:Nat),m<=8->n=m->Adv 50 c c1->Ok (Acn 20 c1 n) (KM (c,a,())):=fun c1 n m hm he h1=>by
  have:=h1.2
  exact (Apd hm he h1.1 (by omega)).mono fun r hr=>⟨(h1.trans hr.1).le (by omega),hr.2⟩
 unfold MB
 simp only
 refine Ok.bind (Ei h (by omega) (by simp)) fun r hr => ?_
 have r0:0<=r.1:=by
  have:=hr.1
  simp at this
  omega
 have a1:=hr.2
 have b1:=a1.2
 refine Ok.ite (fun _ => ?_) fun _ => ?_
 ·refine Ok.bind (SV a1.1 (by omega)) fun s hs => ?_
  have a2:=a1.trans hs
  have b2:=a2.2
  refine Ok.ite (fun _ => ?_) fun _ => ?_
  ·refine Ok.bind (Cc a2.1 (by omega)) fun t ht => ?_
   have a3:=a2.trans ht.2.2
   have w:IntKind.wrap .i64 ((7:Int)+t.1)=7+t.1:=Bj _ (by have:=ht.1;omega) (by have:=ht.2.1;omega)
   obtain ⟨m,hm,em⟩:=TJ (x:=IntKind.wrap .i64 ((7:Int)+t.1)) (u:=()) (by rw [w];have:=ht.1;omega) h0 h8
   exact fin _ _ m hm em (a3.le (by omega))
  ·obtain ⟨m,hm,em⟩:=TJ (u:=()) r0 h0 h8
   exact fin _ _ m hm em (a2.le (by omega))
 ·obtain ⟨m,hm,em⟩:=TJ (u:=()) r0 h0 h8
  exact fin _ _ m hm em (a1.le (by omega))
theorem Zu {c:Cur} {u:Unit} (h:JC c) (hf:c.2.1+300<=Ge):Ok (Td 0 (c,u)) fun r=>Adv 300 c r.2.1/\r.1.2.1.length<=200:=by
 unfold Td
 simp only
 exact Ok.bind (NG h hf (by omega) (by omega)) fun r hr=>Ok.some hr
open Go.Proofs
theorem law54:∀d,WfD (Kd.tuple ([(K_Su8,false)].map (·.1))) d -> ∃out,ZL d=some out/\(Fb [.bool] [] out).1.1=true:=by
 rintro ⟨code,_⟩ ⟨⟨hl,hc⟩,_⟩
 refine ⟨(true,()),?_,rfl⟩
 unfold ZL
 rw [if_pos]
 simp only [AGc,List.all_eq_true,decide_eq_true_eq]
 refine ⟨fun x hx => ?_,hl⟩
 have:=hc x hx
 simp [WfD,Lit.wf,IntKind.min,IntKind.max,IntKind.signed,IntKind.bits] at this
 unfold inB
 simp
 omega
open Go.Proofs
theorem Aig {c:Cur} {g:Gr} {u:Unit} (h:JC c) (hf:c.2.1+10<=Ge):Ok (Qp 0 (c,g,u)) fun r=>r.1<=9223372036854775807/\(r.1 = -1\/0<=r.1)/\Adv 10 c r.2.1:=by
 have lst:∀(c1:Cur),Adv 4 c c1->Ok ((CD 0 (c1,[(-1:Int),(0:Int),(8:Int),(4611686018427387904:Int)],())).bind fun r=>some (r.1,r.2.1,())) fun r=>r.1<=9223372036854775807/\(r.1 = -1\/0<=r.1)/\Adv 10 c r.2.1:=fun c1 h1=>by
  have:=h1.2
  refine Ok.bind (Ei h1.1 (by omega) (by simp)) fun r hr=>Ok.some ⟨?_,?_,(h1.trans hr.2).le (by omega)⟩
  ·have:=hr.1
   simp at this
   omega
  ·have:=hr.1
   simp at this
   omega
 have a0:Adv 4 c c:=⟨h,by omega⟩
 unfold Qp
 simp only
 refine Ok.ite (fun _=>lst c a0) fun h1=>Ok.ite (fun _=>lst c a0) fun h2 => ?_
 have h2:=of_decide_eq_false h2
 have h2:¬g.1>8:=h2
 refine Ok.bind (SV h (by omega)) fun r hr => ?_
 have b:=hr.2
 refine Ok.ite (fun _=>lst _ (hr.le (by omega))) fun _ => ?_
 refine Ok.bind (Cc hr.1 (by omega)) fun s hs=>Ok.some ⟨?_,.inr hs.1,(hr.trans hs.2.2).le (by omega)⟩
 rcases hs.2.1 with h3 | h3
 ·have h3:s.1<g.1:=h3
  show s.1<=_
  omega
 ·show s.1<=_
  omega
open Go.Proofs
structure Sts (m cfn:Nat) (st:List St):Prop where
 at_:∀j (h:j<st.length),(∃c:Nat,st[j].1=(c:Int)/\c<cfn)/\(∃p:Nat->Bool,st[j].2.1=BE p m 0) /\ -1<=st[j].2.2.1/\st[j].2.2.1<(j:Int)
theorem Sts.push {m cfn:Nat} {st:List St} (h:Sts m cfn st) {c:Nat} (hc:c<cfn) (p:Nat->Bool) {b:Int} (h1 : -1<=b) (h2:b<(st.length:Int)):Sts m cfn (st++[((c:Int),BE p m 0,b,())]):=by
 refine ⟨fun j hj => ?_⟩
 by_cases hl:j<st.length
 ·rw [List.getElem_append_left hl]
  exact h.at_ j hl
 ·have e:j=st.length:=by simp at hj;omega
  subst e
  rw [List.getElem_append_right (by omega)]
  simp only [Nat.sub_self,List.getElem_cons_zero]
  exact ⟨⟨c,rfl,hc⟩,⟨p,rfl⟩,h1,h2⟩
def AFs (l:List Bool):Nat:=l.foldr (fun b s=>(if b=true then 1 else 0)+s) 0
structure ShI (m cfn:Nat) (st:List St) (sn:List Bool):Prop where
 sts:Sts m cfn st
 len:sn.length=cfn*2 ^ m
 cnt:st.length<=cfn+AFs sn
open Go.Proofs
def Azy (g:Gr) (w:List (List Int)):Prop:=g.2.1.length<=200/\w.length<=60 /\ ∀l∈w,l.length<=10
theorem Azy.ok {g:Gr} {w:List (List Int)} (h:Azy g w):okL g.2.1=true/\DV w=true:=⟨Fp (by have:=h.1;omega),IU (by have:=h.2.1;omega) (List.all_eq_true.2 fun l hl=>decide_eq_true (by have:=h.2.2 l hl;omega))⟩
open Go.Proofs
theorem Aw3 {t x:Int} {u:Unit} (h1:0<=t) (h2:t<=8) (h3:0<=x) (h4:x<=255):Ok (Is (t,x,u)) fun r=>r.1.length<=8:=by
 unfold Is
 have e1:inB 0 8 t=true:=AX.2 ⟨h1,h2⟩
 have e2:inB 0 255 x=true:=AX.2 ⟨h3,h4⟩
 simp only [e1,e2,Bool.and_self,if_true]
 exact Ok.some (Nat.le_trans Kn (by omega))
theorem Aq5 (N:Nat) (z:Tt) (g:Gr) (p:Int) (hp:1<=p/\p<=4) (hg:g.2.1.length<=200):∀(k i f:Nat) (c:Cur) (ts:List (List Int)),i+k=g.2.1.length->k<f->JC c->c.2.1+6*(k:Int)<=Ge->ts.length<=i->(∀l∈ts,l.length<=8) ->
  Ok (I9 N f (c,z,g,(g,p,ts,()),(i:Int),())) fun o => ∃c' ts',o=.inl (c',z,(g,p,ts',()),())/\Adv (6*(k:Int)) c c'/\ts'.length<=200 /\ ∀l∈ts',l.length<=8:=by
 intro k
 induction k with
 | zero=>
  intro i f c ts h1 h2 h3 h4 h5 h6
  obtain ⟨f,rfl⟩:∃m,f=m+1:=⟨f-1,by omega⟩
  have hlt:decide ((i:Int)<(g.2.1.length:Int))=false:=decide_eq_false (by omega)
  show Ok (Hs _ _ _) _
  unfold Hs
  simp only [hlt,AGb,if_false]
  exact Ok.some ⟨c,ts,rfl,⟨h3,by omega⟩,by omega,h6⟩
 | succ k ih=>
  intro i f c ts h1 h2 h3 h4 h5 h6
  obtain ⟨f,rfl⟩:∃m,f=m+1:=⟨f-1,by omega⟩
  have hlt:decide ((i:Int)<(g.2.1.length:Int))=true:=decide_eq_true (by omega)
  have more:∀(c1:Cur) (l:List Int),Adv 4 c c1->l.length<=8->Ok (I9 N f (c1,z,g,(g,p,ts++[l],()),((i+1:Nat):Int),())) fun o => ∃c' ts',o=.inl (c',z,(g,p,ts',()),())/\Adv (6*((k+1:Nat):Int)) c c'/\ts'.length<=200 /\ ∀l∈ts',l.length<=8:=fun c1 l a1 hl=>by
   have:=a1.2
   refine (ih (i+1) f c1 (ts++[l]) (by omega) (by omega) a1.1 (by omega) (by simp;omega) (fun x hx=>by
    rcases List.mem_append.1 hx with hx | hx
    ·exact h6 x hx
    ·rw [List.mem_singleton.1 hx];exact hl)).mono fun o ho => ?_
   obtain ⟨c',ts',e1,e2,e3⟩:=ho
   exact ⟨c',ts',e1,(a1.trans e2).le (by omega),e3⟩
  have hle:∀l:List Int,decide (ts.length+List.length [l]<=lim)=true:=fun l=>by unfold lim;simp;omega
  show Ok (Hs _ _ _) _
  unfold Hs
  simp only [hlt,if_true,A0 (show i<=100000 by omega)]
  refine Ok.bind (Cc h3 (by omega)) fun r hr => ?_
  obtain ⟨r1,r2,r3⟩:=hr
  have b3:=r3.2
  have w:IntKind.wrap .i64 ((1:Int)+r.1)=1+r.1:=Bj _ (by omega) (by omega)
  rw [w]
  refine Ok.bind (Aw3 (by omega) (by omega) (by omega) (by omega)) fun q hq => ?_
  refine Ok.ite (fun _ => ?_) fun _=>Ok.pos (hle _) (more _ _ (r3.le (by omega)) hq)
  refine Ok.bind (SV r3.1 (by omega)) fun s hs => ?_
  have a2:=(r3.trans hs).le (show (2:Int)+2<=4 by omega)
  exact Ok.ite (fun _=>Ok.pos (hle _) (more _ _ a2 (by simp))) fun _=>Ok.pos (hle _) (more _ _ a2 hq)
def Aa1 (c:Cur) (t:Tt):Option (Tt×Cur×Unit):=
   ((BU 0) ((c,((30:Int),())))).bind fun r24=>
   if (r24.1==(0:Int))=true then
    ((CD 0) ((r24.2.1,([(0:Int),(5:Int),(-1:Int)],())))).bind fun r25=>
    some (((t.1,(r25.1,t.2.2)),(r25.2.1,())))
   else
    if (r24.1==(1:Int))=true then
     if (decide (List.length t.2.2.1+List.length ([[(0:Int)]])<=lim))=true then
     let x26:List (List Int):=t.2.2.1++([[(0:Int)]])
     some (((t.1,(t.2.1,(x26,t.2.2.2))),(r24.2.1,())))
     else none
    else
     if (r24.1==(2:Int))=true then
      if (decide ((List.length t.2.2.1:Int)>(0:Int)))=true then
       if (Af (0:Int) (List.length t.2.2.1))=true then
       ((CD 0) ((r24.2.1,([(4:Int),(0:Int),(-1:Int)],())))).bind fun r27=>
       if (decide (List.length (at_ Ai t.2.2.1 (0:Int).toNat)+List.length ([r27.1])<=lim))=true then
       let x28:List Int:=(at_ Ai t.2.2.1 (0:Int).toNat)++([r27.1])
       if (Af (0:Int) (List.length t.2.2.1))=true then
       if (((Nat.beq (0:Int).toNat (0:Int).toNat)&&true))=true then
       some (((t.1,(t.2.1,(List.set t.2.2.1 (0:Int).toNat x28,t.2.2.2))),(r27.2.1,())))
       else none
       else none
       else none
       else none
      else
       some ((t,(r24.2.1,())))
     else
      some ((t,(r24.2.1,())))
theorem Ama {c:Cur} {g:Gr} {p:Int} {ts:List (List Int)} {v:Unit} (h:JC c) (hf:c.2.1+10<=Ge) (hg:g.2.1.length<=200) (h1:ts.length<=200) (h2:∀l∈ts,l.length<=8) :
  Ok (Aa1 c (g,p,ts,v)) fun r=>Adv 10 c r.2.1/\r.1.1.2.1.length<=200/\r.1.2.2.1.length<=300 /\ ∀l∈r.1.2.2.1,l.length<=10:=by
 have h2':∀l∈ts,l.length<=10:=fun l hl=>by have:=h2 l hl;omega
 unfold Aa1
 simp only
 refine Ok.bind (Cc h (by omega)) fun r hr => ?_
 have a:=hr.2.2
 have b:=a.2
 refine Ok.ite (fun _ => ?_) fun _=>Ok.ite (fun _ => ?_) fun _=>Ok.ite (fun _=>Ok.ite (fun h0 => ?_) fun _=>Ok.some ⟨a.le (by omega),hg,by show ts.length<=300;omega,h2'⟩) fun _=>Ok.some ⟨a.le (by omega),hg,by show ts.length<=300;omega,h2'⟩
 ·exact Ok.bind (Ei a.1 (by omega) (by simp)) fun s hs=>Ok.some ⟨(a.trans hs.2).le (by omega),hg,by show ts.length<=300;omega,h2'⟩
 ·refine Ok.pos (by unfold lim;simp;omega) (Ok.some ⟨a.le (by omega),hg,?_,fun l hl => ?_⟩)
  ·show (ts++[[(0:Int)]]).length<=300
   rw [List.length_append]
   have:List.length [[(0:Int)]]=1:=rfl
   omega
  ·rcases List.mem_append.1 hl with hl | hl
   ·exact h2' l hl
   ·rw [List.mem_singleton.1 hl];simp
 ·have h0:=of_decide_eq_true h0
  have hlt:0<ts.length:=by omega
  have e0:at_ Ai ts (0:Int).toNat=ts[0]:=AM (e:=Ai) hlt
  have i0:Af (0:Int) ts.length=true:=Ad hlt
  have l0:=h2 ts[0] (AGk hlt)
  refine Ok.pos i0 (Ok.bind (Ei a.1 (by omega) (by simp)) fun s hs => ?_)
  rw [e0]
  refine Ok.pos (by unfold lim;simp;omega) (Ok.pos i0 (Ok.pos rfl (Ok.some ⟨(a.trans hs.2).le (by omega),hg,?_,fun l hl => ?_⟩)))
  ·show (List.set ts (0:Int).toNat (ts[0]++[s.1])).length<=300
   rw [List.length_set];omega
  ·rcases List.mem_or_eq_of_mem_set hl with hl | rfl
   ·exact h2' l hl
   ·have e:(ts[0]++[s.1]).length=ts[0].length+1:=by simp
    omega
theorem ID {c:Cur} {u:Unit} (h:JC c) (hf:c.2.1+3000<=Ge):Ok (CW Js G8 (c,u)) (G8 (c,u)):=by
 refine Ok.pick 300 ?_
 have fin:∀(c1:Cur) (g:Gr) (p:Int),Adv 1000 c c1->g.2.1.length<=200->1<=p/\p<=4->Ok ((I9 300 300 (c1,(((0:Int),(([]:List (Int×Int×Unit)),())),((0:Int),(([]:List (List Int)),()))),g,(g,p,[],()),(0:Int),())).bind fun o13=>match o13 with
   | .inl d=>Aa1 d.1 d.2.2.1) (G8 (c,u)):=fun c1 g p h1 hg hp=>by
  have b:=h1.2
  have hl:=Aq5 300 (((0:Int),(([]:List (Int×Int×Unit)),())),((0:Int),(([]:List (List Int)),()))) g p hp hg g.2.1.length 0 300 c1 [] (by omega) (by omega) h1.1 (by omega) (by simp) (by simp)
  simp only [Int.natCast_zero] at hl
  refine Ok.bind hl fun o ho => ?_
  obtain ⟨c',ts',rfl,e2,e3,e4⟩:=ho
  have a2:=h1.trans e2
  have b2:=a2.2
  exact (Ama a2.1 (by omega) hg e3 e4).mono fun r hr=>⟨(a2.trans hr.1).le (by omega),hr.2⟩
 have w:∀x:Int,0<=x->(x<4\/x=0)->1<=IntKind.wrap .i64 ((1:Int)+x)/\IntKind.wrap .i64 ((1:Int)+x)<=4:=fun x h1 h2=>by
  have w:IntKind.wrap .i64 ((1:Int)+x)=1+x:=Bj _ (by omega) (by omega)
  rw [w];omega
 unfold Js
 simp only
 refine Ok.bind (NG h (by omega) (by omega) (by omega)) fun r hr => ?_
 have a1:Adv 300 c r.2.1:=hr.1
 have b1:=a1.2
 refine Ok.bind (SV a1.1 (by omega)) fun s hs => ?_
 have a2:=a1.trans hs
 have b2:=a2.2
 refine Ok.ite (fun _ => ?_) fun _ => ?_
 ·refine Ok.bind (Zu a2.1 (by omega)) fun q hq => ?_
  have a3:=a2.trans hq.1
  have b3:=a3.2
  refine Ok.bind (Cc a3.1 (by omega)) fun x hx => ?_
  exact fin _ _ _ ((a3.trans hx.2.2).le (by omega)) hq.2 (w _ hx.1 hx.2.1)
 ·refine Ok.bind (Cc a2.1 (by omega)) fun x hx => ?_
  exact fin _ _ _ ((a2.trans hx.2.2).le (by omega)) hr.2 (w _ hx.1 hx.2.1)
theorem Pn {t:Tt} (h1:t.1.2.1.length<=200) (h2:t.2.2.1.length<=300) (h3:∀l∈t.2.2.1,l.length<=10):okT t=true:=by
 unfold okT
 rw [AGc]
 exact ⟨Fp (by omega),IU (by omega) (List.all_eq_true.2 fun l hl=>decide_eq_true (by have:=h3 l hl;omega))⟩
def sm3 (lo hi:Int) (T:List Tab):Prop:=T.length<=8 /\ ∀R∈T,R.length<=8 /\ ∀r∈R,r.length<=8 /\ ∀v∈r,lo<=v/\v<=hi
theorem ADd {lo hi:Int} {T:List Tab} (h:sm3 lo hi T) (h1 : -9223372036854775808<=lo) (h2:hi<=9223372036854775807):Ja T=true/\Wm T=true:=by
 refine ⟨?_,List.all_eq_true.2 fun R hR=>List.all_eq_true.2 fun r hr=>List.all_eq_true.2 fun v hv => ?_⟩
 ·unfold Ja
  rw [AGc]
  exact ⟨Fp (by have:=h.1;omega),List.all_eq_true.2 fun R hR=>IU (by have:=(h.2 R hR).1;omega) (List.all_eq_true.2 fun r hr=>decide_eq_true (by have:=((h.2 R hR).2 r hr).1;omega))⟩
 ·have:=((h.2 R hR).2 r hr).2 v hv
  unfold Auy
  rw [AGc]
  exact ⟨decide_eq_true (by omega),decide_eq_true (by omega)⟩
theorem Atf {lo hi lo' hi':Int} {T:List Tab} (h:sm3 lo hi T) (h1:lo'<=lo) (h2:hi<=hi'):sm3 lo' hi' T:=
 ⟨h.1,fun R hR=>⟨(h.2 R hR).1,fun r hr=>⟨((h.2 R hR).2 r hr).1,fun v hv=>by have:=((h.2 R hR).2 r hr).2 v hv;omega⟩⟩⟩
theorem Aic {lo hi:Int} {T:List Tab} (h:sm3 lo hi T) {a:Nat} {R:Tab} (hR:R.length<=8 /\ ∀r∈R,r.length<=8 /\ ∀v∈r,lo<=v/\v<=hi):sm3 lo hi (List.set T a R):=
 ⟨by rw [List.length_set];exact h.1,fun R' h'=>by
  rcases List.mem_or_eq_of_mem_set h' with h' | rfl
  ·exact h.2 R' h'
  ·exact hR⟩
theorem Avo {lo hi:Int} {T:List Tab} (h:sm3 lo hi T) (a b:Int):sm3 lo hi (CY T a b):=by
 have hs:∀R∈CY T a b,R∈T:=fun R hR=>List.mem_of_mem_take (List.mem_of_mem_drop hR)
 exact ⟨by unfold CY;have:=h.1;simp only [List.length_drop,List.length_take];omega,fun R hR=>h.2 R (hs R hR)⟩
theorem ABl (t:Tt):sm3 (-1) 521 (ttB t).1:=by
 unfold ttB
 by_cases ht:AV t=true
 ·rw [if_pos ht]
  obtain ⟨n1,n2,n3,p1,p2,p3,_⟩:=Bi ht
  show sm3 (-1) 521 (AN t)
  refine ⟨by rw [C8,Bw];omega,fun R hR => ?_⟩
  obtain ⟨r,hr,rfl⟩:=List.getElem_of_mem hR
  have hr2:r<t.2.1.toNat:=by rw [C8,Bw] at hr;exact hr
  have e:=I3 hr2
  rw [AGm,AGn hr,Option.getD_some] at e
  rw [e]
  unfold AO
  refine ⟨by simp;omega,fun row hrow => ?_⟩
  obtain ⟨c,_,rfl⟩:=List.mem_map.1 hrow
  refine ⟨by simp;omega,fun v hv => ?_⟩
  obtain ⟨q,_,rfl⟩:=List.mem_map.1 hv
  exact ⟨(EL ht).1.low r c q,Uh t r c q⟩
 ·rw [if_neg ht]
  exact ⟨by simp,fun R hR=>by simp at hR⟩
theorem Atm {t:Tt} (h:0<(ttB t).1.length):∀R∈(ttB t).1,0<R.length /\ ∀r∈R,0<r.length:=by
 unfold ttB at h |-
 by_cases ht:AV t=true
 ·rw [if_pos ht] at h |-
  obtain ⟨n1,n2,n3,p1,p2,p3,_⟩:=Bi ht
  intro R hR
  have hR:R∈AN t:=hR
  obtain ⟨r,hr,rfl⟩:=List.getElem_of_mem hR
  have hr2:r<t.2.1.toNat:=by rw [C8,Bw] at hr;exact hr
  have e:=I3 hr2
  rw [AGm,AGn hr,Option.getD_some] at e
  rw [e]
  unfold AO
  refine ⟨by simp;omega,fun row hrow => ?_⟩
  obtain ⟨c,_,rfl⟩:=List.mem_map.1 hrow
  simp;omega
 ·rw [if_neg ht] at h
  exact absurd h (by simp)
theorem WM {code:List Int} {u:Unit} (hb:∀x∈code,0<=x/\x<=255):Ok (Ql 0 (code,u)) fun r=>okT r.1=true/\Ja r.2.1=true/\Wm r.2.1=true:=by
 have hc:JC (code,(0:Int),(0:Int),()):=⟨hb,Int.le_refl _⟩
 unfold Ql
 simp only
 refine Ok.bind (ID hc (by unfold Ge;simp)) fun r hr => ?_
 obtain ⟨a,r1,r2,r3⟩:=hr
 have ho:=Pn r1 r2 r3
 have b:r.2.1.2.1<=0+3000:=a.2
 rw [Abt r.1 () ho]
 simp only [Option.bind_some]
 have hs:=ABl r.1
 have hrw := @Atm r.1
 generalize (ttB r.1).1=T at hs hrw
 have hw:=Atf hs (show (-1000:Int) <= -1 by omega) (show (521:Int)<=4611686018427387904 by omega)
 have fin:∀T':List Tab,sm3 (-1000) 4611686018427387904 T'->Ok (some (r.1,T',())) fun r=>okT r.1=true/\Ja r.2.1=true/\Wm r.2.1=true:=fun T' h=>by
  obtain ⟨e1,e2⟩:=ADd h (by omega) (by omega)
  exact Ok.some ⟨ho,e1,e2⟩
 refine Ok.ite (fun h0 => ?_) fun _=>fin _ hw
 have h0:=of_decide_eq_true h0
 have hT:=hrw (by omega)
 have far:∀{k:Int} {c:Cur},Adv k (code,(0:Int),(0:Int),()) c->k<=5000->c.2.1+2<=Ge:=fun h hk=>by
  have h:_<=(0:Int)+_:=h.2
  unfold Ge;omega
 refine Ok.bind (Cc a.1 (far a (by omega))) fun x hx => ?_
 have a1:=a.trans hx.2.2
 obtain ⟨xi,exi⟩:∃i:Nat,x.1=(i:Int):=⟨x.1.toNat,by have:=hx.1;omega⟩
 have hxi:xi<T.length:=by have:=hx.2.1;omega
 have ix:Af x.1 T.length=true:=by rw [exi];exact Ad hxi
 have ea:at_ Ag T x.1.toNat=T[xi]:=by rw [exi,Int.toNat_natCast];exact AM (e:=Ag) hxi
 refine Ok.pos ix ?_
 simp only [ix,ea]
 have hR:=hT T[xi] (AGk hxi)
 have hRs:=hw.2 T[xi] (AGk hxi)
 have hRo:=hs.2 T[xi] (AGk hxi)
 generalize T[xi]=R at hR hRs hRo
 refine Ok.bind (Cc a1.1 (far a1 (by omega))) fun y hy => ?_
 have a2:=a1.trans hy.2.2
 obtain ⟨yi,eyi⟩:∃i:Nat,y.1=(i:Int):=⟨y.1.toNat,by have:=hy.1;omega⟩
 have hyi:yi<R.length:=by have:=hy.2.1;have:=hR.1;omega
 have iy:Af y.1 R.length=true:=by rw [eyi];exact Ad hyi
 have eb:at_ Ai R y.1.toNat=R[yi]:=by rw [eyi,Int.toNat_natCast];exact AM (e:=Ai) hyi
 simp only [iy,eb,if_true]
 have hr:=hR.2 R[yi] (AGk hyi)
 have hrs:=hRs.2 R[yi] (AGk hyi)
 have hro:=hRo.2 R[yi] (AGk hyi)
 generalize R[yi]=q at hr hrs hro
 refine Ok.bind (Cc a2.1 (far a2 (by omega))) fun w hw1 => ?_
 have a3:=a2.trans hw1.2.2
 obtain ⟨wi,ewi⟩:∃i:Nat,w.1=(i:Int):=⟨w.1.toNat,by have:=hw1.1;omega⟩
 have hwi:wi<q.length:=by have:=hw1.2.1;omega
 have iw:Af w.1 q.length=true:=by rw [ewi];exact Ad hwi
 have ec:at_ I q w.1.toNat=q[wi]:=by rw [ewi,Int.toNat_natCast];exact AM (e:=I) hwi
 simp only [iw,ec,if_true]
 have hv:=hro.2 q[wi] (AGk hwi)
 have put:∀v:Int,-1000<=v->v<=4611686018427387904->sm3 (-1000) 4611686018427387904 (List.set T x.1.toNat (List.set R y.1.toNat (List.set q w.1.toNat v))):=fun v h1 h2=>
  Aic hw ⟨by rw [List.length_set];exact hRs.1,fun r' h'=>by
   rcases List.mem_or_eq_of_mem_set h' with h' | rfl
   ·exact hRs.2 r' h'
   ·exact ⟨by rw [List.length_set];exact hrs.1,fun v' h''=>by
     rcases List.mem_or_eq_of_mem_set h'' with h'' | rfl
     ·exact hrs.2 v' h''
     ·exact ⟨h1,h2⟩⟩⟩
 refine Ok.bind (Cc a3.1 (far a3 (by omega))) fun z hz => ?_
 have a4:=a3.trans hz.2.2
 refine Ok.ite (fun _ => ?_) fun _=>Ok.ite (fun _ => ?_) fun _=>Ok.ite (fun _ => ?_) fun _=>Ok.ite (fun _ => ?_) fun _=>fin _ hw
 ·refine Ok.bind (Ei a4.1 (far a4 (by omega)) (by simp)) fun s hs => ?_
  have hm:=hs.1
  simp only [List.mem_cons,List.not_mem_nil,or_false] at hm
  have e:IntKind.wrap .i64 (q[wi]+s.1)=q[wi]+s.1:=Bj _ (by omega) (by omega)
  rw [e]
  exact fin _ (put _ (by omega) (by omega))
 ·refine Ok.bind (Ei a4.1 (far a4 (by omega)) (by simp)) fun s hs => ?_
  have hm:=hs.1
  simp only [List.mem_cons,List.not_mem_nil,or_false] at hm
  exact fin _ (put _ (by omega) (by omega))
 ·refine Ok.pos ?_ (fin _ (Avo hw _ _))
  have e1:decide ((1:Int)<=(T.length:Int))=true:=decide_eq_true (by omega)
  simp [e1]
 ·refine Ok.pos ?_ (fin _ (Aic hw ⟨?_,fun r' h'=>hRs.2 r' (List.mem_of_mem_take (List.mem_of_mem_drop h'))⟩))
  ·simp
   omega
  ·unfold CY
   have:=hRs.1
   simp only [List.length_drop,List.length_take]
   omega
theorem YK {code:List Int} {u:Unit} (hb:∀x∈code,0<=x/\x<=255):Ok (Tu 0 (code,u)) fun r=>okT r.1=true:=by
 have hc:JC (code,(0:Int),(0:Int),()):=⟨hb,Int.le_refl _⟩
 unfold Tu PB
 simp only
 refine Ok.bind (ID hc (by unfold Ge;simp)) fun r hr => ?_
 obtain ⟨a,r1,r2,r3⟩:=hr
 have b:r.2.1.2.1<=0+3000:=a.2
 refine Ok.bind (Q:=fun _=>True) ?_ fun s _=>Ok.some (Pn r1 r2 r3)
 exact Ok.bind (Ei a.1 (by unfold Ge;omega) (by simp)) fun s _=>Ok.some trivial
theorem Yu {code:List Int} {u:Unit} (hb:∀x∈code,0<=x/\x<=255):Ok (IK 0 (code,u)) fun r=>okT r.1=true:=by
 unfold IK
 exact Ok.bind (YK hb) fun r hr=>Ok.some hr
theorem UG {code:List Int} {u:Unit} (hb:∀x∈code,0<=x/\x<=255):Ok (I7 0 (code,u)) fun r=>okT r.1=true:=by
 have hc:JC (code,(0:Int),(0:Int),()):=⟨hb,Int.le_refl _⟩
 unfold I7 PB
 simp only
 refine Ok.bind (ID hc (by unfold Ge;simp)) fun r hr => ?_
 obtain ⟨a,r1,r2,r3⟩:=hr
 have b:r.2.1.2.1<=0+3000:=a.2
 refine Ok.bind (Q:=fun s=>Adv 2 r.2.1 s.2.1) ?_ fun s hs => ?_
 ·exact Ok.bind (Ei a.1 (by unfold Ge;omega) (by simp)) fun s hs=>Ok.some hs.2
 have b2:=hs.2
 refine Ok.bind (Aig hs.1 (by unfold Ge;omega)) fun x hx => ?_
 have b3:=hx.2.2.2
 exact Ok.bind (Aig hx.2.2.1 (by unfold Ge;omega)) fun y hy=>Ok.some (Pn r1 r2 r3)
open Go.Proofs
theorem YE:∀{l:List E},(l.Pairwise fun a b=>Ch a b=true)->C0 l=true:=by
 intro l
 induction l with
 | nil=>intro _;rfl
 | cons a l ih=>
  intro h
  match l,ih,h with
  | [],_,_=>rfl
  | b::l,ih,h=>
   unfold C0
   rw [List.pairwise_cons] at h
   rw [AGc]
   exact ⟨h.1 b (List.mem_cons_self ..),ih h.2⟩
theorem ZN {t:Tt} (ht:AV t=true) (r:Int):BI ((t.1.1.toNat:Int),Bv t r,())=true:=by
 obtain ⟨e,h1,h2,_,_,_,h3,h4⟩:=Bi ht
 obtain ⟨o1,o2⟩:=Kj (t:=t) (n:=t.1.1.toNat) h3 h4 r
 unfold BI
 simp only [AGc,decide_eq_true_eq]
 exact ⟨⟨⟨by omega,by omega⟩,o1⟩,YE o2⟩
def mxL (f:Int->Int):List Int->Int->Int
 | [],m=>m
 | z::l,m=>mxL f l (if f z>m then f z else m)
theorem Ars (f:Int->Int):∀(l:List Int) (m:Int),m<=mxL f l m/\(∀z∈l,f z<=mxL f l m)/\(mxL f l m=m \/ ∃z∈l,mxL f l m=f z):=by
 intro l
 induction l with
 | nil=>intro m;exact ⟨Int.le_refl _,fun z hz=>by simp at hz,.inl rfl⟩
 | cons a l ih=>
  intro m
  obtain ⟨h1,h2,h3⟩:=ih (if f a>m then f a else m)
  simp only [mxL]
  refine ⟨?_,fun z hz => ?_,?_⟩
  ·split at h1<;>rename_i h
   ·rw [if_pos h];omega
   ·rw [if_neg h];exact h1
  ·rcases List.mem_cons.1 hz with rfl | hz
   ·by_cases h:f z>m
    ·rw [if_pos h] at h1 |-;exact h1
    ·rw [if_neg h] at h1 |-;omega
   ·exact h2 z hz
  ·rcases h3 with h3 | ⟨z,hz,h3⟩
   ·by_cases h:f a>m
    ·rw [if_pos h] at h3 |-;exact .inr ⟨a,List.mem_cons_self ..,h3⟩
    ·rw [if_neg h] at h3 |-;exact .inl h3
   ·exact .inr ⟨z,List.mem_cons_of_mem _ hz,h3⟩
theorem AEh (N:Nat) {n:Nat} (hn:n<=8) (A:Tt) (B C D:Int) (E:List Tab) (L row:List Int) (hL:∀z∈L,∃w:Nat,w<n/\z=(w:Int)) (hl:L.length<=1000) (hr:row.length=n) (hp:∀z∈L,0<=at_ I row z.toNat):∀(k i f:Nat) (m:Int),i+k=L.length->k<f ->
  BQ N f (A,B,C,D,E,L,row,m,(i:Int),())=some (.inr (.inl (A,B,C,D,E,row,mxL (fun z=>at_ I row z.toNat) (L.drop i) m,()))):=by
 intro k
 induction k with
 | zero=>
  intro i f m h1 h2
  obtain ⟨f,rfl⟩:∃z,f=z+1:=⟨f-1,by omega⟩
  have e:i=L.length:=by omega
  subst e
  rw [AGi (AGf _)]
  show BY _ _ _=_
  unfold BY
  simp only [AL,AGb,if_false,mxL]
 | succ k ih=>
  intro i f m h1 h2
  obtain ⟨f,rfl⟩:∃z,f=z+1:=⟨f-1,by omega⟩
  have hi:i<L.length:=by omega
  obtain ⟨z,hz,ez⟩:=hL L[i] (AGk hi)
  have hd:L.drop i=(z:Int)::L.drop (i+1):=by rw [AGj hi,ez]
  have hz0:0<=at_ I row z:=by
   have:=hp L[i] (AGk hi)
   rw [ez,Int.toNat_natCast] at this
   exact this
  have hzr:z<row.length:=by omega
  have d1:decide (at_ I row z<0)=false:=decide_eq_false (Int.not_lt.2 hz0)
  show BY _ _ _=_
  unfold BY
  rw [hd]
  simp only [Az hi,if_true,Ad hi,Int.toNat_natCast,BC (e:=I) hi,ez,Ad hzr,d1,AGb,if_false,A0 (show i<=100000 by omega),mxL]
  by_cases h:at_ I row z>m
  ·rw [if_pos h,if_pos (decide_eq_true h)]
   exact ih (i+1) f _ (by omega) (by omega)
  ·rw [if_neg h,if_neg (by simpa using h)]
   exact ih (i+1) f _ (by omega) (by omega)
def Ad3 (t:Tt) (T:List Tab):Prop:=T.length=t.2.1.toNat/\(∀r,r<t.2.1.toNat->sqL t.1.1.toNat (T.getD r [])=true) /\
  ∀r c q,r<t.2.1.toNat->c<t.1.1.toNat->q<t.1.1.toNat->0<=AS (T.getD r []) (c:Int) (q:Int)->0<=AQ t r c q/\AQ t r c q<=AS (T.getD r []) (c:Int) (q:Int)
theorem AFf (N:Nat) {t:Tt} (ht:AV t=true) {T:List Tab} (h:Ad3 t T) (a:List Int) (A:Tt) (B:Bool) {r x:Nat} (hr:r<t.2.1.toNat) (hx:x<t.1.1.toNat):∀(k i f:Nat),i+k=t.1.1.toNat->k<f ->
  C1 N f (a,A,T,B,AN t,(r:Int),(x:Int),(i:Int),())=some (.inr (.inl (a,A,T,B,AN t,(r:Int),(x:Int),()))):=by
 obtain ⟨n1,n2,n3,p1,p2,p3,_⟩:=Bi ht
 obtain ⟨h1,h2,h3⟩:=h
 obtain ⟨t1,t2⟩:=Cj (h2 r hr)
 have hT:r<T.length:=by omega
 have hT2:r<(AN t).length:=by rw [C8,Bw];exact hr
 have eT:at_ Ag T r=T.getD r []:=rfl
 have l1:(at_ Ag T r).length=t.1.1.toNat:=by rw [eT];exact t1
 have l2:(at_ Ai (at_ Ag T r) x).length=t.1.1.toNat:=by rw [eT];exact t2 x hx
 intro k
 induction k with
 | zero=>
  intro i f k1 k2
  obtain ⟨f,rfl⟩:∃z,f=z+1:=⟨f-1,by omega⟩
  have e:i=t.1.1.toNat:=by omega
  subst e
  show BZ _ _ _=_
  unfold BZ
  simp only [Ad hT,Int.toNat_natCast,l1,Ad hx,l2,AL,if_true,AGb,if_false]
 | succ k ih=>
  intro i f k1 k2
  obtain ⟨f,rfl⟩:∃z,f=z+1:=⟨f-1,by omega⟩
  have hi:i<t.1.1.toNat:=by omega
  have hc:at_ I (at_ Ai (at_ Ag T r) x) i=AS (T.getD r []) (x:Int) (i:Int):=by rw [eT];exact WY (h2 r hr) hx hi
  obtain ⟨m1,m2,m3⟩:=Nc ht hr hx hi
  have h4:=h3 r x i hr hx hi
  have hih:=ih (i+1) f (by omega) (by omega)
  show BZ _ _ _=_
  unfold BZ
  simp only [Ad hT,Ad hT2,Int.toNat_natCast,l1,Ad hx,l2,Az hi,if_true,Ad hi,hc,m1,m2,m3,A0 (show i<=100000 by omega)]
  by_cases hv:AS (T.getD r []) (x:Int) (i:Int)>=0
  ·obtain ⟨h5,h6⟩:=h4 hv
   have d1:decide (AQ t r x i<0)=false:=decide_eq_false (by omega)
   have d2:decide (AQ t r x i>AS (T.getD r []) (x:Int) (i:Int))=false:=decide_eq_false (by omega)
   simp only [decide_eq_true hv,d1,d2,if_true,AGb,if_false]
   exact hih
  ·simp only [decide_eq_false hv,AGb,if_false]
   exact hih
theorem AEy (N:Nat) (hN:20<=N) {t:Tt} (ht:AV t=true) {T:List Tab} (h:Ad3 t T) (a:List Int) (A:Tt) (B:Bool) {r:Nat} (hr:r<t.2.1.toNat):∀(k i f:Nat),i+k=t.1.1.toNat->k<f ->
  CZ N f (a,A,T,B,AN t,(r:Int),(i:Int),())=some (.inr (.inl (a,A,T,B,AN t,(r:Int),()))):=by
 obtain ⟨n1,n2,n3,p1,p2,p3,_⟩:=Bi ht
 obtain ⟨t1,t2⟩:=Cj (h.2.1 r hr)
 have hT:r<T.length:=by have:=h.1;omega
 have eT:at_ Ag T r=T.getD r []:=rfl
 have l1:(at_ Ag T r).length=t.1.1.toNat:=by rw [eT];exact t1
 intro k
 induction k with
 | zero=>
  intro i f k1 k2
  obtain ⟨f,rfl⟩:∃z,f=z+1:=⟨f-1,by omega⟩
  have e:i=t.1.1.toNat:=by omega
  subst e
  show B4 _ _ _=_
  unfold B4
  simp only [Ad hT,Int.toNat_natCast,l1,AL,if_true,AGb,if_false]
 | succ k ih=>
  intro i f k1 k2
  obtain ⟨f,rfl⟩:∃z,f=z+1:=⟨f-1,by omega⟩
  have hi:i<t.1.1.toNat:=by omega
  have h4:=AFf N ht h a A B hr hi t.1.1.toNat 0 N (by omega) (by omega)
  simp only [Int.natCast_zero] at h4
  show B4 _ _ _=_
  unfold B4
  simp only [Ad hT,Int.toNat_natCast,l1,Az hi,if_true,h4,Option.bind_some,A0 (show i<=100000 by omega)]
  exact ih (i+1) f (by omega) (by omega)
theorem AE8 (N:Nat) (hN:20<=N) {t:Tt} (ht:AV t=true) {T:List Tab} (B:Bool) (h:B=true->Ad3 t T) (a:List Int) (A:Tt):∀(k i f:Nat),(B=true->i+k=t.2.1.toNat)->k<f ->
  C4 N f (a,A,T,B,AN t,(i:Int),())=some (.inr (.inl (a,A,()))):=by
 obtain ⟨n1,n2,n3,p1,p2,p3,_⟩:=Bi ht
 cases B with
 | false=>
  intro k i f _ k2
  obtain ⟨f,rfl⟩:∃z,f=z+1:=⟨f-1,by omega⟩
  show Bn _ _ _=_
  unfold Bn
  simp only [AGb,if_false]
 | true=>
  have h:=h rfl
  have hl:=h.1
  intro k
  induction k with
  | zero=>
   intro i f k1 k2
   obtain ⟨f,rfl⟩:∃z,f=z+1:=⟨f-1,by omega⟩
   have e:i=T.length:=by have:=k1 rfl;omega
   subst e
   show Bn _ _ _=_
   unfold Bn
   simp only [AL,if_true,AGb,if_false]
  | succ k ih=>
   intro i f k1 k2
   have k1:=k1 rfl
   obtain ⟨f,rfl⟩:∃z,f=z+1:=⟨f-1,by omega⟩
   have hi:i<T.length:=by omega
   have h4:=AEy N hN ht h a A true (r:=i) (by omega) t.1.1.toNat 0 N (by omega) (by omega)
   simp only [Int.natCast_zero] at h4
   show Bn _ _ _=_
   unfold Bn
   simp only [Az hi,if_true,h4,Option.bind_some,A0 (show i<=100000 by omega)]
   exact ih (i+1) f (fun _=>by omega) (by omega)
theorem WV {n:Nat} {es:List E} {u:Unit} (hg:BI ((n:Int),es,u)=true) (hn:0<n) (v w:Unit):AV (((n:Int),es,v),1,List.replicate es.length [0],w)=true:=by
 have hg2:BI ((n:Int),es,v)=true:=hg
 have e1:inB 1 4 (1:Int)=true:=rfl
 have e2:(List.replicate es.length [(0:Int)]).any (MY (((n:Int),es,v),1,List.replicate es.length [0],w))=false:=by
  rw [List.any_eq_false]
  intro x hx
  rw [(List.mem_replicate.1 hx).2]
  have:MY (((n:Int),es,v),1,List.replicate es.length [0],w) [0]=false:=rfl
  simp [this]
 have hn2:(n:Int)>0:=by omega
 unfold AV
 simp only [hg2,e1,e2,hn2,List.length_replicate,decide_true,Bool.not_false,Bool.and_self]
def As8 (N:Nat) (a0:List Int):Option (Bool×Unit):=
 ((IK 0) (a0,())).bind fun r45=>
 (BO ((r45.1,(r45.2.1,())))).bind fun r46=>
 (BO ((r45.1,(r45.2.1,())))).bind fun r47=>
 if (!(r46.2.2.1==r47.2.2.1))=true then
  some (false,())
 else
  if (r46.1 != r47.1)=true then
   some (false,())
  else
   if (r46.2.1 != r47.2.1)=true then
    some (false,())
   else
    ((I7 0) (a0,())).bind fun r48=>
    (Bo ((r48.1,(r48.2.1,(r48.2.2.1,(r48.2.2.2.1,())))))).bind fun r49=>
    (Bo ((r48.1,(r48.2.1,(r48.2.2.1,(r48.2.2.2.1,())))))).bind fun r50=>
    if (r49.1 != r50.1)=true then
     some (false,())
    else
     if (!(r49.2.1==r50.2.1))=true then
      some (false,())
     else
      if (!r49.2.1)=true then
       some (true,())
      else
       ((Jq 0) (r48.1,())).bind fun r51=>
       ((Jr 0) (r48.1,())).bind fun r52=>
       if (!r51.2.1)=true then
        some (false,())
       else
        if (!r52.2.1)=true then
         some (false,())
        else
         (Dh ((r51.1,(r52.1,())))).bind fun r53=>
         if (!r53.1)=true then
          some (false,())
         else
          if (r49.1==r48.2.2.2.1)=true then
           if (r48.1.2.1 != 0)=true then
           if (Af (r48.2.1.tmod r48.1.2.1) (List.length r51.1))=true then
           if (Af r48.2.2.1 (List.length (at_ Ag r51.1 (r48.2.1.tmod r48.1.2.1).toNat)))=true then
           if (Af r48.2.2.2.1 (List.length (at_ Ai (at_ Ag r51.1 (r48.2.1.tmod r48.1.2.1).toNat) r48.2.2.1.toNat)))=true then
           some ((at_ I (at_ Ai (at_ Ag r51.1 (r48.2.1.tmod r48.1.2.1).toNat) r48.2.2.1.toNat) r48.2.2.2.1.toNat==(1:Int),()))
           else none
           else none
           else none
           else none
          else
           ((J1 0) ((r48.1,(r48.2.1,())))).bind fun r54=>
           ((MM 0) ((r54.1,(r48.2.2.2.1,())))).bind fun r55=>
           if (!r54.2.1)=true then
            some (false,())
           else
            if (!r55.2.1)=true then
             some (false,())
            else
             let x56:Int:=IntKind.wrap .i64 (r48.2.1+(1:Int))
             if (r48.1.2.1 != 0)=true then
             if (Af (x56.tmod r48.1.2.1) (List.length r51.1))=true then
             if (Af r49.1 (List.length (at_ Ag r51.1 (x56.tmod r48.1.2.1).toNat)))=true then
             if (Af r48.2.2.2.1 (List.length (at_ Ai (at_ Ag r51.1 (x56.tmod r48.1.2.1).toNat) r49.1.toNat)))=true then
             (BQ N N ((r48.1,(r48.2.1,(r48.2.2.1,(r48.2.2.2.1,(r51.1,(r55.1,(at_ Ai (at_ Ag r51.1 (x56.tmod r48.1.2.1).toNat) r49.1.toNat,(at_ I (at_ Ai (at_ Ag r51.1 (x56.tmod r48.1.2.1).toNat) r49.1.toNat) r48.2.2.2.1.toNat,((0:Int),()))))))))))).bind fun o57=>match o57 with
             | .inl d58=>
              some (d58.1,())
             | .inr (.inl d59)=>
              if (Af d59.2.2.2.1 (List.length d59.2.2.2.2.2.1))=true then
              if (decide (at_ I d59.2.2.2.2.2.1 d59.2.2.2.1.toNat>=(0:Int)))=true then
               if (d59.1.2.1 != 0)=true then
               if (Af (d59.2.1.tmod d59.1.2.1) (List.length d59.2.2.2.2.1))=true then
               if (Af d59.2.2.1 (List.length (at_ Ag d59.2.2.2.2.1 (d59.2.1.tmod d59.1.2.1).toNat)))=true then
               if (Af d59.2.2.2.1 (List.length (at_ Ai (at_ Ag d59.2.2.2.2.1 (d59.2.1.tmod d59.1.2.1).toNat) d59.2.2.1.toNat)))=true then
               let x60:Int:=IntKind.wrap .i64 (d59.2.2.2.2.2.2.1+(1:Int))
               some ((at_ I (at_ Ai (at_ Ag d59.2.2.2.2.1 (d59.2.1.tmod d59.1.2.1).toNat) d59.2.2.1.toNat) d59.2.2.2.1.toNat==x60,()))
               else none
               else none
               else none
               else none
              else
               some (false,())
              else none
             else none
             else none
             else none
             else none
theorem Asj {h:Int} {p:Nat} (h0:0<=h) (hp:0<p):(h+1).tmod (p:Int)=((((h.tmod (p:Int)).toNat+1) % p:Nat):Int):=by
 obtain ⟨m,rfl⟩:∃m:Nat,h=(m:Int):=⟨h.toNat,by omega⟩
 have e1:((m:Int)+1).tmod (p:Int)=(((m+1) % p:Nat):Int):=rfl
 have e2:((m:Int).tmod (p:Int)).toNat=m % p:=rfl
 rw [e1,e2]
 congr 1
 simp [Nat.add_mod]
theorem Aso {t:Tt} {c x y b:Int} {u:Unit} (h:trB t c x y=(b,true,u)):JA t x y=true/\inB 0 1000 c=true/\x≠y/\0<=b/\Cs (fun z=>Be t (As t c) z y) (Ay t (As t c) x) (-1) 0=b:=by
 unfold trB at h
 split at h
 ·rename_i hh
  simp only [AGc,Bool.not_eq_true',decide_eq_false_iff_not] at hh
  simp only at h
  split at h
  ·simp at h
  ·rename_i h2
   simp only [Prod.mk.injEq] at h
   obtain ⟨h3,_⟩:=h
   exact ⟨hh.1.1,hh.1.2,hh.2,by rw [<- h3];omega,h3⟩
 ·simp at h
theorem Awy {code:List Int} {u:Tt} {c:Int} {w:Unit} (d1:IK 0 (code,())=some (u,c,w)) (o1:okT u=true) {t:Tt} {h x y:Int} {w2:Unit} (d2:I7 0 (code,())=some (t,h,x,y,w2)) (o2:okT t=true):As8 1010 code=some (true,()):=by
 have gc:BO (u,c,())=some (tcB u c):=by unfold BO;simp only [o1,if_true]
 have gr:Bo (t,h,x,y,())=some (trB t h x y):=by unfold Bo;simp only [o2,if_true]
 unfold As8
 simp only [d1,gc,d2,gr,Option.bind_some,beq_self_eq_true,bne_self_eq_false,Bool.not_true,AGb,if_false]
 obtain ⟨b,ok,v,hb⟩:∃b ok v,trB t h x y=(b,ok,v):=⟨_,_,_,rfl⟩
 rw [hb]
 cases ok with
 | false=>simp only [Bool.not_false,if_true]
 | true=>
  obtain ⟨he,hc,hne,hb0,hrep⟩:=Aso hb
  obtain ⟨ht,ex,ey,hx,hy⟩:=MC he
  obtain ⟨c0,c1,c2⟩:=HR ht hc
  obtain ⟨n1,n2,n3,p1,p2,p3,_⟩:=Bi ht
  have hh:=AX.1 hc
  have et:ttB t=(AN t,true,()):=by unfold ttB;rw [if_pos ht]
  have hok3:Ja (AN t)=true:=(WR n3 (by omega) (KI ht)).1
  have hTl:(AN t).length=t.2.1.toNat:=Bw _ _ _
  obtain ⟨x',rfl⟩:∃x':Nat,x=(x':Int):=⟨_,ex⟩
  obtain ⟨y',rfl⟩:∃y':Nat,y=(y':Int):=⟨_,ey⟩
  simp only [Int.toNat_natCast] at hx hy
  have hne':x'≠y':=fun e=>hne (by rw [e])
  have hrep2:=hrep
  rw [<- hrep] at hb0
  obtain ⟨b',hbn,eb,a0,a1⟩:=Afk ht c2 hx hy hne' hb0
  rw [hrep2] at eb
  subst eb
  have hidx:Af ((As t h:Nat):Int) (AN t).length=true:=Ad (by omega)
  obtain ⟨l1,l2,l3⟩:=Nc ht c2 hx hy
  have hhigh:=Uh t (As t h) x' y'
  simp only [Ad7 t _ o2,Abt t _ o2,et,Option.bind_some,Bool.not_true,AGb,if_false,LP _ _ hok3]
  by_cases hby:(b':Int)=(y':Int)
  ·have hone:AQ t (As t h) x' y'=1:=by
    rw [a1]
    have:Be t (As t h) (b':Int) (y':Int)=0:=by unfold Be Aw;rw [if_pos hby]
    omega
   have e1:((b':Int)==(y':Int))=true:=by simpa using hby
   simp only [e1,if_true,c0,c1,hidx,Int.toNat_natCast,l1,l2,l3,Ad hx,Ad hy,hone,beq_self_eq_true]
  ·have e1:((b':Int)==(y':Int))=false:=by simpa using hby
   have hbe:b'≠y':=fun e=>hby (by rw [e])
   have eog:ogB t h=((((t.1.1.toNat:Nat):Int),Bv t ((As t h:Nat):Int),()),true,()):=by
    unfold ogB
    simp only [ht,hc,Bool.and_self,if_true]
    rw [c1,<- n1]
   have eog2:J1 0 (t,h,())=some ((((t.1.1.toNat:Nat):Int),Bv t ((As t h:Nat):Int),()),true,()):=by rw [AA8 t h () o2,eog]
   have enb:=AA3 (ZN ht ((As t h:Nat):Int)) (UX o2 ((As t h:Nat):Int)) hy ()
   have w1:IntKind.wrap .i64 (h+1)=h+1:=Bj _ (by omega) (by omega)
   have hm:(As t h+1) % t.2.1.toNat<t.2.1.toNat:=Nat.mod_lt _ (by omega)
   have emod:(h+1).tmod t.2.1=(((As t h+1) % t.2.1.toNat:Nat):Int):=by
    have:=Asj (h:=h) (p:=t.2.1.toNat) hh.1 (by omega)
    rw [<- p1] at this
    exact this
   have hidx2:Af (((As t h+1) % t.2.1.toNat:Nat):Int) (AN t).length=true:=Ad (by omega)
   obtain ⟨k1,k2,k3⟩:=Nc ht hm hbn hy
   have hcell:∀z,z<t.1.1.toNat->at_ I (at_ Ai (at_ Ag (AN t) ((As t h+1) % t.2.1.toNat)) b') z=AQ t ((As t h+1) % t.2.1.toNat) b' z:=fun z hz=>(Nc ht hm hbn hz).2.2
   have haf:Be t (As t h) (b':Int) (y':Int)=AW (AS (AO t.1.1.toNat (AQ t ((As t h+1) % t.2.1.toNat))) (b':Int)) (Ay t (As t h) (y':Int)) 0:=by
    rw [EO ht c2]
    unfold Aw
    rw [if_neg hby]
   rw [haf] at a0 a1
   obtain ⟨row,hrow⟩:∃row:List Int,at_ Ai (at_ Ag (AN t) ((As t h+1) % t.2.1.toNat)) b'=row:=⟨_,rfl⟩
   rw [hrow] at k2 k3
   rw [hrow] at hcell
   -- the worst of the ball
   have hball:∀z:Nat,z<t.1.1.toNat->(z:Int)∈Ay t (As t h) (y':Int)->AS (AO t.1.1.toNat (AQ t ((As t h+1) % t.2.1.toNat))) (b':Int) (z:Int)=at_ I row z:=fun z hz _=>by rw [Bk _ hbn hz,hcell z hz]
   have hself:(y':Int)∈Ay t (As t h) (y':Int):=Ane _ hy
   have hnear:∀z∈BE (fun y=>DR (Bv t ((As t h:Nat):Int)) (y':Int) (y:Int)) t.1.1.toNat 0,∃q:Nat,q<t.1.1.toNat/\z=(q:Int)/\(q:Int)∈Ay t (As t h) (y':Int):=fun z hz=>by
    obtain ⟨q,q1,q2,q3,rfl⟩:=GQ.1 hz
    exact ⟨q,by omega,rfl,GQ.2 ⟨q,q1,q2,by rw [q3,Bool.true_or],rfl⟩⟩
   have hnearb:∀z∈Ay t (As t h) (y':Int),z=(y':Int)\/z∈BE (fun y=>DR (Bv t ((As t h:Nat):Int)) (y':Int) (y:Int)) t.1.1.toNat 0:=fun z hz=>by
    obtain ⟨q,q1,q2,q3,rfl⟩:=GQ.1 hz
    rw [Bool.or_eq_true,decide_eq_true_eq] at q3
    rcases q3 with q3 | q3
    ·exact .inr (GQ.2 ⟨q,q1,q2,q3,rfl⟩)
    ·exact .inl q3
   have hlen:(BE (fun y=>DR (Bv t ((As t h:Nat):Int)) (y':Int) (y:Int)) t.1.1.toNat 0).length<=1000:=Nat.le_trans Kn (by omega)
   rcases B8 (AS (AO t.1.1.toNat (AQ t ((As t h+1) % t.2.1.toNat))) (b':Int)) (Ay t (As t h) (y':Int)) 0 with ⟨_,h3⟩ | ⟨h3,h4,h5⟩
   ·omega
   generalize AW (AS (AO t.1.1.toNat (AQ t ((As t h+1) % t.2.1.toNat))) (b':Int)) (Ay t (As t h) (y':Int)) 0=W at a0 a1 h3 h4 h5
   generalize BE (fun y=>DR (Bv t ((As t h:Nat):Int)) (y':Int) (y:Int)) t.1.1.toNat 0=L at enb hnear hnearb hlen
   have hy3:=h3 _ hself
   rw [hball y' hy hself] at hy3
   have key:=AEh 1010 n3 t h (x':Int) (y':Int) (AN t) L row (fun z hz=>by
    obtain ⟨q,q1,q2,_⟩:=hnear z hz
    exact ⟨q,q1,q2⟩) hlen k2 (fun z hz=>by
    obtain ⟨q,q1,rfl,q3⟩:=hnear z hz
    rw [Int.toNat_natCast,<- hball q q1 q3]
    exact (h3 _ q3).1) L.length 0 1010 (at_ I row y') (by omega) (by omega)
   simp only [Int.natCast_zero,List.drop_zero] at key
   obtain ⟨m1,m2,m3⟩:=Ars (fun z=>at_ I row z.toNat) L (at_ I row y')
   have hW:mxL (fun z=>at_ I row z.toNat) L (at_ I row y')=W:=by
    have h6:mxL (fun z=>at_ I row z.toNat) L (at_ I row y')<=W:=by
     rcases m3 with m3 | ⟨z,hz,m3⟩
     ·rw [m3];exact hy3.2
     ·obtain ⟨q,q1,rfl,q3⟩:=hnear z hz
      rw [m3]
      simp only [Int.toNat_natCast]
      rw [<- hball q q1 q3]
      exact (h3 _ q3).2
    have h7:W<=mxL (fun z=>at_ I row z.toNat) L (at_ I row y'):=by
     rcases h5 with h5 | ⟨z,hz,h5⟩
     ·rw [h5];exact Int.le_trans hy3.1 m1
     ·obtain ⟨q,q1,rfl⟩:=(Fq (t:=t) (r:=As t h) hy).2 z hz
      rw [h5,hball q q1 hz]
      rcases hnearb _ hz with e | hz2
      ·have e:q=y':=by omega
       rw [e];exact m1
      ·have:=m2 _ hz2
       simp only [Int.toNat_natCast] at this
       exact this
    omega
   rw [hW] at key
   have w2:IntKind.wrap .i64 (W+1)=W+1:=Bj _ (by omega) (by omega)
   have dy:decide (at_ I row y'>=0)=true:=decide_eq_true hy3.1
   have eN:((t.1.1.toNat:Nat):Int)=t.1.1:=n1.symm
   simp only [e1,AGb,if_false,eog2,Option.bind_some,enb,Bool.not_true,w1,c0,if_true,emod,hidx2,Int.toNat_natCast,k1,Ad hbn,hrow,k2,Ad hy,key,dy,c1,hidx,l1,Ad hx,l2,l3,w2,a1,beq_self_eq_true]
theorem Aaf {code:List Int} {u0:Unit} (hbig:(EQ (code,())).1=false) {t:Tt} {T:List Tab} {w0:Unit} (d0:Ql 0 (code,())=some (t,T,w0)) (o0:okT t=true) (oT:Ja T=true) (o64:Wm T=true)
  {u:Tt} {c:Int} {w:Unit} (d1:IK 0 (code,())=some (u,c,w)) (o1:okT u=true) {t2:Tt} {h x y:Int} {w2:Unit} (d2:I7 0 (code,())=some (t2,h,x,y,w2)) (o2:okT t2=true):B5 1010 (code,u0)=some (true,()):=by
 have tail:=Awy d1 o1 d2 o2
 have gp:D5 (t,T,())=some (tpB t T):=by unfold D5;simp only [o0,oT,o64,Bool.and_self,if_true]
 have he3:=LP (ttB t).1 () (AAn t).1
 unfold B5
 simp only [hbig,AGb,if_false,d0,Option.bind_some,Asi t T () o0 oT,gp,U5 t () o0,Ad7 t () o0,Abt t () o0,he3,beq_self_eq_true,Bool.not_true]
 cases ht:AV t with
 | false=>
  have e1:tpB t T=(false,false,()):=by unfold tpB;rw [if_neg (by simp [ht])]
  have e2:ttB t=([],false,()):=by unfold ttB;rw [if_neg (by simp [ht])]
  simp only [e1,e2,beq_self_eq_true,Bool.not_true,AGb,if_false]
  exact tail
 | true=>
  obtain ⟨n1,n2,n3,p1,p2,p3,_⟩:=Bi ht
  have hg:BI t.1=true:=(EN ht).1
  obtain ⟨b,e1⟩:∃b,tpB t T=(b,true,()):=⟨_,by unfold tpB;rw [if_pos ht]⟩
  have e2:ttB t=(AN t,true,()):=by unfold ttB;rw [if_pos ht]
  have hok3:Ja (AN t)=true:=(WR n3 (by omega) (KI ht)).1
  have hown:=Asi t (AN t) () o0 hok3
  rw [ABh ht] at hown
  have hloop:=AE8 1010 (by omega) ht b (fun hb=>Arh ht (by rw [e1];exact hb)) code t t.2.1.toNat 0 1010 (fun _=>by omega) (by omega)
  simp only [Int.natCast_zero] at hloop
  obtain ⟨⟨n,es,v⟩,p,l,q⟩:=t
  simp only at n1 n2 n3 hg
  obtain ⟨m,rfl⟩:∃m:Nat,n=(m:Int):=⟨_,n1⟩
  simp only [Int.toNat_natCast] at n2 n3
  have ho:okL es=true:=(KY o0).1
  have hrep:DV (List.replicate es.length [(0:Int)])=true:=by
   unfold DV
   rw [AGc]
   refine ⟨?_,List.all_eq_true.2 fun x hx => ?_⟩
   ·have:=Ci ho
    unfold okL
    rw [List.length_replicate]
    exact decide_eq_true this
   ·rw [(List.mem_replicate.1 hx).2]
    exact Fp (by simp)
  have hm0:decide ((m:Int)>0)=true:=decide_eq_true (by omega)
  have gs:Iu (((m:Int),es,v),())=some ((((m:Int),es,()),1,List.replicate es.length [0],()),true,()):=by
   unfold Iu We
   simp only [ho,hg,hm0,Bool.and_self,if_true]
  have os:okT (((m:Int),es,()),1,List.replicate es.length [0],())=true:=by
   unfold okT
   simp only [ho,hrep,Bool.and_self]
  have hts:=WV hg n2 () ()
  have es2:ttB (((m:Int),es,()),1,List.replicate es.length [0],())=([EX m (Bx m es)],true,()):=by
   unfold ttB
   rw [if_pos hts,UK n3]
  have hf:Ka ((m:Int),es,v) 1=true:=by
   unfold Ka
   simp only [hg,hm0,Bool.and_self,Bool.true_and]
   rfl
  have ect:P7 0 (((m:Int),es,v),1,())=some (EX m (Bx m es),true,()):=by
   rw [AC2 ho]
   unfold ACn
   have h1:(1:Int).toNat=1:=rfl
   rw [if_pos hf,h1,AAa n3]
  have hrt:FJ (EX m (Bx m es),EX m (Bx m es),())=some (true,()):=by
   unfold FJ
   have hk:DV (EX m (Bx m es))=true:=(As6 n3 (MU _ _)).1
   simp only [hk,if_true,decide_true]
  have e0:at_ Ag [EX m (Bx m es)] (0:Int).toNat=EX m (Bx m es):=rfl
  have i0:Af (0:Int) (List.length [EX m (Bx m es)])=true:=rfl
  have l1:((List.length [EX m (Bx m es)]:Int) != (1:Int))=false:=rfl
  simp only [e1,e2,beq_self_eq_true,Bool.not_true,AGb,if_false,if_true,hown,Option.bind_some,hloop,gs,Ad7 _ () os,es2,ect,l1,i0,e0,hrt]
  exact tail
theorem XV (d:List Int×Unit) (r:Bool×Unit) (h:ZL d=some r):∃N,B5 N d=some r:=by
 obtain ⟨code,u⟩:=d
 unfold ZL at h
 split at h
 ·rename_i hh
  cases AGg h
  simp only [AGc,List.all_eq_true] at hh
  have hb:∀x∈code,0<=x/\x<=255:=fun x hx=>by
   have:=hh.1 x hx
   unfold inB at this
   simpa using this
  cases hbig:(EQ (code,())).1 with
  | true=>
   refine ⟨0,?_⟩
   unfold B5
   simp only [hbig,if_true]
  | false=>
   obtain ⟨⟨t,T,w0⟩,d0,o0,oT,o64⟩:=WM (u:=()) hb
   obtain ⟨⟨t1,c,w1⟩,d1,o1⟩:=Yu (u:=()) hb
   obtain ⟨⟨t2,h,x,y,w2⟩,d2,o2⟩:=UG (u:=()) hb
   exact ⟨1010,Aaf hbig d0 o0 oT o64 d1 o1 d2 o2⟩
 ·cases h
open Go.Proofs
structure LogIs (d p:List UInt8) (c:Int):Prop where
 size:d.length+p.length<=30000
 all:(Yp 60 0 (d++p)).2=(d++p).length
 durable:(Yp 60 0 d).2=d.length
 count:((Yp 60 0 (d++p)).1.length:Int)=c
end Go.V.W
end
