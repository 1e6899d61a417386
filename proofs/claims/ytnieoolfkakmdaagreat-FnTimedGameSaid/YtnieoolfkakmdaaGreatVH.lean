/- What the law FnTimedGame leans on, part 8: an interpreter of the model as plain data, its soundness, the functions as it tells them, and their laws. -/
import Derived.Test.YtnieoolfkakmdaaGreatVG
set_option linter.unusedVariables false
set_option linter.unusedSimpArgs false
set_option maxRecDepth 100000
noncomputable section
namespace Go.V.W
open Go.Proofs
theorem Jf {α:Type} {m:List α} {x:α} {k:Nat} (h:m.length<=k) (hk:k<=100000):decide (List.length m+List.length [x]<=lim)=true:=by
 unfold lim
 simp
 omega
theorem Ar6 (N:Nat) (p n:Nat) (hn:n<=8) (out:List Tab) (r:Int) (rows:Tab) (x:Nat) (k:Nat) (hk:n<=k) :
  Nx N (k+1) ((p:Int),(n:Int),out,r,rows,(x:Int),[],(0:Int),())=some (.inl ((p:Int),(n:Int),out,r,rows,(x:Int),(List.range n).map (Br x),())):=by
 refine JR (L:=Nx N) (r:=Lz N) (fun _ _=>rfl) (n:=n) (mk:=fun i m=>((p:Int),(n:Int),out,r,rows,(x:Int),m,(i:Int),())) (f:=Br x) (o:=fun m=>.inl ((p:Int),(n:Int),out,r,rows,(x:Int),m,())) ?_ ?_ k hk
 ·intro back i m hi hm
  have hml:m.length<=8:=by rw [hm];simp;omega
  unfold Lz Br
  simp only [Az hi,if_true,Jf hml (by omega),Dt hi hn]
  by_cases e:x=i
  ·subst e;simp only [beq_self_eq_true,if_true,Jf hml (by omega)]
  ·have e':((x:Int)==(i:Int))=false:=by simpa using fun h:(x:Int)=(i:Int)=>e (by omega)
   simp only [e',e,AGb,if_false,Jf hml (by omega),if_true]
 ·intro back m _
  unfold Lz
  simp only [AL,AGb,if_false]
theorem Arq (N:Nat) (hN:10<=N) (p n:Nat) (hn:n<=8) (out:List Tab) (r:Int) (k:Nat) (hk:n<=k) :
  Nf N (k+1) ((p:Int),(n:Int),out,r,[],(0:Int),())=some (.inl ((p:Int),(n:Int),out,r,AN n Br,())):=by
 refine JR (L:=Nf N) (r:=KG N) (fun _ _=>rfl) (n:=n) (mk:=fun i m=>((p:Int),(n:Int),out,r,m,(i:Int),())) (f:=fun x=>(List.range n).map (Br x)) (o:=fun m=>.inl ((p:Int),(n:Int),out,r,m,())) ?_ ?_ k hk
 ·intro back i m hi hm
  have hml:m.length<=8:=by rw [hm];simp;omega
  have h4:=Ar6 N p n hn out r m i (N-1) (by omega)
  rw [show N-1+1=N by omega] at h4
  unfold KG
  simp only [Az hi,if_true,h4,Option.bind_some,Jf hml (by omega),Dt hi hn]
 ·intro back m _
  unfold KG
  simp only [AL,AGb,if_false]
theorem WS (d) (r) (h:Ev d=some r):∃N,XD N d=some r:=by
 obtain ⟨p,n,_⟩:=d
 unfold Ev at h
 split at h
 ·rename_i hc
  simp only [AGc] at hc
  have hp:=AY.1 hc.1
  have hn:=AY.1 hc.2
  have h:=AGg h
  subst h
  have ep:p=(p.toNat:Int):=by omega
  have en:n=(n.toNat:Int):=by omega
  have hn8:n.toNat<=8:=by omega
  have hp8:p.toNat<=8:=by omega
  refine ⟨20,?_⟩
  unfold XD
  have:=JR (L:=Sh 20) (r:=K7 20) (fun _ _=>rfl) (n:=p.toNat) (mk:=fun i m=>((p.toNat:Int),(n.toNat:Int),m,(i:Int),())) (f:=fun _=>AN n.toNat Br) (o:=fun m=>.inl (m,()))
   (by
    intro back i m hi hm
    have hml:m.length<=8:=by rw [hm];simp;omega
    have h4:=Arq 20 (by omega) p.toNat n.toNat hn8 m (i:Int) 19 (by omega)
    unfold K7
    simp only [Az hi,if_true,h4,Option.bind_some,Jf hml (by omega),Dt hi hp8])
   (by
    intro back m _
    unfold K7
    simp only [AL,AGb,if_false]) 19 (by omega)
  simp only [Int.natCast_zero,<- ep,<- en] at this
  simp only [this,Option.bind_some]
  rfl
 ·cases h
theorem Acx (d) (r) (h:HF d=some r):∃N,Sj N d=some r:=by
 obtain ⟨B,T,r0,c0,q0,_⟩:=d
 unfold HF at h
 split at h
 ·rename_i hA
  have hc:=hA
  unfold okA at hc
  simp only [AGc,decide_eq_true_eq] at hc
  obtain ⟨⟨⟨⟨⟨hB,h8⟩,hT⟩,hr0⟩,hc0⟩,hq0⟩:=hc
  have h:=AGg h
  subst h
  obtain ⟨B1,B2,B3⟩:=Ig hB
  obtain ⟨er,hr⟩:=Dn hr0
  obtain ⟨ec,hc⟩:=Dn hc0
  obtain ⟨eq,hq⟩:=Dn hq0
  generalize r0.toNat=r at er hr
  generalize c0.toNat=c at ec hc
  generalize q0.toNat=q at eq hq
  subst er ec eq
  obtain ⟨b1,b2⟩:=B3 r hr
  have hcB:c<B[r].length:=by omega
  obtain ⟨b3,b4⟩:=b2 c hcB
  have eb:CJ B (r:Int) (c:Int)=B[r][c]:=by
   unfold CJ
   simp only [Int.toNat_natCast,BI hr,BI hcB]
  have hmx:B[r][c].length<=maxLen:=by unfold maxLen;omega
  refine ⟨20,?_⟩
  unfold Sj
  have key:=Co (L:=NB 20) (r:=Jr 20) (fun _ _=>rfl) B[r][c] (mk:=fun i=>(B,T,(r:Int),(c:Int),(q:Int),(i:Int),())) (q:=fun b => !decide (0<=Aw (CJ B (r:Int)) (Cu B.length T (r:Int)) b (q:Int))) (o:=.inl (true,())) (f:=.inr (.inl ()))
   (by
    intro back i hi
    obtain ⟨y,hy,ey⟩:=b4 B[r][c][i] (AGk hi)
    have hA:=Tz (u:=()) hB h8 hT hr hy hq
    unfold Jr
    simp only [Ad hr,Ad hcB,Ad hi,Int.toNat_natCast,BC (e:=Ag) hr,BC (e:=Ai) hcB,BC (e:=I) hi,Az hi,if_true,ey,CS,hA,Option.bind_some,A1 hi hmx,ge_iff_le]
    cases decide (0<=Aw (CJ B (r:Int)) (Cu B.length T (r:Int)) (y:Int) (q:Int))<;>rfl)
   (by
    intro back
    unfold Jr
    simp only [Ad hr,Ad hcB,Int.toNat_natCast,BC (e:=Ag) hr,BC (e:=Ai) hcB,AL,if_true,AGb,if_false]) 19 0 (by omega) (by omega)
  simp only [Int.natCast_zero,List.drop_zero] at key
  simp only [key,eb]
  have ea:∀(p:Int->Bool) (l:List Int),(l.all fun b => !p b) = !l.any p:=fun p l=>by simp [List.all_eq_not_any_not]
  rw [ea]
  cases (B[r][c].any fun b=>decide (0<=Aw (CJ B (r:Int)) (Cu B.length T (r:Int)) b (q:Int)))<;>rfl
 ·cases h
def Ga (h g:Nat->Nat->Nat->Int) (r c i:Nat):Nat->Nat->Nat->Int:=fun a b d=>if a=r/\b=c/\d<i then h a b d else g a b d
def JN (h g:Nat->Nat->Nat->Int) (r i:Nat):Nat->Nat->Nat->Int:=fun a b d=>if a=r/\b<i then h a b d else g a b d
def LH (h g:Nat->Nat->Nat->Int) (i:Nat):Nat->Nat->Nat->Int:=fun a b d=>if a<i then h a b d else g a b d
theorem Ar9 {t:Tt} (ht:AV t=true) (f:Nat->Nat->Nat->Int) {r c q:Nat} (hr:r<t.2.1.toNat) (hc:c<t.1.1.toNat) (hq:q<t.1.1.toNat) (hf:f r c q<0) :
  HF (A2 t,A8 t.2.1.toNat t.1.1.toNat f,(r:Int),(c:Int),(q:Int),())=some (Ba t.2.1.toNat t.1.1.toNat (Ay t) f r c q,()):=by
 obtain ⟨b1,b2,b3,b4⟩:=K4 ht
 obtain ⟨n1,n2,n3,p1,p2,p3,_⟩:=Bi ht
 have hA:okA (A2 t,A8 t.2.1.toNat t.1.1.toNat f,(r:Int),(c:Int),(q:Int),())=true:=Tz (by rw [b3];exact b1) (by omega) (by rw [b2,b3];exact Ahp _ _ _) (by omega) (by omega) (by omega)
 unfold HF Ba
 have hd:decide (f r c q<0)=true:=decide_eq_true hf
 simp only [hA,if_true,b2,Vi f hr (show t.2.1.toNat<=8 by omega),hd,Bool.true_and]
 rw [b4 r hr c hc]
 congr 2
 apply congrArg
 funext b
 rw [IV (b1:=CJ (A2 t) (r:Int)) (b2:=Ay t r) (b4 r hr q hq)]
theorem Amc (N:Nat) (t:Tt) (ht:AV t=true) (f g:Nat->Nat->Nat->Int) (m:Int) (fl:Bool) (r c:Nat) (hr:r<t.2.1.toNat) (hc:c<t.1.1.toNat) (k:Nat) (hk:t.1.1.toNat<=k) :
  NO N (k+1) (t,A2 t,A8 t.2.1.toNat t.1.1.toNat f,m,A8 t.2.1.toNat t.1.1.toNat g,fl,(r:Int),(c:Int),(0:Int),()) =
   some (.inl (t,A2 t,A8 t.2.1.toNat t.1.1.toNat f,m,A8 t.2.1.toNat t.1.1.toNat (Ga (Bb t.2.1.toNat t.1.1.toNat (Ay t) m f) g r c t.1.1.toNat),fl||(List.range t.1.1.toNat).any (Ba t.2.1.toNat t.1.1.toNat (Ay t) f r c),(r:Int),(c:Int),())):=by
 obtain ⟨n1,n2,n3,p1,p2,p3,_⟩:=Bi ht
 have h0:A8 t.2.1.toNat t.1.1.toNat g=A8 t.2.1.toNat t.1.1.toNat (Ga (Bb t.2.1.toNat t.1.1.toNat (Ay t) m f) g r c 0):=B6 fun a b d _ _ _=>by unfold Ga;simp
 have:=D5 (L:=NO N) (r:=Lq N) (fun _ _=>rfl) (n:=t.1.1.toNat) (mk:=fun i=>(t,A2 t,A8 t.2.1.toNat t.1.1.toNat f,m,A8 t.2.1.toNat t.1.1.toNat (Ga (Bb t.2.1.toNat t.1.1.toNat (Ay t) m f) g r c i),fl||(List.range i).any (Ba t.2.1.toNat t.1.1.toNat (Ay t) f r c),(r:Int),(c:Int),(i:Int),()))
  (o:=.inl (t,A2 t,A8 t.2.1.toNat t.1.1.toNat f,m,A8 t.2.1.toNat t.1.1.toNat (Ga (Bb t.2.1.toNat t.1.1.toNat (Ay t) m f) g r c t.1.1.toNat),fl||(List.range t.1.1.toNat).any (Ba t.2.1.toNat t.1.1.toNat (Ay t) f r c),(r:Int),(c:Int),()))
  (by
   intro back i hi
   generalize hh:Bb t.2.1.toNat t.1.1.toNat (Ay t) m f=h
   have e1:∀v,h r c i=v->A8 t.2.1.toNat t.1.1.toNat (M7 (Ga h g r c i) r c i v)=A8 t.2.1.toNat t.1.1.toNat (Ga h g r c (i+1)):=fun v hv=>B6 fun a b d _ _ _=>by
    unfold M7 Ga
    by_cases h1:a=r/\b=c/\d=i
    ·obtain ⟨rfl,rfl,rfl⟩:=h1
     rw [if_pos ⟨rfl,rfl,rfl⟩,if_pos ⟨rfl,rfl,Nat.lt_succ_self _⟩,hv]
    ·rw [if_neg h1]
     by_cases h2:a=r/\b=c/\d<i
     ·rw [if_pos h2,if_pos ⟨h2.1,h2.2.1,by omega⟩]
     ·rw [if_neg h2,if_neg (fun h3=>h2 ⟨h3.1,h3.2.1,by
       have:d≠i:=fun e=>h1 ⟨h3.1,h3.2.1,e⟩
       omega⟩)]
   have e2:∀v w,M7 (M7 (Ga h g r c i) r c i v) r c i w=M7 (Ga h g r c i) r c i w:=fun v w=>by
    funext a b d
    unfold M7
    split<;>rfl
   have ea:(List.range (i+1)).any (Ba t.2.1.toNat t.1.1.toNat (Ay t) f r c)=((List.range i).any (Ba t.2.1.toNat t.1.1.toNat (Ay t) f r c)||Ba t.2.1.toNat t.1.1.toNat (Ay t) f r c i):=by
    rw [List.range_succ,List.any_append]
    simp
   have hi':decide ((i:Int)<t.1.1)=true:=by simp;omega
   unfold Lq
   have l3:∀f,(A8 t.2.1.toNat t.1.1.toNat f).length=t.2.1.toNat:=Bv _ _
   simp only [hi',if_true,l3,Ad hr,Int.toNat_natCast,Ft _ hr,Cr,Ad hc,D8 _ hc,K0,Ad hi,Af5 _ hi,Dt hi n3]
   have es:List.set (A8 t.2.1.toNat t.1.1.toNat (Ga h g r c i)) r (List.set (AN t.1.1.toNat (Ga h g r c i r)) c (List.set ((List.range t.1.1.toNat).map (Ga h g r c i r c)) i (f r c i)))=A8 t.2.1.toNat t.1.1.toNat (M7 (Ga h g r c i) r c i (f r c i)):=Us _ hr hc hi _
   rw [es]
   by_cases hf:f r c i<0
   ·simp only [hf,decide_true,if_true,Ar9 ht f hr hc hi hf,Option.bind_some]
    cases hcan:Ba t.2.1.toNat t.1.1.toNat (Ay t) f r c i with
    | true=>
     have hv:h r c i=m:=by rw [<- hh];unfold Bb;rw [if_pos hcan]
     simp only [if_true,l3,Ad hr,Ft _ hr,Cr,Ad hc,D8 _ hc,K0,Ad hi,ea,hcan,Bool.or_true]
     rw [Us _ hr hc hi,e2,e1 m hv]
    | false=>
     have hv:h r c i=f r c i:=by rw [<- hh];unfold Bb;rw [if_neg (by rw [hcan];simp)]
     simp only [AGb,if_false,ea,hcan,Bool.or_false]
     rw [e1 _ hv]
   ·have hcan:Ba t.2.1.toNat t.1.1.toNat (Ay t) f r c i=false:=by unfold Ba;simp [hf]
    have hv:h r c i=f r c i:=by rw [<- hh];unfold Bb;rw [if_neg (by rw [hcan];simp)]
    simp only [hf,decide_false,AGb,if_false,ea,hcan,Bool.or_false]
    rw [e1 _ hv])
  (by
   intro back
   have hi':decide ((t.1.1.toNat:Int)<t.1.1)=false:=by simp;omega
   unfold Lq
   simp only [hi',AGb,if_false]) k hk
 simp only [List.range_zero,List.any_nil,Bool.or_false,Int.natCast_zero] at this
 rw [<- h0] at this
 exact this
theorem Ai9 (N:Nat) (hN:10<=N) (t:Tt) (ht:AV t=true) (f g:Nat->Nat->Nat->Int) (m:Int) (fl:Bool) (r:Nat) (hr:r<t.2.1.toNat) (k:Nat) (hk:t.1.1.toNat<=k) :
  NF N (k+1) (t,A2 t,A8 t.2.1.toNat t.1.1.toNat f,m,A8 t.2.1.toNat t.1.1.toNat g,fl,(r:Int),(0:Int),()) =
   some (.inl (t,A2 t,A8 t.2.1.toNat t.1.1.toNat f,m,A8 t.2.1.toNat t.1.1.toNat (JN (Bb t.2.1.toNat t.1.1.toNat (Ay t) m f) g r t.1.1.toNat),fl||(List.range t.1.1.toNat).any (fun c=>(List.range t.1.1.toNat).any (Ba t.2.1.toNat t.1.1.toNat (Ay t) f r c)),(r:Int),())):=by
 obtain ⟨n1,n2,n3,p1,p2,p3,_⟩:=Bi ht
 have h0:A8 t.2.1.toNat t.1.1.toNat g=A8 t.2.1.toNat t.1.1.toNat (JN (Bb t.2.1.toNat t.1.1.toNat (Ay t) m f) g r 0):=B6 fun a b d _ _ _=>by unfold JN;simp
 have:=D5 (L:=NF N) (r:=K9 N) (fun _ _=>rfl) (n:=t.1.1.toNat) (mk:=fun i=>(t,A2 t,A8 t.2.1.toNat t.1.1.toNat f,m,A8 t.2.1.toNat t.1.1.toNat (JN (Bb t.2.1.toNat t.1.1.toNat (Ay t) m f) g r i),fl||(List.range i).any (fun c=>(List.range t.1.1.toNat).any (Ba t.2.1.toNat t.1.1.toNat (Ay t) f r c)),(r:Int),(i:Int),()))
  (o:=.inl (t,A2 t,A8 t.2.1.toNat t.1.1.toNat f,m,A8 t.2.1.toNat t.1.1.toNat (JN (Bb t.2.1.toNat t.1.1.toNat (Ay t) m f) g r t.1.1.toNat),fl||(List.range t.1.1.toNat).any (fun c=>(List.range t.1.1.toNat).any (Ba t.2.1.toNat t.1.1.toNat (Ay t) f r c)),(r:Int),()))
  (by
   intro back i hi
   have hi':decide ((i:Int)<t.1.1)=true:=by simp;omega
   have h6:=Amc N t ht f (JN (Bb t.2.1.toNat t.1.1.toNat (Ay t) m f) g r i) m (fl||(List.range i).any (fun c=>(List.range t.1.1.toNat).any (Ba t.2.1.toNat t.1.1.toNat (Ay t) f r c))) r i hr hi (N-1) (by omega)
   rw [show N-1+1=N by omega] at h6
   have e1:A8 t.2.1.toNat t.1.1.toNat (Ga (Bb t.2.1.toNat t.1.1.toNat (Ay t) m f) (JN (Bb t.2.1.toNat t.1.1.toNat (Ay t) m f) g r i) r i t.1.1.toNat)=A8 t.2.1.toNat t.1.1.toNat (JN (Bb t.2.1.toNat t.1.1.toNat (Ay t) m f) g r (i+1)):=B6 fun a b d _ _ hd=>by
    unfold Ga JN
    by_cases h1:a=r/\b=i
    ·rw [if_pos ⟨h1.1,h1.2,hd⟩,if_pos ⟨h1.1,by omega⟩]
    ·rw [if_neg (fun h=>h1 ⟨h.1,h.2.1⟩)]
     by_cases h2:a=r/\b<i
     ·rw [if_pos h2,if_pos ⟨h2.1,by omega⟩]
     ·rw [if_neg h2,if_neg (fun h3=>h2 ⟨h3.1,by
       have:b≠i:=fun e=>h1 ⟨h3.1,e⟩
       omega⟩)]
   have ea:(List.range (i+1)).any (fun c=>(List.range t.1.1.toNat).any (Ba t.2.1.toNat t.1.1.toNat (Ay t) f r c))=((List.range i).any (fun c=>(List.range t.1.1.toNat).any (Ba t.2.1.toNat t.1.1.toNat (Ay t) f r c))||(List.range t.1.1.toNat).any (Ba t.2.1.toNat t.1.1.toNat (Ay t) f r i)):=by
    rw [List.range_succ,List.any_append]
    simp
   unfold K9
   simp only [hi',if_true,h6,Option.bind_some,Dt hi n3,e1,ea,Bool.or_assoc])
  (by
   intro back
   have hi':decide ((t.1.1.toNat:Int)<t.1.1)=false:=by simp;omega
   unfold K9
   simp only [hi',AGb,if_false]) k hk
 simp only [List.range_zero,List.any_nil,Bool.or_false,Int.natCast_zero] at this
 rw [<- h0] at this
 exact this
theorem Ajl (N:Nat) (hN:10<=N) (t:Tt) (ht:AV t=true) (f g:Nat->Nat->Nat->Int) (m:Int) (k:Nat) (hk:t.2.1.toNat<=k) :
  Nm N (k+1) (t,A2 t,A8 t.2.1.toNat t.1.1.toNat f,m,A8 t.2.1.toNat t.1.1.toNat g,false,(0:Int),()) =
   some (.inl (t,A2 t,m,A8 t.2.1.toNat t.1.1.toNat (Bb t.2.1.toNat t.1.1.toNat (Ay t) m f),IO t.2.1.toNat t.1.1.toNat (Ba t.2.1.toNat t.1.1.toNat (Ay t) f),())):=by
 obtain ⟨n1,n2,n3,p1,p2,p3,_⟩:=Bi ht
 have h0:A8 t.2.1.toNat t.1.1.toNat g=A8 t.2.1.toNat t.1.1.toNat (LH (Bb t.2.1.toNat t.1.1.toNat (Ay t) m f) g 0):=B6 fun a b d _ _ _=>by unfold LH;simp
 have hz:A8 t.2.1.toNat t.1.1.toNat (LH (Bb t.2.1.toNat t.1.1.toNat (Ay t) m f) g t.2.1.toNat)=A8 t.2.1.toNat t.1.1.toNat (Bb t.2.1.toNat t.1.1.toNat (Ay t) m f):=B6 fun a b d ha _ _=>by unfold LH;rw [if_pos ha]
 have:=D5 (L:=Nm N) (r:=Le N) (fun _ _=>rfl) (n:=t.2.1.toNat) (mk:=fun i=>(t,A2 t,A8 t.2.1.toNat t.1.1.toNat f,m,A8 t.2.1.toNat t.1.1.toNat (LH (Bb t.2.1.toNat t.1.1.toNat (Ay t) m f) g i),(List.range i).any (fun r=>(List.range t.1.1.toNat).any (fun c=>(List.range t.1.1.toNat).any (Ba t.2.1.toNat t.1.1.toNat (Ay t) f r c))),(i:Int),()))
  (o:=.inl (t,A2 t,m,A8 t.2.1.toNat t.1.1.toNat (LH (Bb t.2.1.toNat t.1.1.toNat (Ay t) m f) g t.2.1.toNat),(List.range t.2.1.toNat).any (fun r=>(List.range t.1.1.toNat).any (fun c=>(List.range t.1.1.toNat).any (Ba t.2.1.toNat t.1.1.toNat (Ay t) f r c))),()))
  (by
   intro back i hi
   have hi':decide ((i:Int)<t.2.1)=true:=by simp;omega
   have h4:=Ai9 N hN t ht f (LH (Bb t.2.1.toNat t.1.1.toNat (Ay t) m f) g i) m ((List.range i).any (fun r=>(List.range t.1.1.toNat).any (fun c=>(List.range t.1.1.toNat).any (Ba t.2.1.toNat t.1.1.toNat (Ay t) f r c)))) i hi (N-1) (by omega)
   rw [show N-1+1=N by omega] at h4
   have e1:A8 t.2.1.toNat t.1.1.toNat (JN (Bb t.2.1.toNat t.1.1.toNat (Ay t) m f) (LH (Bb t.2.1.toNat t.1.1.toNat (Ay t) m f) g i) i t.1.1.toNat)=A8 t.2.1.toNat t.1.1.toNat (LH (Bb t.2.1.toNat t.1.1.toNat (Ay t) m f) g (i+1)):=B6 fun a b d _ hb _=>by
    unfold JN LH
    by_cases h1:a=i
    ·rw [if_pos ⟨h1,hb⟩,if_pos (by omega)]
    ·rw [if_neg (fun h=>h1 h.1)]
     by_cases h2:a<i
     ·rw [if_pos h2,if_pos (by omega)]
     ·rw [if_neg h2,if_neg (by omega)]
   have ea:(List.range (i+1)).any (fun r=>(List.range t.1.1.toNat).any (fun c=>(List.range t.1.1.toNat).any (Ba t.2.1.toNat t.1.1.toNat (Ay t) f r c)))=((List.range i).any (fun r=>(List.range t.1.1.toNat).any (fun c=>(List.range t.1.1.toNat).any (Ba t.2.1.toNat t.1.1.toNat (Ay t) f r c)))||(List.range t.1.1.toNat).any (fun c=>(List.range t.1.1.toNat).any (Ba t.2.1.toNat t.1.1.toNat (Ay t) f i c))):=by
    rw [List.range_succ,List.any_append]
    simp
   unfold Le
   simp only [hi',if_true,h4,Option.bind_some,Dt (show i<8 by omega) (AGf 8),e1,ea])
  (by
   intro back
   have hi':decide ((t.2.1.toNat:Int)<t.2.1)=false:=by simp;omega
   unfold Le
   simp only [hi',AGb,if_false]) k hk
 simp only [List.range_zero,List.any_nil,Int.natCast_zero] at this
 rw [<- h0,hz] at this
 exact this
theorem LN {t:Tt} (ht:AV t=true):Ev (t.2.1,t.1.1,())=some (A8 t.2.1.toNat t.1.1.toNat BK,()):=by
 obtain ⟨n1,n2,n3,p1,p2,p3,_⟩:=Bi ht
 unfold Ev
 have e1:inB 0 8 t.2.1=true:=AY.2 (by omega)
 have e2:inB 0 8 t.1.1=true:=AY.2 (by omega)
 simp only [e1,e2,Bool.and_self,if_true]
theorem Alh (N:Nat) (hN:20<=N) (t:Tt) (ht:AV t=true):∀(k m:Nat) (f:Nat->Nat->Nat->Int),m+k<=5000->NJ t.2.1.toNat t.1.1.toNat f<k -> ∀fu,k<=fu ->
  Nl N fu (t,A2 t,A8 t.2.1.toNat t.1.1.toNat f,(m:Int),())=some (.inl (A8 t.2.1.toNat t.1.1.toNat (Da t.2.1.toNat t.1.1.toNat (Ay t) k (m:Int) f),())):=by
 obtain ⟨n1,n2,n3,p1,p2,p3,_⟩:=Bi ht
 intro k
 induction k with
 | zero=>intro m f _ h;omega
 | succ k ih=>
  intro m f hm hng fu hfu
  obtain ⟨fu,rfl⟩:∃z,fu=z+1:=⟨fu-1,by omega⟩
  have h2:=Ajl N (by omega) t ht f BK (m:Int) (N-1) (by omega)
  rw [show N-1+1=N by omega] at h2
  have hw:IntKind.wrap .i64 ((m:Int)+1)=((m+1:Nat):Int):=by
   rw [Bj _ (by omega) (by omega)]
   rfl
  show Oy N (Nl N fu) _=_
  unfold Oy
  simp only [LN ht,Option.bind_some,h2,hw,Da]
  by_cases ha:IO t.2.1.toNat t.1.1.toNat (Ba t.2.1.toNat t.1.1.toNat (Ay t) f)=true
  ·rw [if_pos ha,ha]
   simp only [Bool.not_true,AGb,if_false]
   have:=Mz (t:=(m:Int)) (by omega) ha
   exact ih (m+1) _ (by omega) (by omega) fu (by omega)
  ·have ha':IO t.2.1.toNat t.1.1.toNat (Ba t.2.1.toNat t.1.1.toNat (Ay t) f)=false:=(Bool.not_eq_true _).mp ha
   rw [if_neg ha,ha']
   have e:A8 t.2.1.toNat t.1.1.toNat (Bb t.2.1.toNat t.1.1.toNat (Ay t) (m:Int) f)=A8 t.2.1.toNat t.1.1.toNat f:=B6 fun a b d h1 h2 h3=>by
    unfold Bb
    refine if_neg fun h=>ha ?_
    exact EM.2 ⟨a,b,d,h1,h2,h3,h⟩
   rw [e]
   rfl
theorem SS {t:Tt} (ht:AV t=true):NJ t.2.1.toNat t.1.1.toNat BK<520:=by
 obtain ⟨n1,n2,n3,p1,p2,p3,_⟩:=Bi ht
 have h:=ZT t.2.1.toNat t.1.1.toNat BK
 have h1:t.1.1.toNat*t.1.1.toNat<=8*8:=Nat.mul_le_mul n3 n3
 have h2:t.2.1.toNat*(t.1.1.toNat*t.1.1.toNat)<=4*(8*8):=Nat.mul_le_mul p3 h1
 omega
theorem Xv (d) (r) (h:Dh d=some r):∃N,VK N d=some r:=by
 obtain ⟨t,_⟩:=d
 unfold Dh at h
 split at h
 ·rename_i hc
  simp only [AGc] at hc
  obtain ⟨ht,ho⟩:=hc
  have h:=AGg h
  subst h
  refine ⟨600,?_⟩
  unfold VK
  have key:=Alh 600 (by omega) t ht 520 1 BK (by omega) (SS ht) 600 (by omega)
  simp only [Int.natCast_one] at key
  simp only [Dp,ht,ho,Bool.and_self,if_true,Option.bind_some,LN ht,key]
  rfl
 ·cases h
open Go.Proofs
theorem UK {l:List Int} (hn:Es l=true) (u v w x:Unit) (fv:Unit×Unit) {T:Tab} (hT:sqL l.length T=true) {b q:Nat} (hb:b<l.length) (hq:q<l.length) :
  Sd ((b:Int),(v,(q:Int),(l,u),T,fv,w),x)=some (decide (0<=Aw (AH l) T (b:Int) (q:Int)),()):=by
 obtain ⟨t1,t2⟩:=Ci hT
 unfold Sd XV VZ S6 Aw
 by_cases e:(b:Int)=(q:Int)
 ·simp [e]
 ·have e':((b:Int)==(q:Int))=false:=by simpa using e
  have i1:Af (b:Int) T.length=true:=Ad (by omega)
  have hlen:decide ((at_ Ai T b).length=l.length)=true:=decide_eq_true (t2 b hb)
  have hw:AW (fun z=>(at_ Ai T b).getD z.toNat 0) (AH l (q:Int)) 0=AW (AS T (b:Int)) (AH l (q:Int)) 0:=EL fun z hz=>by
   have hlt:b<T.length:=by omega
   unfold AS
   rw [BC (e:=Ai) hlt,Int.toNat_natCast,BI hlt]
  simp only [e',e,AGb,if_false,i1,if_true,Int.toNat_natCast,BG,hn,hlen,GE hq,Bool.and_self,Option.bind_some,hw,ge_iff_le]
  cases decide (0<=AW (AS T (b:Int)) (AH l (q:Int)) 0)<;>rfl
theorem Zk (d) (r) (h:Io d=some r):∃N,Ah2 N d=some r:=by
 obtain ⟨xs,⟨v,q,⟨l,u⟩,T,fv,w⟩,_⟩:=d
 unfold Io at h
 split at h
 ·rename_i hc
  simp only [AGc] at hc
  obtain ⟨⟨⟨⟨hn,hT⟩,hq⟩,hxs⟩,hlen⟩:=hc
  have hlen:xs.length<=1000:=of_decide_eq_true hlen
  obtain ⟨q1,q2⟩:=Dn hq
  have h:=AGg h
  subst h
  have hmx:xs.length<=maxLen:=by unfold maxLen;omega
  refine ⟨xs.length+1,?_⟩
  unfold Ah2
  have:=E4 (L:=X1 (xs.length+1)) (r:=NH (xs.length+1)) (fun _ _=>rfl) (e:=I) xs (mk:=fun i=>(xs,(v,q,(l,u),T,fv,w),(xs.length:Int),(i:Int),())) (q:=fun b=>decide (0<=Aw (AH l) T b q)) (o:=fun i=>.inl ((i:Int),())) (f:=.inr (.inl ()))
   (by
    intro back i hi
    have hx:at_ I xs i=xs[i]:=AM (e:=I) hi
    obtain ⟨b1,b2⟩:=Dn (List.all_eq_true.1 hxs xs[i] (AGk hi))
    have hcan:=UK hn u v w () fv hT b2 q2
    rw [<- b1,<- q1] at hcan
    unfold NH
    simp only [Az hi,if_true,Ad hi,Int.toNat_natCast,A1 hi hmx,hx,hcan,Option.bind_some])
   (by intro back;unfold NH;simp only [AL,AGb,if_false]) xs.length 0 (by omega) (by omega)
  simp only [Int.natCast_zero,List.drop_zero] at this
  simp only [this,Option.bind_some]
  cases Gs (fun b=>decide (0<=Aw (AH l) T b q)) xs 0<;>rfl
 ·cases h
theorem RD {l:List Int} (hn:Es l=true) (u x:Unit) (fv:Unit×Unit) {T:Tab} (hT:sqL l.length T=true) {c q:Nat} (hc:c<l.length) (hq:q<l.length) :
  TQ 0 ((l,u),T,(c:Int),(q:Int),fv,x)=some ((AH l (c:Int)).any (fun b=>decide (0<=Aw (AH l) T b (q:Int))),()):=by
 unfold TQ Aib
 have hall:(AH l (c:Int)).all (inB 0 ((l.length:Int)-1))=true:=List.all_eq_true.2 fun z hz=>by
  obtain ⟨y,hy,rfl⟩:=ND hn c hc z hz
  exact GE hy
 have hbl:=D3 l (c:Int)
 have hs1:Ac8 (AH l (c:Int))=true:=decide_eq_true (by omega)
 simp only [NE hn u hc,Ug hn hc,Option.bind_some,Io,hn,hT,GE hq,hall,hs1,Bool.and_self,if_true,FA]
def Eb (p n r i:Nat):List Tab:=(List.range p).map fun a=>if a<r then AN n Br else if a=r then (List.range i).map (fun c=>(List.range n).map (Br c)) else []
theorem O9 (p n r i:Nat):(Eb p n r i).length=p:=by simp [Eb]
theorem QV {p n r i j:Nat} (hj:j<p) (h:j<(Eb p n r i).length):(Eb p n r i)[j]=if j<r then AN n Br else if j=r then (List.range i).map (fun c=>(List.range n).map (Br c)) else []:=by
 apply AGg
 rw [<- AGn h]
 unfold Eb
 rw [List.getElem?_map,List.getElem?_range hj]
 rfl
theorem Ato {p n r i:Nat} (hr:r<p):at_ Ag (Eb p n r i) r=(List.range i).map (fun c=>(List.range n).map (Br c)):=by
 have h:r<(Eb p n r i).length:=by rw [O9];exact hr
 rw [BC (e:=Ag) h,QV hr h]
 simp
theorem Am2 {p n r i:Nat} (hr:r<p):List.set (Eb p n r i) r ((List.range i).map (fun c=>(List.range n).map (Br c))++[(List.range n).map (Br i)])=Eb p n r (i+1):=by
 apply List.ext_getElem
 ·simp [Eb]
 ·intro j h1 h2
  have hj:j<p:=by rw [O9] at h2;exact h2
  rw [List.getElem_set,QV (i:=i+1) hj h2]
  by_cases e:r=j
  ·subst e
   simp [List.range_succ]
  ·rw [if_neg e,QV hj]
   have e':¬j=r:=fun h=>e h.symm
   simp only [e',if_false]
theorem Acv (p n r:Nat):Eb p n r n=Eb p n (r+1) 0:=by
 unfold Eb
 refine List.map_congr_left fun a _ => ?_
 by_cases h1:a<r
 ·rw [if_pos h1,if_pos (by omega)]
 ·by_cases h2:a=r
  ·subst h2
   rw [if_neg h1,if_pos rfl,if_pos (by omega)]
   rfl
  ·rw [if_neg h1,if_neg h2,if_neg (by omega)]
   by_cases h3:a=r+1
   ·rw [if_pos h3];rfl
   ·rw [if_neg h3]
theorem YZ {n:Nat} (h1:1<=n) (h8:n<=8):DV ([-1],(n:Int),())=some (List.replicate n (-1),()):=by
 unfold DV
 have e1:decide (1<=(n:Int))=true:=by simp;omega
 have e2:decide ((n:Int)<=8)=true:=by simp;omega
 simp only [List.length_singleton,decide_true,e1,e2,Bool.and_self,if_true,Int.toNat_natCast,List.headD_cons]
theorem ADx (N:Nat) (nets:List Nt) (p n r:Nat) (hr:r<p) (hn:n<=8) (s25 s26:Int) (k:Nat) (hk:n<=k) :
  NA N (k+1) (nets,(n:Int),Eb p n r 0,(r:Int),s25,s26,(n:Int),(0:Int),())=some (.inl (nets,(n:Int),Eb p n (r+1) 0,s25,s26,())):=by
 rw [<- Acv]
 refine D5 (L:=NA N) (r:=K5 N) (fun _ _=>rfl) (n:=n) (mk:=fun i=>(nets,(n:Int),Eb p n r i,(r:Int),s25,s26,(n:Int),(i:Int),())) ?_ ?_ k hk
 ·intro back i hi
  have i3:Af (i:Int) (List.replicate n (-1:Int)).length=true:=Ad (by simp;exact hi)
  have hml:(List.map (fun c=>List.map (Br c) (List.range n)) (List.range i)).length<=8:=by simp;omega
  have hb:(Nat.beq r r&&true)=true:=by simp
  unfold K5
  simp only [Az hi,if_true,YZ (show 1<=n by omega) hn,Option.bind_some,i3,Int.toNat_natCast,O9,Ad hr,Ato hr,Ajr n i hi,Jf hml (by omega),hb,Am2 hr,Dt hi hn]
 ·intro back
  unfold K5
  simp only [AL,AGb,if_false]
theorem AEd (N:Nat) (hN:10<=N) (nets:List Nt) (p n:Nat) (hn:n<=8) (hp:p<=8) (k:Nat) (hk:p<=k) :
  NK N (k+1) (nets,(n:Int),List.replicate p [],(p:Int),(0:Int),())=some (.inl (nets,(n:Int),A8 p n BK,())):=by
 have h0:List.replicate p ([]:Tab)=Eb p n 0 0:=by
  apply List.ext_getElem
  ·simp [Eb]
  ·intro i h1 h2
   unfold Eb
   simp
 have h1:Eb p n p 0=A8 p n BK:=by
  unfold Eb A8
  refine List.map_congr_left fun a ha => ?_
  rw [if_pos (List.mem_range.1 ha)]
  rfl
 rw [h0,<- h1]
 refine D5 (L:=NK N) (r:=KP N) (fun _ _=>rfl) (n:=p) (mk:=fun i=>(nets,(n:Int),Eb p n i 0,(p:Int),(i:Int),())) ?_ ?_ k hk
 ·intro back i hi
  have h2:=ADx N nets p n i hi hn (p:Int) (i:Int) (N-1) (by omega)
  rw [show N-1+1=N by omega] at h2
  unfold KP
  simp only [Az hi,if_true,h2,Option.bind_some,Dt hi hp]
 ·intro back
  unfold KP
  simp only [AL,AGb,if_false]
abbrev T4:=Int×Int×Int×Unit
def MK (g:Nat->Nat->Nat->Bool) (r c i:Nat):List T4:=((List.range i).filter (g r c)).map fun q:Nat=>((r:Int),(c:Int),(q:Int),())
def GR (g:Nat->Nat->Nat->Bool) (n r i:Nat):List T4:=(List.range i).flatMap fun c=>MK g r c n
def I7 (g:Nat->Nat->Nat->Bool) (n i:Nat):List T4:=(List.range i).flatMap fun r=>GR g n r n
theorem Aky (g:Nat->Nat->Nat->Bool) (r c i:Nat):MK g r c (i+1)=if g r c i=true then MK g r c i++[((r:Int),(c:Int),(i:Int),())] else MK g r c i:=by
 unfold MK
 rw [List.range_succ,List.filter_append]
 by_cases h:g r c i=true
 ·rw [if_pos h];simp [h]
 ·rw [if_neg h];simp [h]
theorem ZI (g:Nat->Nat->Nat->Bool) (r c i:Nat):(MK g r c i).length<=i:=by
 unfold MK
 rw [List.length_map]
 have:=List.length_filter_le (g r c) (List.range i)
 simpa using this
theorem Um (g:Nat->Nat->Nat->Bool) (n r i:Nat):GR g n r (i+1)=GR g n r i++MK g r i n:=by
 unfold GR
 rw [List.range_succ,List.flatMap_append]
 simp
theorem VA (g:Nat->Nat->Nat->Bool) (n i:Nat):I7 g n (i+1)=I7 g n i++GR g n i n:=by
 unfold I7
 rw [List.range_succ,List.flatMap_append]
 simp
theorem Vz (g:Nat->Nat->Nat->Bool) (n r:Nat):∀i,(GR g n r i).length<=i*n:=by
 intro i
 induction i with
 | zero=>simp [GR]
 | succ i ih=>
  have:=ZI g r i n
  rw [Um,List.length_append,Nat.succ_mul]
  omega
theorem YY (g:Nat->Nat->Nat->Bool) (n:Nat):∀i,(I7 g n i).length<=i*(n*n):=by
 intro i
 induction i with
 | zero=>simp [I7]
 | succ i ih=>
  have:=Vz g n i n
  rw [VA,List.length_append,Nat.succ_mul]
  omega
theorem J9 {g:Nat->Nat->Nat->Bool} {n p:Nat} {e:T4}:e∈I7 g n p ↔ ∃r c q,r<p/\c<n/\q<n/\g r c q=true/\e=((r:Int),(c:Int),(q:Int),()):=by
 unfold I7 GR MK
 simp only [List.mem_flatMap,List.mem_range,List.mem_map,List.mem_filter]
 constructor
 ·rintro ⟨r,hr,c,hc,q,⟨hq,hg⟩,rfl⟩
  exact ⟨r,c,q,hr,hc,hq,hg,rfl⟩
 ·rintro ⟨r,c,q,hr,hc,hq,hg,rfl⟩
  exact ⟨r,hr,c,hc,q,⟨hq,hg⟩,rfl⟩
structure TT (nets:List Nt) (p n:Nat):Prop where
 ok:H6 n nets=true
 len:nets.length=p
 n8:n<=8
theorem ACq (N:Nat) {nets:List Nt} {p n:Nat} (H:TT nets p n) (f:Nat->Nat->Nat->Int) (t:Int) (fd:Bool) (fresh:List T4) (hfl:fresh.length<=5000) (r c:Nat) (hr:r<p) (hrn:r<nets.length) (hc:c<n) (s54:List Nt) (s55 s56 s61 s62:Int) (k:Nat) (hk:n<=k) :
  Ku N (k+1) (nets,(n:Int),A8 p n f,t,fd,fresh,(r:Int),nets[r],(c:Int),s54,s55,s56,s61,s62,(n:Int),(0:Int),()) =
   some (.inl (nets,(n:Int),A8 p n f,t,fd,fresh++MK (Ba p n (Bz nets) f) r c n,(r:Int),nets[r],s54,s55,s56,s61,s62,())):=by
 obtain ⟨N1,N2,N3⟩:=CG H.ok
 have hn8:=H.n8
 have hpl:=H.len
 obtain ⟨nb,nl⟩:=N3 r hrn
 obtain ⟨w1,w2,w3⟩:=J6 hr (show p<=8 by omega)
 have w2':(((r+1:Nat):Int)).tmod (p:Int)=(((r+1) % p:Nat):Int):=w2
 have e0:((p:Int) != 0)=true:=by rw [bne_iff_ne];omega
 have h0:fresh=fresh++MK (Ba p n (Bz nets) f) r c 0:=by simp [MK]
 have:=D5 (L:=Ku N) (r:=Ja N) (fun _ _=>rfl) (n:=n) (mk:=fun i=>(nets,(n:Int),A8 p n f,t,fd,fresh++MK (Ba p n (Bz nets) f) r c i,(r:Int),nets[r],(c:Int),s54,s55,s56,s61,s62,(n:Int),(i:Int),()))
  (o:=.inl (nets,(n:Int),A8 p n f,t,fd,fresh++MK (Ba p n (Bz nets) f) r c n,(r:Int),nets[r],s54,s55,s56,s61,s62,()))
  (by
   intro back i hi
   have hml:(fresh++MK (Ba p n (Bz nets) f) r c i).length<=5008:=by
    have:=ZI (Ba p n (Bz nets) f) r c i
    rw [List.length_append];omega
   unfold Ja
   simp only [Az hi,if_true,Bv,Ad hr,Int.toNat_natCast,Ft _ hr,Cr,Ad hc,D8 _ hc,K0,Ad hi,Af5 _ hi,Dt hi hn8,Aky,hpl,w1,e0,w2',Ad w3,Ft _ w3]
   have eb:Bz nets r=AH nets[r].1:=by unfold Bz;rw [BI hrn]
   by_cases hf:f r c i<0
   ·have hcan:=RD nb nets[r].2 () ((),()) (T:=AN n (f ((r+1) % p))) (by rw [nl];exact NP _ _) (show c<nets[r].1.length by omega) (show i<nets[r].1.length by omega)
    have e:nets[r]=(nets[r].1,nets[r].2):=rfl
    rw [<- e] at hcan
    have ec:(AH nets[r].1 (c:Int)).any (fun b=>decide (0<=Aw (AH nets[r].1) (AN n (f ((r+1) % p))) b (i:Int)))=Ba p n (Bz nets) f r c i:=by
     unfold Ba
     simp only [hf,decide_true,Bool.true_and,eb]
    rw [ec] at hcan
    simp only [hf,decide_true,if_true,hcan,Option.bind_some]
    cases hg:Ba p n (Bz nets) f r c i with
    | true=>simp only [if_true,Jf hml (by omega),List.append_assoc]
    | false=>simp only [AGb,if_false]
   ·have hg:Ba p n (Bz nets) f r c i=false:=by unfold Ba;simp [hf]
    simp only [hf,decide_false,AGb,if_false,hg])
  (by
   intro back
   unfold Ja
   simp only [AL,AGb,if_false]) k hk
 simp only [Int.natCast_zero] at this
 rw [<- h0] at this
 exact this
theorem ADy (N:Nat) (hN:10<=N) {nets:List Nt} {p n:Nat} (H:TT nets p n) (f:Nat->Nat->Nat->Int) (t:Int) (fd:Bool) (fresh:List T4) (hfl:fresh.length<=4000) (r:Nat) (hr:r<p) (hrn:r<nets.length) (s54:List Nt) (s55 s56:Int) (k:Nat) (hk:n<=k) :
  Nw N (k+1) (nets,(n:Int),A8 p n f,t,fd,fresh,(r:Int),nets[r],s54,s55,s56,(n:Int),(0:Int),()) =
   some (.inl (nets,(n:Int),A8 p n f,t,fd,fresh++GR (Ba p n (Bz nets) f) n r n,s54,s55,s56,())):=by
 have hn8:=H.n8
 have h0:fresh=fresh++GR (Ba p n (Bz nets) f) n r 0:=by simp [GR]
 have:=D5 (L:=Nw N) (r:=Ly N) (fun _ _=>rfl) (n:=n) (mk:=fun i=>(nets,(n:Int),A8 p n f,t,fd,fresh++GR (Ba p n (Bz nets) f) n r i,(r:Int),nets[r],s54,s55,s56,(n:Int),(i:Int),()))
  (o:=.inl (nets,(n:Int),A8 p n f,t,fd,fresh++GR (Ba p n (Bz nets) f) n r n,s54,s55,s56,()))
  (by
   intro back i hi
   have hml:(fresh++GR (Ba p n (Bz nets) f) n r i).length<=5000:=by
    have:=Vz (Ba p n (Bz nets) f) n r i
    have:i*n<=8*8:=Nat.mul_le_mul (by omega) hn8
    rw [List.length_append];omega
   have h10:=ACq N H f t fd (fresh++GR (Ba p n (Bz nets) f) n r i) hml r i hr hrn hi s54 s55 s56 (n:Int) (i:Int) (N-1) (by omega)
   rw [show N-1+1=N by omega] at h10
   unfold Ly
   simp only [Az hi,if_true,h10,Option.bind_some,Dt hi hn8,Um,List.append_assoc])
  (by
   intro back
   unfold Ly
   simp only [AL,AGb,if_false]) k hk
 simp only [Int.natCast_zero] at this
 rw [<- h0] at this
 exact this
theorem ADu (N:Nat) (hN:10<=N) {nets:List Nt} {p n:Nat} (H:TT nets p n) (f:Nat->Nat->Nat->Int) (t:Int) (fd:Bool) (k:Nat) (hk:p<=k) :
  Nv N (k+1) (nets,(n:Int),A8 p n f,t,fd,[],nets,(p:Int),(0:Int),()) =
   some (.inl (nets,(n:Int),A8 p n f,t,fd,I7 (Ba p n (Bz nets) f) n p,())):=by
 obtain ⟨N1,N2,N3⟩:=CG H.ok
 have hn8:=H.n8
 have hpl:=H.len
 have h0:([]:List T4)=I7 (Ba p n (Bz nets) f) n 0:=by simp [I7]
 have:=D5 (L:=Nv N) (r:=Lx N) (fun _ _=>rfl) (n:=p) (mk:=fun i=>(nets,(n:Int),A8 p n f,t,fd,I7 (Ba p n (Bz nets) f) n i,nets,(p:Int),(i:Int),()))
  (o:=.inl (nets,(n:Int),A8 p n f,t,fd,I7 (Ba p n (Bz nets) f) n p,()))
  (by
   intro back i hi
   have hin:i<nets.length:=by omega
   have hml:(I7 (Ba p n (Bz nets) f) n i).length<=4000:=by
    have:=YY (Ba p n (Bz nets) f) n i
    have h1:n*n<=8*8:=Nat.mul_le_mul hn8 hn8
    have:i*(n*n)<=8*(8*8):=Nat.mul_le_mul (by omega) h1
    omega
   have h8:=ADy N hN H f t fd (I7 (Ba p n (Bz nets) f) n i) hml i hi hin nets (p:Int) (i:Int) (N-1) (by omega)
   rw [show N-1+1=N by omega] at h8
   unfold Lx
   simp only [Az hi,if_true,Ad hin,Int.toNat_natCast,BC (e:=AA) hin,h8,Option.bind_some,Dt hi (show p<=8 by omega),VA])
  (by
   intro back
   unfold Lx
   simp only [AL,AGb,if_false]) k hk
 simp only [Int.natCast_zero] at this
 rw [<- h0] at this
 exact this
def isT (r c q:Nat) (e:T4):Bool:=e.1==(r:Int)&&e.2.1==(c:Int)&&e.2.2.1==(q:Int)
theorem ABg (N:Nat) (nets:List Nt) (p n:Nat) (f:Nat->Nat->Nat->Int) (t:Int) (F:List T4) (hF:∀e∈F,∃r c q:Nat,r<p/\c<n/\q<n/\e=((r:Int),(c:Int),(q:Int),())) (hl:F.length<=5000) (k:Nat) (hk:F.length<=k) :
  Kf N (k+1) (nets,(n:Int),A8 p n f,t,false,F,(F.length:Int),(0:Int),()) =
   some (.inl (nets,(n:Int),A8 p n (fun a b d=>if F.any (isT a b d)=true then t else f a b d),t,decide (0<F.length),())):=by
 have hmx:F.length<=maxLen:=by unfold maxLen;omega
 have h0:A8 p n f=A8 p n (fun a b d=>if (F.take 0).any (isT a b d)=true then t else f a b d):=B6 fun a b d _ _ _=>by simp
 have h1:F.any=(F.take F.length).any:=by rw [List.take_of_length_le (AGf _)]
 have:=D5 (L:=Kf N) (r:=IP N) (fun _ _=>rfl) (n:=F.length) (mk:=fun i=>(nets,(n:Int),A8 p n (fun a b d=>if (F.take i).any (isT a b d)=true then t else f a b d),t,decide (0<i),F,(F.length:Int),(i:Int),()))
  (o:=.inl (nets,(n:Int),A8 p n (fun a b d=>if (F.take F.length).any (isT a b d)=true then t else f a b d),t,decide (0<F.length),()))
  (by
   intro back i hi
   obtain ⟨r,c,q,hr,hc,hq,he⟩:=hF F[i] (AGk hi)
   have e1:A8 p n (M7 (fun a b d=>if (F.take i).any (isT a b d)=true then t else f a b d) r c q t)=A8 p n (fun a b d=>if (F.take (i+1)).any (isT a b d)=true then t else f a b d):=B6 fun a b d _ _ _=>by
    unfold M7
    rw [List.take_add_one,AGn hi,List.any_append,he]
    simp only [Option.toList_some,List.any_cons,List.any_nil,Bool.or_false,isT]
    by_cases h:a=r/\b=c/\d=q
    ·obtain ⟨rfl,rfl,rfl⟩:=h
     simp
    ·rw [if_neg h]
     have:((r:Int)==(a:Int)&&(c:Int)==(b:Int)&&(q:Int)==(d:Int))=false:=by
      apply Bool.eq_false_iff.2
      intro hh
      simp only [AGc,beq_iff_eq] at hh
      exact h ⟨by omega,by omega,by omega⟩
     rw [this,Bool.or_false]
   have e2:decide (0<i+1)=true:=by simp
   unfold IP
   simp only [Az hi,if_true,Ad hi,Int.toNat_natCast,BC (e:=Dl) hi,he,Bv,Ad hr,Ft _ hr,Cr,Ad hc,D8 _ hc,K0,Ad hq,A1 hi hmx,e2]
   rw [Us _ hr hc hq,e1])
  (by
   intro back
   unfold IP
   simp only [AL,AGb,if_false]) k hk
 simp only [Int.natCast_zero,Nat.lt_irrefl,decide_false] at this
 rw [<- h0] at this
 rw [h1]
 exact this
theorem At2 {g:Nat->Nat->Nat->Bool} {n p a b d:Nat} (ha:a<p) (hb:b<n) (hd:d<n):(I7 g n p).any (isT a b d)=g a b d:=by
 apply Bool.eq_iff_iff.2
 rw [List.any_eq_true]
 constructor
 ·rintro ⟨e,he,h⟩
  obtain ⟨r,c,q,h1,h2,h3,h4,rfl⟩:=J9.1 he
  unfold isT at h
  simp only [AGc,beq_iff_eq] at h
  have e1:r=a:=by omega
  have e2:c=b:=by omega
  have e3:q=d:=by omega
  subst e1 e2 e3
  exact h4
 ·intro h
  exact ⟨_,J9.2 ⟨a,b,d,ha,hb,hd,h,rfl⟩,by unfold isT;simp⟩
theorem Aqj {g:Nat->Nat->Nat->Bool} {n p:Nat}:decide (0<(I7 g n p).length)=IO p n g:=by
 apply Bool.eq_iff_iff.2
 rw [decide_eq_true_eq,EM]
 constructor
 ·intro h
  obtain ⟨r,c,q,h1,h2,h3,h4,_⟩:=J9.1 (AGk h)
  exact ⟨r,c,q,h1,h2,h3,h4⟩
 ·rintro ⟨r,c,q,hr,hc,hq,h⟩
  exact List.length_pos_of_mem (J9.2 ⟨r,c,q,hr,hc,hq,h,rfl⟩)
theorem AFh (N:Nat) (hN:600<=N) {nets:List Nt} {p n:Nat} (H:TT nets p n):∀(k m:Nat) (f:Nat->Nat->Nat->Int),m+k<=5000->NJ p n f<k -> ∀fu,k+1<=fu ->
  NR N fu (nets,(n:Int),A8 p n f,(m:Int),true,())=some (.inl (A8 p n (Da p n (Bz nets) k (m:Int) f),())):=by
 obtain ⟨N1,N2,N3⟩:=CG H.ok
 have hn8:=H.n8
 have hpl:=H.len
 intro k
 induction k with
 | zero=>intro m f _ h;omega
 | succ k ih=>
  intro m f hm hng fu hfu
  obtain ⟨fu,rfl⟩:∃z,fu=z+1:=⟨fu-1,by omega⟩
  have h6:=ADu N (by omega) H f (m:Int) false (N-1) (by omega)
  rw [show N-1+1=N by omega] at h6
  have hlen:(I7 (Ba p n (Bz nets) f) n p).length<=520:=by
   have:=YY (Ba p n (Bz nets) f) n p
   have h1:n*n<=8*8:=Nat.mul_le_mul hn8 hn8
   have:p*(n*n)<=8*(8*8):=Nat.mul_le_mul (by omega) h1
   omega
  have h12:=ABg N nets p n f (m:Int) (I7 (Ba p n (Bz nets) f) n p) (fun e he=>by
   obtain ⟨r,c,q,h1,h2,h3,_,h5⟩:=J9.1 he
   exact ⟨r,c,q,h1,h2,h3,h5⟩) (by omega) (N-1) (by omega)
  rw [show N-1+1=N by omega,Aqj] at h12
  have et:A8 p n (fun a b d=>if (I7 (Ba p n (Bz nets) f) n p).any (isT a b d)=true then (m:Int) else f a b d)=A8 p n (Bb p n (Bz nets) (m:Int) f):=B6 fun a b d ha hb hd=>by
   rw [At2 ha hb hd]
   rfl
  rw [et] at h12
  have hw:IntKind.wrap .i64 ((m:Int)+1)=((m+1:Nat):Int):=by
   rw [Bj _ (by omega) (by omega)]
   rfl
  show Qp N (NR N fu) _=_
  unfold Qp
  simp only [if_true,hpl,h6,Option.bind_some,h12,hw,Da]
  by_cases ha:IO p n (Ba p n (Bz nets) f)=true
  ·rw [if_pos ha,ha]
   have:=Mz (t:=(m:Int)) (by omega) ha
   exact ih (m+1) _ (by omega) (by omega) fu (by omega)
  ·have ha':IO p n (Ba p n (Bz nets) f)=false:=(Bool.not_eq_true _).mp ha
   rw [if_neg ha,ha']
   obtain ⟨fu,rfl⟩:∃z,fu=z+1:=⟨fu-1,by omega⟩
   have e:A8 p n (Bb p n (Bz nets) (m:Int) f)=A8 p n f:=B6 fun a b d h1 h2 h3=>by
    unfold Bb
    refine if_neg fun h=>ha ?_
    exact EM.2 ⟨a,b,d,h1,h2,h3,h⟩
   rw [e]
   rfl
theorem Uo (d) (r) (h:CN d=some r):∃N,W4 N d=some r:=by
 obtain ⟨nets,_⟩:=d
 unfold CN at h
 split at h
 ·rename_i hN
  have hN:H6 (nN nets) nets=true:=hN
  obtain ⟨N1,N2,N3⟩:=CG hN
  have h:=AGg h
  subst h
  have h0:0<nets.length:=by omega
  have en:=Aa5 h0
  obtain ⟨nb,nl⟩:=N3 0 h0
  have hn8:nN nets<=8:=by
   have:=(CV nb).2.2.1
   omega
  have H:TT nets nets.length (nN nets):=⟨hN,rfl,hn8⟩
  refine ⟨600,?_⟩
  unfold W4 Fg
  have i0:Af (0:Int) nets.length=true:=Ad h0
  have z0:(0:Int).toNat=0:=rfl
  have a0:at_ AA nets 0=nets[0]:=BC (e:=AA) h0
  have hc:(decide (0<=(nets.length:Int))&&decide ((nets.length:Int)<=(nets.length:Int))&&decide ((nets.length:Int)<=(lim:Int)))=true:=by
   have a1:(nets.length:Int)<=(lim:Int):=by unfold lim;omega
   simp only [a1,CP,decide_true,Bool.and_self,Int.le_refl]
  have k0:=AEd 600 (by omega) nets nets.length (nN nets) hn8 N2 599 (by omega)
  have hng:NJ nets.length (nN nets) BK<520:=by
   have h:=ZT nets.length (nN nets) BK
   have h1:nN nets*nN nets<=8*8:=Nat.mul_le_mul hn8 hn8
   have h2:nets.length*(nN nets*nN nets)<=8*(8*8):=Nat.mul_le_mul N2 h1
   omega
  have k4:=AFh 600 (by omega) H 520 1 BK (by omega) hng 600 (by omega)
  simp only [Int.natCast_one] at k4
  simp only [i0,if_true,z0,a0,<- en,hc,Int.toNat_natCast,List.length_replicate,k0,Option.bind_some,k4]
  rfl
 ·cases h
theorem FO {t:Tt} (ht:AV t=true) (u:Unit):CN (Bt t,u)=some (AO t,()):=by
 obtain ⟨b1,b2,b3,b4⟩:=NI ht
 have e1:H6 (nN (Bt t)) (Bt t)=true:=by rw [b3];exact b1
 unfold CN
 simp only [e1,if_true]
 rw [b2,b3]
 unfold AO
 rw [UE (b1:=Bz (Bt t)) (b2:=Ay t) b4]
open Go.Proofs
theorem Aps {n:Nat} (hn:n<=8) {rows:Tab} (h:sqL n rows=true):DR rows=true/\Ai3 rows<=64:=by
 unfold sqL at h
 simp only [AGc,decide_eq_true_eq,List.all_eq_true] at h
 have key:∀(l:Tab),(∀x∈l,x.length=n)->Ai3 l<=8*l.length:=by
  intro l
  induction l with
  | nil=>intro _;simp [Ai3]
  | cons x l ih=>
   intro hl
   have h1:=hl x (by simp)
   have h2:=ih fun y hy=>hl y (by simp [hy])
   simp only [Ai3,List.length_cons]
   omega
 refine ⟨Jd (by omega) (List.all_eq_true.2 fun x hx=>decide_eq_true (by rw [h.2 x hx];omega)),?_⟩
 have:=key rows h.2
 omega
theorem WW {n p:Nat} (hn:n<=8) (hp:p<=8) {T:List Tab} (h:JM n p T=true):Ji T=true/\Aj9 T<=512:=by
 unfold JM at h
 simp only [AGc,decide_eq_true_eq,List.all_eq_true] at h
 have key:∀(l:List Tab),(∀x∈l,sqL n x=true)->Aj9 l<=64*l.length:=by
  intro l
  induction l with
  | nil=>intro _;simp [Aj9]
  | cons x l ih=>
   intro hl
   have h1:=(Aps hn (hl x (by simp))).2
   have h2:=ih fun y hy=>hl y (by simp [hy])
   simp only [Aj9,List.length_cons]
   omega
 refine ⟨?_,?_⟩
 ·unfold Ji
  rw [AGc]
  exact ⟨E9 (by omega),List.all_eq_true.2 fun x hx=>(Aps hn (h.2 x hx)).1⟩
 ·have:=key T h.2
  omega
def ttB (t:Tt):List Tab×Bool×Unit:=if AV t=true then (AO t,true,()) else ([],false,())
theorem Ln {t:Tt} (ht:AV t=true):JM t.1.1.toNat t.2.1.toNat (AO t)=true:=Ahp _ _ _
theorem ACv (t:Tt):Ji (ttB t).1=true/\Aj9 (ttB t).1<=512:=by
 unfold ttB
 split
 ·rename_i ht
  obtain ⟨n1,n2,n3,p1,p2,p3,_⟩:=Bi ht
  exact WW n3 (by omega) (Ln ht)
 ·exact ⟨rfl,by decide⟩
theorem Adn (t:Tt) (w:Unit) (ho:okT t=true):Jh 0 (t,w)=some (ttB t):=by
 unfold Jh ttB Dc
 simp only [ho,if_true,Option.bind_some]
 cases ht:AV t with
 | false=>rfl
 | true=>simp only [Bool.not_true,AGb,if_false,Dh,ht,ho,Bool.and_self,if_true,Option.bind_some]
theorem Af4 (t:Tt) (w:Unit) (ho:okT t=true):IH 0 (t,w)=some (ttB t):=by
 unfold IH ttB
 simp only [Vn t _ ho,Option.bind_some]
 cases ht:AV t with
 | false=>rfl
 | true=>simp only [Bool.not_true,AGb,if_false,Fw ht ho,FO ht,if_true,Option.bind_some]
theorem Agc {after:Int->Int}:∀{l:List Int} {b m:Int},(∀x∈l,¬0<=after x)->Cs after l b m=b:=by
 intro l
 induction l with
 | nil=>intro b m _;rfl
 | cons x l ih=>
  intro b m h
  have hx:=h x (by simp)
  simp only [Cs]
  rw [if_neg (fun h'=>hx h'.1)]
  exact ih fun y hy=>h y (by simp [hy])
theorem Aff {after:Int->Int}:∀{l:List Int} {b m:Int},Cs after l b m=b\/Cs after l b m∈l:=by
 intro l
 induction l with
 | nil=>intro b m;exact .inl rfl
 | cons x l ih=>
  intro b m
  simp only [Cs]
  split
  ·rcases ih (b:=x) (m:=after x) with h | h
   ·right;rw [h];simp
   ·right;simp [h]
  ·rcases ih (b:=b) (m:=m) with h | h
   ·exact .inl h
   ·right;simp [h]
theorem Aaz {after:Int->Int}:∀{l:List Int} {b m:Int},(∃x∈l,0<=after x)->b<0->Cs after l b m∈l:=by
 intro l
 induction l with
 | nil=>intro b m ⟨x,hx,_⟩;simp at hx
 | cons x l ih=>
  intro b m ⟨y,hy,h⟩ hb
  simp only [Cs]
  by_cases hx:0<=after x
  ·rw [if_pos ⟨hx,.inl hb⟩]
   rcases Aff (after:=after) (l:=l) (b:=x) (m:=after x) with h | h
   ·rw [h];simp
   ·simp [h]
  ·rw [if_neg (fun h'=>hx h'.1)]
   rcases List.mem_cons.1 hy with rfl | hy
   ·exact absurd h hx
   ·have:=ih (m:=m) ⟨y,hy,h⟩ hb
    simp [this]
def Be (t:Tt) (r:Nat) (b y:Int):Int:=Aw (Ay t r) (Cu t.2.1.toNat (AO t) (r:Int)) b y
theorem Zf {t:Tt} (ht:AV t=true) {r b y:Nat} (hr:r<t.2.1.toNat) (hb:b<t.1.1.toNat) (hy:y<t.1.1.toNat):CS (A2 t,AO t,(r:Int),(b:Int),(y:Int),())=some (Be t r (b:Int) (y:Int),()):=by
 obtain ⟨b1,b2,b3,b4⟩:=K4 ht
 obtain ⟨n1,n2,n3,p1,p2,p3,_⟩:=Bi ht
 have hA:okA (A2 t,AO t,(r:Int),(b:Int),(y:Int),())=true:=Tz (by rw [b3];exact b1) (by omega) (by rw [b2,b3];exact Ln ht) (by omega) (by omega) (by omega)
 unfold CS Be
 simp only [hA,if_true,b2]
 rw [IV (b1:=CJ (A2 t) (r:Int)) (b2:=Ay t r) (b4 r hr y hy)]
theorem Anb {t:Tt} {r x:Nat} (hr:r<t.2.1.toNat) (hx:x<t.1.1.toNat):(at_ Ag (A2 t) r).length=t.1.1.toNat/\at_ Ai (at_ Ag (A2 t) r) x=Ay t r (x:Int):=by
 have e:at_ Ag (A2 t) r=(List.range t.1.1.toNat).map fun x:Nat=>Ay t r (x:Int):=by
  have h:r<(A2 t).length:=by unfold A2;rw [List.length_map,List.length_range];exact hr
  rw [BC (e:=Ag) h]
  apply AGg
  rw [<- AGn h]
  unfold A2
  rw [List.getElem?_map,List.getElem?_range hr]
  rfl
 rw [e]
 refine ⟨by simp,?_⟩
 have h:x<((List.range t.1.1.toNat).map fun x:Nat=>Ay t r (x:Int)).length:=by simpa using hx
 rw [BC (e:=Ai) h]
 simp
theorem Fq {t:Tt} {r x:Nat} (hx:x<t.1.1.toNat):(Ay t r (x:Int)).length<=t.1.1.toNat /\ ∀z∈Ay t r (x:Int),∃y:Nat,y<t.1.1.toNat/\z=(y:Int):=
 ⟨Qi _ _ _,Ka _ _ x hx⟩
theorem XG (N:Nat) (t:Tt) (ht:AV t=true) (r x y:Nat) (hr:r<t.2.1.toNat) (hx:x<t.1.1.toNat) (hy:y<t.1.1.toNat):∀(k i f:Nat) (b m:Int),i+k=(Ay t r (x:Int)).length->k<f ->
  Lw N f ((x:Int),(y:Int),A2 t,AO t,(r:Int),b,m,(i:Int),())=some (.inl (Cs (fun z=>Be t r z (y:Int)) ((Ay t r (x:Int)).drop i) b m,())):=by
 obtain ⟨b1,b2,b3,b4⟩:=K4 ht
 obtain ⟨n1,n2,n3,p1,p2,p3,_⟩:=Bi ht
 obtain ⟨q1,q2⟩:=Anb (t:=t) hr hx
 obtain ⟨o1,o2⟩:=Fq (t:=t) (r:=r) hx
 have hmx:(Ay t r (x:Int)).length<=maxLen:=by unfold maxLen;omega
 have hr':r<(A2 t).length:=by omega
 intro k
 induction k with
 | zero=>
  intro i f b m h1 h2
  obtain ⟨f,rfl⟩:∃z,f=z+1:=⟨f-1,by omega⟩
  have e:i=(Ay t r (x:Int)).length:=by omega
  subst e
  rw [AGi (AGf _)]
  show Ib N (Lw N f) _=_
  unfold Ib
  simp only [Ad hr',Int.toNat_natCast,q1,Ad hx,q2,AL,if_true,AGb,if_false,Cs]
 | succ k ih=>
  intro i f b m h1 h2
  obtain ⟨f,rfl⟩:∃z,f=z+1:=⟨f-1,by omega⟩
  have hi:i<(Ay t r (x:Int)).length:=by omega
  obtain ⟨z,hz,ez⟩:=o2 (Ay t r (x:Int))[i] (AGk hi)
  have hd:(Ay t r (x:Int)).drop i=(z:Int)::(Ay t r (x:Int)).drop (i+1):=by rw [AGj hi,ez]
  show Ib N (Lw N f) _=_
  unfold Ib
  rw [hd]
  simp only [Ad hr',Int.toNat_natCast,q1,Ad hx,q2,Az hi,if_true,Ad hi,BC (e:=I) hi,ez,Zf ht hr hz hy,Option.bind_some,A1 hi hmx,Cs]
  generalize hv:Be t r (z:Int) (y:Int)=v
  by_cases h1':v>=0
  ·by_cases h2':b<0
   ·simp only [h1',h2',decide_true,if_true,true_or,and_self]
    exact ih (i+1) f _ _ (by omega) (by omega)
   ·by_cases h3':v<m
    ·simp only [h1',h2',h3',decide_true,decide_false,AGb,if_true,if_false,or_true,and_self]
     exact ih (i+1) f _ _ (by omega) (by omega)
    ·simp only [h1',h2',h3',decide_true,decide_false,AGb,if_true,if_false,or_self,and_false]
     exact ih (i+1) f _ _ (by omega) (by omega)
  ·simp only [h1',decide_false,AGb,if_false,false_and]
   exact ih (i+1) f _ _ (by omega) (by omega)
theorem HL {t:Tt} (ht:AV t=true) {c:Int} (hc:inB 0 1000 c=true):(t.2.1 != 0)=true/\c.tmod t.2.1=(As t c:Int)/\As t c<t.2.1.toNat:=by
 obtain ⟨n1,n2,n3,p1,p2,p3,_⟩:=Bi ht
 have hc:=AY.1 hc
 have:=XF hc.1 (show 0<t.2.1 by omega)
 unfold As
 refine ⟨?_,by omega,by omega⟩
 rw [bne_iff_ne]
 omega
theorem UI (d) (r) (h:Bo d=some r):∃N,VD N d=some r:=by
 obtain ⟨t,c,x,y,_⟩:=d
 unfold Bo at h
 split at h
 ·rename_i ho
  have ho:okT t=true:=ho
  have h:=AGg h
  subst h
  refine ⟨20,?_⟩
  unfold VD Dc trB
  simp only [ho,if_true,Option.bind_some,Ty]
  cases ht:AV t with
  | false=>simp [Jz,ht]
  | true=>
   obtain ⟨n1,n2,n3,p1,p2,p3,_⟩:=Bi ht
   have hpos:0<t.1.1:=by omega
   have h8:t.1.1<=8:=by omega
   simp only [Bool.not_true,AGb,if_false,Ajw t.1 _ _ hpos h8]
   cases hc:inB 0 1000 c with
   | false=>simp
   | true=>
    cases hx:inB 0 (t.1.1-1) x with
    | false=>simp [Jz,hx]
    | true=>
     cases hy:inB 0 (t.1.1-1) y with
     | false=>simp [Jz,hy]
     | true=>
      have he:Jz t x y=true:=by unfold Jz;simp only [ht,hx,hy,Bool.and_self]
      simp only [Bool.not_true,AGb,if_false,he,Bool.true_and]
      by_cases e:x=y
      ·simp [e]
      ·have e':(x==y)=false:=by simpa using e
       obtain ⟨_,ex,ey,hxn,hyn⟩:=MF he
       obtain ⟨c0,c1,c2⟩:=HL ht hc
       have key:=XG 20 t ht (As t c) x.toNat y.toNat c2 hxn hyn (Ay t (As t c) (x.toNat:Int)).length 0 20 (-1) 0 (by omega) (by
        have:=(Fq (t:=t) (r:=As t c) hxn).1;omega)
       simp only [Int.natCast_zero,List.drop_zero,<- ex,<- ey] at key
       simp only [e',e,AGb,if_false,decide_false,Bool.not_false,if_true,Dp,Dh,ht,ho,Bool.and_self,Option.bind_some,c0,c1,key]
       have ea:(fun z=>Be t (As t c) z y)=fun b=>Aw (Ay t (As t c)) (Cu t.2.1.toNat (AO t) (As t c:Int)) b y:=rfl
       rw [ea]
       by_cases hn:Cs (fun b=>Aw (Ay t (As t c)) (Cu t.2.1.toNat (AO t) (As t c:Int)) b y) (Ay t (As t c) x) (-1) 0<0
       ·simp only [hn,decide_true,if_true]
       ·simp only [hn,decide_false,AGb,if_false]
 ·cases h
def AQ (t:Tt):Nat->Nat->Nat->Int:=Da t.2.1.toNat t.1.1.toNat (Ay t) 520 1 BK
theorem Dd (t:Tt):AO t=A8 t.2.1.toNat t.1.1.toNat (AQ t):=rfl
theorem HD (t:Tt):KK t.2.1.toNat t.1.1.toNat (Ay t):=fun r _=>Ka _ _
theorem EO {t:Tt} (ht:AV t=true):Inv3 t.2.1.toNat t.1.1.toNat (Ay t) (AQ t)/\IO t.2.1.toNat t.1.1.toNat (Ba t.2.1.toNat t.1.1.toNat (Ay t) (AQ t))=false:=
 Aap (HD t) 520 1 BK (by decide) (Inv3.start _ _ _) (SS ht)
theorem EN {t:Tt} (ht:AV t=true) {r:Nat} (hr:r<t.2.1.toNat) (b y:Int):Be t r b y=Aw (Ay t r) (AN t.1.1.toNat (AQ t ((r+1) % t.2.1.toNat))) b y:=by
 obtain ⟨n1,n2,n3,p1,p2,p3,_⟩:=Bi ht
 unfold Be
 rw [Dd,Vi _ hr (by omega)]
theorem Anx {t:Tt} (ht:AV t=true) {r x y:Nat} (hr:r<t.2.1.toNat) (hx:x<t.1.1.toNat) (hy:y<t.1.1.toNat) (h:AQ t r x y<1) (hne:x≠y):Cs (fun z=>Be t r z (y:Int)) (Ay t r (x:Int)) (-1) 0 = -1:=by
 obtain ⟨hI,hN⟩:=EO ht
 have hf:AQ t r x y<0:=by
  have:=hI.away r x y hne
  omega
 refine Agc fun z hz h0 => ?_
 have hcan:Ba t.2.1.toNat t.1.1.toNat (Ay t) (AQ t) r x y=true:=by
  unfold Ba
  rw [AGc,List.any_eq_true]
  refine ⟨decide_eq_true hf,z,hz,decide_eq_true ?_⟩
  have h0:0<=Be t r z (y:Int):=h0
  rw [EN ht hr] at h0
  exact h0
 have:IO t.2.1.toNat t.1.1.toNat (Ba t.2.1.toNat t.1.1.toNat (Ay t) (AQ t))=true:=EM.2 ⟨r,x,y,hr,hx,hy,hcan⟩
 rw [hN] at this
 cases this
theorem Ak8 {t:Tt} (ht:AV t=true) {r x y:Nat} (hr:r<t.2.1.toNat) (hx:x<t.1.1.toNat) (hy:y<t.1.1.toNat) (h:¬AQ t r x y<1):x≠y /\ ¬Cs (fun z=>Be t r z (y:Int)) (Ay t r (x:Int)) (-1) 0<0:=by
 obtain ⟨hI,_⟩:=EO ht
 have hne:x≠y:=fun e=>by
  subst e
  rw [hI.home] at h
  exact h (by decide)
 refine ⟨hne,?_⟩
 rcases hI.why r x y hr hx hy (by omega) with e | ⟨b,hb,h0⟩
 ·exact absurd e hne
 ·have hm:=Aaz (after:=fun z=>Be t r z (y:Int)) (l:=Ay t r (x:Int)) (b := -1) (m:=0) ⟨b,hb,by rw [EN ht hr];exact h0⟩ (by decide)
  obtain ⟨z,_,ez⟩:=(Fq (t:=t) (r:=r) hx).2 _ hm
  omega
theorem Wu (N:Nat) (t:Tt) (ht:AV t=true) (r y:Nat) (hr:r<t.2.1.toNat) (hy:y<t.1.1.toNat) (L:List Int) (hL:∀z∈L,∃w:Nat,w<t.1.1.toNat/\z=(w:Int)) (hLl:L.length<=1000):∀(k i f:Nat) (b m:Int),i+k=L.length->k<f ->
  La N f ((r:Int),(y:Int),t,Bt t,AO t,b,m,L,(L.length:Int),(i:Int),())=some (.inl (Cs (fun z=>Be t r z (y:Int)) (L.drop i) b m,())):=by
 obtain ⟨b1,b2,b3,b4⟩:=NI ht
 obtain ⟨n1,n2,n3,p1,p2,p3,_⟩:=Bi ht
 have hmx:L.length<=maxLen:=by unfold maxLen;omega
 have hr':r<(Bt t).length:=by omega
 obtain ⟨_,_,N3⟩:=CG b1
 obtain ⟨nb,nl⟩:=N3 r hr'
 obtain ⟨w1,w2,w3⟩:=J6 hr (show t.2.1.toNat<=8 by omega)
 rw [<- p1] at w2
 have w2':(((r+1:Nat):Int)).tmod t.2.1=(((r+1) % t.2.1.toNat:Nat):Int):=w2
 have e0:(t.2.1 != 0)=true:=by rw [bne_iff_ne];omega
 have hTl:(AO t).length=t.2.1.toNat:=Bv _ _ _
 intro k
 induction k with
 | zero=>
  intro i f b m h1 h2
  obtain ⟨f,rfl⟩:∃z,f=z+1:=⟨f-1,by omega⟩
  have e:i=L.length:=by omega
  subst e
  rw [AGi (AGf _)]
  show H4 N (La N f) _=_
  unfold H4
  simp only [AL,AGb,if_false,Cs]
 | succ k ih=>
  intro i f b m h1 h2
  obtain ⟨f,rfl⟩:∃z,f=z+1:=⟨f-1,by omega⟩
  have hi:i<L.length:=by omega
  obtain ⟨z,hz,ez⟩:=hL L[i] (AGk hi)
  have hd:L.drop i=(z:Int)::L.drop (i+1):=by rw [AGj hi,ez]
  show H4 N (La N f) _=_
  unfold H4
  rw [hd]
  simp only [Az hi,if_true,Ad hi,Int.toNat_natCast,BC (e:=I) hi,ez,A1 hi hmx,Cs]
  by_cases hzy:(z:Int)=(y:Int)
  ·have hv:Be t r (z:Int) (y:Int)=0:=by unfold Be Aw;rw [if_pos hzy]
   have hb:((z:Int) != (y:Int))=false:=by simp [hzy]
   rw [hv]
   by_cases h2':b<0
   ·simp only [hb,AGb,if_false,ge_iff_le,Int.le_refl,decide_true,if_true,h2',true_or,and_self]
    exact ih (i+1) f _ _ (by omega) (by omega)
   ·by_cases h3':(0:Int)<m
    ·simp only [hb,AGb,if_false,ge_iff_le,Int.le_refl,decide_true,decide_false,if_true,h2',h3',or_true,and_self]
     exact ih (i+1) f _ _ (by omega) (by omega)
    ·simp only [hb,AGb,if_false,ge_iff_le,Int.le_refl,decide_true,decide_false,if_true,h2',h3',or_self,and_false]
     exact ih (i+1) f _ _ (by omega) (by omega)
  ·have hb:((z:Int) != (y:Int))=true:=by simpa using hzy
   have e1:at_ Ag (AO t) ((r+1) % t.2.1.toNat)=AN t.1.1.toNat (AQ t ((r+1) % t.2.1.toNat)):=Ft _ w3
   have hta:BG (at_ AA (Bt t) r,at_ Ai (AN t.1.1.toNat (AQ t ((r+1) % t.2.1.toNat))) z,(y:Int),())=some (Be t r (z:Int) (y:Int),()):=by
    unfold BG
    have hrl:(at_ Ai (AN t.1.1.toNat (AQ t ((r+1) % t.2.1.toNat))) z).length=t.1.1.toNat:=by rw [D8 _ hz,K0]
    have hd1:decide ((at_ Ai (AN t.1.1.toNat (AQ t ((r+1) % t.2.1.toNat))) z).length=(Bt t)[r].1.length)=true:=decide_eq_true (by rw [hrl,nl])
    have hd2:inB 0 (((Bt t)[r].1.length:Int)-1) (y:Int)=true:=by rw [nl];exact GE hy
    simp only [BC (e:=AA) hr',nb,hd1,hd2,Bool.and_self,if_true]
    rw [EN ht hr]
    unfold Aw
    rw [if_neg hzy]
    have hbn:AH (Bt t)[r].1 (y:Int)=Ay t r (y:Int):=by
     have:=b4 r hr y hy
     unfold Bz at this
     rw [BI hr'] at this
     exact this
    rw [hbn]
    congr 2
   simp only [hb,if_true,Ad hr',w1,e0,w2',hTl,Ad w3,Int.toNat_natCast,e1,Cr,Ad hz,hta,Option.bind_some]
   generalize hv:Be t r (z:Int) (y:Int)=v
   by_cases h1':v>=0
   ·by_cases h2':b<0
    ·simp only [h1',h2',decide_true,if_true,true_or,and_self]
     exact ih (i+1) f _ _ (by omega) (by omega)
    ·by_cases h3':v<m
     ·simp only [h1',h2',h3',decide_true,decide_false,AGb,if_true,if_false,or_true,and_self]
      exact ih (i+1) f _ _ (by omega) (by omega)
     ·simp only [h1',h2',h3',decide_true,decide_false,AGb,if_true,if_false,or_self,and_false]
      exact ih (i+1) f _ _ (by omega) (by omega)
   ·simp only [h1',decide_false,AGb,if_false,false_and]
    exact ih (i+1) f _ _ (by omega) (by omega)
theorem Ux (d) (r) (h:Bo d=some r):∃N,VT N d=some r:=by
 obtain ⟨t,c,x,y,_⟩:=d
 unfold Bo at h
 split at h
 ·rename_i ho
  have ho:okT t=true:=ho
  have h:=AGg h
  subst h
  refine ⟨20,?_⟩
  unfold VT trB
  simp only [Aol t x y c _ ho,Option.bind_some]
  cases he:Jz t x y with
  | false=>simp
  | true=>
   cases hc:inB 0 1000 c with
   | false=>simp
   | true=>
    obtain ⟨ht,ex,ey,hxn,hyn⟩:=MF he
    obtain ⟨n1,n2,n3,p1,p2,p3,_⟩:=Bi ht
    obtain ⟨c0,c1,c2⟩:=HL ht hc
    generalize hX:x.toNat=X at ex hxn
    generalize hY:y.toNat=Y at ey hyn
    subst ex ey
    obtain ⟨b1,b2,b3,b4⟩:=NI ht
    have hrN:As t c<(Bt t).length:=by omega
    obtain ⟨_,_,N3⟩:=CG b1
    obtain ⟨nb,nl⟩:=N3 _ hrN
    have hTl:(AO t).length=t.2.1.toNat:=Bv _ _ _
    have e1:at_ Ag (AO t) (As t c)=AN t.1.1.toNat (AQ t (As t c)):=Ft _ c2
    simp only [Bool.and_self,Bool.not_true,AGb,if_false,Fw ht ho,FO ht,Option.bind_some,c0,if_true,c1,hTl,Ad c2,Int.toNat_natCast,e1,Cr,Ad hxn,D8 _ hxn,K0,Ad hyn,Af5 _ hyn,Bool.true_and]
    have ea:(fun b=>Aw (Ay t (As t c)) (Cu t.2.1.toNat (AO t) (As t c:Int)) b (Y:Int))=fun z=>Be t (As t c) z (Y:Int):=rfl
    rw [ea]
    by_cases hv:AQ t (As t c) X Y<1
    ·simp only [hv,decide_true,if_true]
     by_cases e:(X:Int)=(Y:Int)
     ·simp [e]
     ·have:=Anx ht c2 hxn hyn hv (fun e'=>e (by omega))
      simp [e,this]
    ·obtain ⟨hne,hpos⟩:=Ak8 ht c2 hxn hyn hv
     have e:¬(X:Int)=(Y:Int):=fun h=>hne (by omega)
     have hbn:AH (Bt t)[As t c].1 (X:Int)=Ay t (As t c) (X:Int):=by
      have:=b4 _ c2 X hxn
      unfold Bz at this
      rw [BI hrN] at this
      exact this
     have hcl:=NE nb (Bt t)[As t c].2 (show X<(Bt t)[As t c].1.length by omega)
     have hso:=Ug nb (show X<(Bt t)[As t c].1.length by omega)
     rw [hbn] at hso
     obtain ⟨o1,o2⟩:=Fq (t:=t) (r:=As t c) hxn
     have key:=Wu 20 t ht (As t c) Y c2 hyn (Ay t (As t c) (X:Int)) o2 (by omega) (Ay t (As t c) (X:Int)).length 0 20 (-1) 0 (by omega) (by omega)
     simp only [Int.natCast_zero,List.drop_zero] at key
     have en:(Bt t)[As t c]=((Bt t)[As t c].1,(Bt t)[As t c].2):=rfl
     rw [<- en] at hcl
     simp only [hv,decide_false,AGb,if_false,Ad hrN,if_true,BC (e:=AA) hrN,hcl,Option.bind_some,hso,key,e,Bool.not_false,hpos]
 ·cases h
open Go.Proofs
theorem Y8 (d) (r) (h:EJ d=some r):∃N,Xw N d=some r:=by
 obtain ⟨l,_⟩:=d
 unfold EJ at h
 split at h
 ·rename_i hl
  have hmx:=BH (Cj hl)
  have h:=AGg h
  subst h
  have key:∀(k i f:Nat) (m:Int),i+k=l.length->k<f->Gg (l.length+1) f (l,m,(i:Int),())=some (.inl (AW (fun z=>z) (l.drop i) m,()))\/Gg (l.length+1) f (l,m,(i:Int),())=some (.inr (.inl (AW (fun z=>z) (l.drop i) m,()))):=by
   intro k
   induction k with
   | zero=>
    intro i f m h1 h2
    obtain ⟨f,rfl⟩:∃z,f=z+1:=⟨f-1,by omega⟩
    have e:i=l.length:=by omega
    subst e
    rw [AGi (AGf _)]
    right
    simp [Gg,KV,AW]
   | succ k ih=>
    intro i f m h1 h2
    obtain ⟨f,rfl⟩:∃z,f=z+1:=⟨f-1,by omega⟩
    have hi:i<l.length:=by omega
    have step:Gg (l.length+1) (f+1) (l,m,(i:Int),())=if l[i]<0 then some (.inl (-1,())) else Gg (l.length+1) f (l,(if m<l[i] then l[i] else m),((i+1:Nat):Int),()):=by
     show KV (l.length+1) (Gg (l.length+1) f) _=_
     unfold KV
     simp only [Az hi,if_true,Ad hi,Int.toNat_natCast,BC (e:=I) hi,Agz,A1 hi hmx]
     by_cases h:l[i]<0
     ·simp only [h,decide_true,if_true]
     ·simp only [h,decide_false,AGb,if_false]
    rw [step,AGj hi]
    simp only [AW]
    by_cases h:l[i]<0
    ·rw [if_pos h,if_pos h]
     exact .inl rfl
    ·rw [if_neg h,if_neg h]
     exact ih (i+1) f _ (by omega) (by omega)
  refine ⟨l.length+1,?_⟩
  unfold Xw
  have:=key l.length 0 (l.length+1) 0 (by omega) (by omega)
  simp only [Int.natCast_zero,List.drop_zero] at this
  rcases this with h | h<;>simp only [h,Option.bind_some]
 ·cases h
theorem Axe (d) (r) (h:Ui d=some r):∃N,XZ N d=some r:=by
 obtain ⟨l,_⟩:=d
 unfold Ui at h
 split at h
 ·rename_i hc
  simp only [AGc,decide_eq_true_eq] at hc
  obtain ⟨hl,h0⟩:=hc
  have h0:0<l.length:=h0
  have hmx:=BH (Cj hl)
  have h:=AGg h
  subst h
  have key:∀(k i f:Nat) (m:Int),i+k=l.length->k<f->Lg (l.length+1) f (l,m,(i:Int),())=some (.inl ((l.drop i).foldl (fun a b=>if a<b then b else a) m,())):=by
   intro k
   induction k with
   | zero=>
    intro i f m h1 h2
    obtain ⟨f,rfl⟩:∃z,f=z+1:=⟨f-1,by omega⟩
    have e:i=l.length:=by omega
    subst e
    rw [AGi (AGf _)]
    simp [Lg,Lu]
   | succ k ih=>
    intro i f m h1 h2
    obtain ⟨f,rfl⟩:∃z,f=z+1:=⟨f-1,by omega⟩
    have hi:i<l.length:=by omega
    show Lu (l.length+1) (Lg (l.length+1) f) _=_
    unfold Lu
    rw [AGj hi]
    simp only [Az hi,if_true,Ad hi,Int.toNat_natCast,BC (e:=I) hi,A1 hi hmx,List.foldl_cons]
    exact ih (i+1) f _ (by omega) (by omega)
  refine ⟨l.length+1,?_⟩
  unfold XZ
  have h1:decide ((l.length:Int)<1)=false:=by simp;omega
  have i0:Af (0:Int) l.length=true:=Ad h0
  have z0:(0:Int).toNat=0:=rfl
  have:=key (l.length-1) 1 (l.length+1) l[0] (by omega) (by omega)
  simp only [Int.natCast_one] at this
  simp only [h1,AGb,if_false,i0,if_true,z0,BC (e:=I) h0,this,Option.bind_some]
  cases l with
  | nil=>simp at h0
  | cons a l=>simp
 ·cases h
theorem Ami:∀(l:List Int) (m:Int),(∀x∈l,0<=x)->AW (fun z=>z) l m=l.foldl (fun a b=>if a<b then b else a) m:=by
 intro l
 induction l with
 | nil=>intro m _;rfl
 | cons x l ih=>
  intro m h
  have hx:=h x (by simp)
  simp only [AW,List.foldl_cons]
  rw [if_neg (by omega)]
  exact ih _ fun y hy=>h y (by simp [hy])
theorem As3 {l:List Int} (u:Unit) (hl:okL l=true) (h0:0<l.length) (hp:∀x∈l,0<=x):Ui (l,u)=some (AW (fun z=>z) l 0,()):=by
 unfold Ui
 have e:decide (0<l.length)=true:=decide_eq_true h0
 simp only [hl,e,Bool.and_self,if_true]
 rw [Ami l 0 hp]
 cases l with
 | nil=>simp at h0
 | cons a l=>
  have ha:=hp a (by simp)
  simp only [List.headD_cons,List.foldl_cons,Int.lt_irrefl,if_false]
  by_cases h:0<a
  ·rw [if_pos h]
  ·have:a=0:=by omega
   rw [if_neg h,this]
def Bp (n:Nat) (f:Nat->Nat->Int) (x:Nat):Int:=AW (fun z=>z) ((List.range n).map (f x)) 0
theorem KD {n:Nat} (hn:n<=8) (f:Nat->Nat->Int) {x:Nat} (u:Unit):EJ ((List.range n).map (f x),u)=some (Bp n f x,()):=by
 unfold EJ Bp
 rw [if_pos (E9 (by simp;omega))]
theorem Ac4 (N:Nat) (n:Nat) (hn:n<=8) (f:Nat->Nat->Int):∀(k i fu:Nat) (b:Int),i+k=n->k<fu->(b<0 \/ ∃y:Nat,y<n/\b=(y:Int)) ->
  KA N fu (AN n f,b,(i:Int),())=some (.inl (AN n f,Gi (Bp n f) ((List.range n).drop i) b,())):=by
 intro k
 induction k with
 | zero=>
  intro i fu b h1 h2 hb
  obtain ⟨fu,rfl⟩:∃z,fu=z+1:=⟨fu-1,by omega⟩
  have e:i=n:=by omega
  subst e
  rw [AGi (by simp)]
  show H3 N (KA N fu) _=_
  unfold H3
  simp only [Cr,AL,AGb,if_false,Gi]
 | succ k ih=>
  intro i fu b h1 h2 hb
  obtain ⟨fu,rfl⟩:∃z,fu=z+1:=⟨fu-1,by omega⟩
  have hi:i<n:=by omega
  have hd:(List.range n).drop i=i::(List.range n).drop (i+1):=by
   rw [AGj (by simpa using hi)]
   simp
  show H3 N (KA N fu) _=_
  unfold H3
  rw [hd]
  simp only [Cr,Az hi,if_true,Ad hi,Int.toNat_natCast,D8 _ hi,KD hn,Option.bind_some,Dt hi hn,Gi]
  by_cases h1':Bp n f i>=0
  ·rcases hb with hb | ⟨y,hy,rfl⟩
   ·simp only [h1',hb,decide_true,if_true,true_or,and_self]
    exact ih (i+1) fu _ (by omega) (by omega) (.inr ⟨i,hi,rfl⟩)
   ·have hy0:¬(y:Int)<0:=by omega
    by_cases h3':Bp n f i<Bp n f y
    ·simp only [h1',hy0,h3',decide_true,decide_false,AGb,if_true,if_false,Ad hy,Int.toNat_natCast,D8 _ hy,KD hn,Option.bind_some,or_true,and_self]
     exact ih (i+1) fu _ (by omega) (by omega) (.inr ⟨i,hi,rfl⟩)
    ·simp only [h1',hy0,h3',decide_true,decide_false,AGb,if_true,if_false,Ad hy,Int.toNat_natCast,D8 _ hy,KD hn,Option.bind_some,or_self,and_false]
     exact ih (i+1) fu _ (by omega) (by omega) (.inr ⟨y,hy,rfl⟩)
  ·simp only [h1',decide_false,AGb,if_false,false_and]
   exact ih (i+1) fu _ (by omega) (by omega) hb
theorem X5 {w:Nat->Int} {n:Nat}:∀{l:List Nat} {b:Int},(∀x∈l,x<n)->(b<0 \/ ∃y:Nat,y<n/\b=(y:Int))->(Gi w l b<0 \/ ∃y:Nat,y<n/\Gi w l b=(y:Int)):=by
 intro l
 induction l with
 | nil=>intro b _ hb;exact hb
 | cons x l ih=>
  intro b h hb
  simp only [Gi]
  split
  ·exact ih (fun y hy=>h y (by simp [hy])) (.inr ⟨x,h x (by simp),rfl⟩)
  ·exact ih (fun y hy=>h y (by simp [hy])) hb
theorem Aun {t:Tt} (ht:AV t=true) {c:Int} (hc:inB 0 1000 c=true):tcB t c=(if Gi (Bp t.1.1.toNat (AQ t (As t c))) (List.range t.1.1.toNat) (-1)<0 then (0,0,false,()) else (Gi (Bp t.1.1.toNat (AQ t (As t c))) (List.range t.1.1.toNat) (-1),Bp t.1.1.toNat (AQ t (As t c)) (Gi (Bp t.1.1.toNat (AQ t (As t c))) (List.range t.1.1.toNat) (-1)).toNat,true,())):=by
 obtain ⟨c0,c1,c2⟩:=HL ht hc
 have hTl:As t c<(AO t).length:=by rw [Dd,Bv];exact c2
 have hw:∀x,x<t.1.1.toNat->AW (fun z=>z) (((AO t).getD (As t c) []).getD x []) 0=Bp t.1.1.toNat (AQ t (As t c)) x:=fun x hx=>by
  unfold Bp
  rw [BI hTl]
  have e1:(AO t)[As t c]=AN t.1.1.toNat (AQ t (As t c)):=FL _ c2 hTl
  rw [e1,BI (by rw [Cr];exact hx)]
  have:=D8 (AQ t (As t c)) hx
  rw [BC (e:=Ai) (by rw [Cr];exact hx)] at this
  rw [this]
 have hcop:∀(l:List Nat) (b:Int),(∀x∈l,x<t.1.1.toNat)->(b<0 \/ ∃y:Nat,y<t.1.1.toNat/\b=(y:Int))->Gi (fun x:Nat=>AW (fun z=>z) (((AO t).getD (As t c) []).getD x []) 0) l b=Gi (Bp t.1.1.toNat (AQ t (As t c))) l b:=by
  intro l
  induction l with
  | nil=>intro b _ _;rfl
  | cons x l ih=>
   intro b h hb
   have hx:=h x (by simp)
   have hl:=fun y hy=>h y (List.mem_cons_of_mem _ hy)
   simp only [Gi,hw x hx]
   have hbw:(Bp t.1.1.toNat (AQ t (As t c)) x>=0/\(b<0\/Bp t.1.1.toNat (AQ t (As t c)) x<AW (fun z=>z) (((AO t).getD (As t c) []).getD b.toNat []) 0))↔(Bp t.1.1.toNat (AQ t (As t c)) x>=0/\(b<0\/Bp t.1.1.toNat (AQ t (As t c)) x<Bp t.1.1.toNat (AQ t (As t c)) b.toNat)):=by
    rcases hb with hb | ⟨y,hy,rfl⟩
    ·simp [hb]
    ·rw [Int.toNat_natCast,hw y hy]
   by_cases hc':Bp t.1.1.toNat (AQ t (As t c)) x>=0/\(b<0\/Bp t.1.1.toNat (AQ t (As t c)) x<Bp t.1.1.toNat (AQ t (As t c)) b.toNat)
   ·rw [if_pos (hbw.2 hc'),if_pos hc']
    exact ih _ hl (.inr ⟨x,hx,rfl⟩)
   ·rw [if_neg (fun h'=>hc' (hbw.1 h')),if_neg hc']
    exact ih _ hl hb
 unfold tcB
 simp only [ht,hc,Bool.and_self,if_true]
 rw [hcop _ _ (fun x hx=>List.mem_range.1 hx) (.inl (by decide))]
 rcases X5 (w:=Bp t.1.1.toNat (AQ t (As t c))) (n:=t.1.1.toNat) (l:=List.range t.1.1.toNat) (b := -1) (fun x hx=>List.mem_range.1 hx) (.inl (by decide)) with h | ⟨y,hy,h⟩
 ·rw [if_pos h,if_pos h]
 ·rw [h,if_neg (by omega),if_neg (by omega),Int.toNat_natCast,hw y hy]
theorem ZJ (d) (r) (h:BP d=some r):∃N,XA N d=some r:=by
 obtain ⟨t,c,_⟩:=d
 unfold BP at h
 split at h
 ·rename_i ho
  have ho:okT t=true:=ho
  have h:=AGg h
  subst h
  refine ⟨20,?_⟩
  unfold XA Dc
  simp only [ho,if_true,Option.bind_some,Ty]
  cases ht:AV t with
  | false=>simp [tcB,ht]
  | true=>
   cases hc:inB 0 1000 c with
   | false=>simp [tcB,hc]
   | true=>
    obtain ⟨n1,n2,n3,p1,p2,p3,_⟩:=Bi ht
    obtain ⟨c0,c1,c2⟩:=HL ht hc
    have hTl:(AO t).length=t.2.1.toNat:=Bv _ _ _
    have e1:at_ Ag (AO t) (As t c)=AN t.1.1.toNat (AQ t (As t c)):=Ft _ c2
    have key:=Ac4 20 t.1.1.toNat n3 (AQ t (As t c)) t.1.1.toNat 0 20 (-1) (by omega) (by omega) (.inl (by decide))
    simp only [Int.natCast_zero,List.drop_zero] at key
    rw [Aun ht hc]
    simp only [Bool.not_true,AGb,if_false,Dh,ht,ho,Bool.and_self,if_true,Option.bind_some,c0,c1,hTl,Ad c2,Int.toNat_natCast,e1,key]
    rcases X5 (w:=Bp t.1.1.toNat (AQ t (As t c))) (n:=t.1.1.toNat) (l:=List.range t.1.1.toNat) (b := -1) (fun x hx=>List.mem_range.1 hx) (.inl (by decide)) with h | ⟨y,hy,h⟩
    ·simp only [h,decide_true,if_true]
    ·have hy0:¬(y:Int)<0:=by omega
     simp only [h,hy0,decide_false,AGb,if_false,Cr,Ad hy,if_true,Int.toNat_natCast,D8 _ hy,KD n3,Option.bind_some]
 ·cases h
theorem ZD {w:Nat->Int} {x:Nat} {xs:List Nat} {b:Int} (h:w x>=0/\(b<0\/w x<w b.toNat)):Gi w (x::xs) b=Gi w xs (x:Int):=if_pos h
theorem Ag5 {w:Nat->Int} {x:Nat} {xs:List Nat} {b:Int} (h:¬(w x>=0/\(b<0\/w x<w b.toNat))):Gi w (x::xs) b=Gi w xs b:=if_neg h
theorem Agl (N:Nat) (n:Nat) (hn:n<=8) (hn0:0<n) (f:Nat->Nat->Int) (hf:∀x y,-1<=f x y):∀(k i fu:Nat) (b l:Int) (fd:Bool),i+k=n->k<fu->(fd=false/\b=0/\l=0\/fd=true /\ ∃y:Nat,y<n/\b=(y:Int)/\l=Bp n f y) ->
  ∃b' l' fd',II N fu (b,l,fd,AN n f,(n:Int),(i:Int),())=some (.inl (b',l',fd',())) /\
   (if Gi (Bp n f) ((List.range n).drop i) (bif fd then b else -1)<0 then ((0:Int),(0:Int),false,()) else (Gi (Bp n f) ((List.range n).drop i) (bif fd then b else -1),Bp n f (Gi (Bp n f) ((List.range n).drop i) (bif fd then b else -1)).toNat,true,()))=(b',l',fd',()):=by
 intro k
 induction k with
 | zero=>
  intro i fu b l fd h1 h2 hb
  obtain ⟨fu,rfl⟩:∃z,fu=z+1:=⟨fu-1,by omega⟩
  have e:i=n:=by omega
  subst e
  rw [AGi (by simp)]
  refine ⟨b,l,fd,?_,?_⟩
  ·show Hx N (II N fu) _=_
   unfold Hx
   simp only [AL,AGb,if_false]
  ·rcases hb with ⟨rfl,rfl,rfl⟩ | ⟨rfl,y,hy,rfl,rfl⟩
   ·simp [Gi]
   ·have:¬(y:Int)<0:=by omega
    simp [Gi,this]
 | succ k ih=>
  intro i fu b l fd h1 h2 hb
  obtain ⟨fu,rfl⟩:∃z,fu=z+1:=⟨fu-1,by omega⟩
  have hi:i<n:=by omega
  have hd:(List.range n).drop i=i::(List.range n).drop (i+1):=by
   rw [AGj (by simpa using hi)]
   simp
  have hok:okL ((List.range n).map (f i))=true:=E9 (by simp;omega)
  have hlt:i<(AN n f).length:=by rw [Cr];exact hi
  have hst:II N (fu+1) (b,l,fd,AN n f,(n:Int),(i:Int),())=Hx N (II N fu) (b,l,fd,AN n f,(n:Int),(i:Int),()):=rfl
  rw [hst,hd]
  unfold Hx
  simp only [Az hi,if_true,Cr,Ad hi,Int.toNat_natCast,D8 _ hi,Q3 _ _ _ hok,Option.bind_some,Dt hi hn]
  by_cases hneg:((List.range n).map (f i)).any (fun y=>y == -1)=true
  ·have hw:Bp n f i = -1:=by
    rcases B5 (fun z=>z) ((List.range n).map (f i)) 0 with ⟨_,h⟩ | ⟨h,_,_⟩
    ·exact h
    ·obtain ⟨x,hx,hx1⟩:=List.any_eq_true.1 hneg
     have:=(h x hx).1
     have hx1:=beq_iff_eq.1 hx1
     omega
   simp only [hneg,if_true]
   rw [Ag5 (fun h=>absurd h.1 (by rw [hw];decide))]
   exact ih (i+1) fu b l fd (by omega) (by omega) hb
  ·have hpos:∀x∈(List.range n).map (f i),0<=x:=fun x hx=>by
    obtain ⟨y,hy,rfl⟩:=List.mem_map.1 hx
    have h1:=hf i y
    have h2:f i y ≠ -1:=fun e=>hneg (List.any_eq_true.2 ⟨_,hx,by simp [e]⟩)
    omega
   have hm:=As3 () hok (by simpa using hn0) hpos
   have hw0:Bp n f i>=0:=by
    rcases B5 (fun z=>z) ((List.range n).map (f i)) 0 with ⟨⟨x,hx,h⟩,_⟩ | ⟨_,h,_⟩
    ·have:=hpos x hx;omega
    ·exact h
   have hneg':((List.range n).map (f i)).any (fun y=>y == -1)=false:=(Bool.not_eq_true _).mp hneg
   have hm':Ui ((List.range n).map (f i),())=some (Bp n f i,()):=hm
   simp only [hneg',AGb,if_false,hm',Option.bind_some]
   rcases hb with ⟨rfl,rfl,rfl⟩ | ⟨rfl,y,hy,rfl,rfl⟩
   ·simp only [Bool.not_false,if_true,cond_false]
    rw [ZD ⟨hw0,.inl (by decide)⟩]
    have:=ih (i+1) fu (i:Int) (Bp n f i) true (by omega) (by omega) (.inr ⟨rfl,i,hi,rfl,rfl⟩)
    exact this
   ·have hy0:¬(y:Int)<0:=by omega
    simp only [Bool.not_true,AGb,if_false,cond_true]
    by_cases h3:Bp n f i<Bp n f y
    ·rw [ZD ⟨hw0,.inr (by rw [Int.toNat_natCast];exact h3)⟩]
     simp only [h3,decide_true,if_true]
     have:=ih (i+1) fu (i:Int) (Bp n f i) true (by omega) (by omega) (.inr ⟨rfl,i,hi,rfl,rfl⟩)
     exact this
    ·rw [Ag5 (fun h=>by
      rcases h.2 with h | h
      ·exact hy0 h
      ·rw [Int.toNat_natCast] at h;exact h3 h)]
     simp only [h3,decide_false,AGb,if_false]
     have:=ih (i+1) fu (y:Int) (Bp n f y) true (by omega) (by omega) (.inr ⟨rfl,y,hy,rfl,rfl⟩)
     exact this
theorem Z9 (d) (r) (h:BP d=some r):∃N,Xx N d=some r:=by
 obtain ⟨t,c,_⟩:=d
 unfold BP at h
 split at h
 ·rename_i ho
  have ho:okT t=true:=ho
  have h:=AGg h
  subst h
  refine ⟨20,?_⟩
  unfold Xx
  simp only [Vn t _ ho,Option.bind_some,MJ]
  cases ht:AV t with
  | false=>simp [tcB,ht]
  | true=>
   cases hc:inB 0 1000 c with
   | false=>simp [tcB,hc]
   | true=>
    obtain ⟨n1,n2,n3,p1,p2,p3,_⟩:=Bi ht
    obtain ⟨c0,c1,c2⟩:=HL ht hc
    have hTl:(AO t).length=t.2.1.toNat:=Bv _ _ _
    have e1:at_ Ag (AO t) (As t c)=AN t.1.1.toNat (AQ t (As t c)):=Ft _ c2
    obtain ⟨b',l',fd',k1,k2⟩:=Agl 20 t.1.1.toNat n3 n2 (AQ t (As t c)) (fun x y=>(EO ht).1.low _ x y) t.1.1.toNat 0 20 0 0 false (by omega) (by omega) (.inl ⟨rfl,rfl,rfl⟩)
    simp only [Int.natCast_zero,List.drop_zero,cond_false] at k1 k2
    rw [Aun ht hc,k2]
    simp only [Bool.not_true,AGb,if_false,Fw ht ho,FO ht,Option.bind_some,c0,if_true,c1,hTl,Ad c2,Int.toNat_natCast,e1,Cr,k1]
 ·cases h
open Go.Proofs
theorem An7 {n:Nat} {ball:Int->List Int} (hb:E2 n ball) {f g:Nat->Nat->Int} {t:Int} (ht:1<=t) (hf:∀c q,c<n->q<n->f c q<t) (hg:∀c q,c<n->q<n->g c q=f c q\/(f c q<0/\g c q=t)) {b q:Nat} (hbn:b<n) (hq:q<n) :
  (0<=Aw ball (AN n f) (b:Int) (q:Int)->Aw ball (AN n g) (b:Int) (q:Int)=Aw ball (AN n f) (b:Int) (q:Int)) /\
  (0<=Aw ball (AN n g) (b:Int) (q:Int)->Aw ball (AN n g) (b:Int) (q:Int)=Aw ball (AN n f) (b:Int) (q:Int)\/Aw ball (AN n g) (b:Int) (q:Int)=t):=by
 unfold Aw
 by_cases e:(b:Int)=(q:Int)
 ·rw [if_pos e,if_pos e]
  exact ⟨fun _=>rfl,fun _=>.inl rfl⟩
 ·simp only [if_neg e]
  have key:(∀x∈ball (q:Int),0<=AS (AN n f) (b:Int) x)->AW (AS (AN n g) (b:Int)) (ball (q:Int)) 0=AW (AS (AN n f) (b:Int)) (ball (q:Int)) 0:=fun h=>EL fun x hx=>by
   obtain ⟨y,hy,rfl⟩:=hb q hq x hx
   have:=h _ hx
   rw [Bk _ hbn hy] at this |-
   rw [Bk _ hbn hy]
   rcases hg b y hbn hy with h1 | ⟨h1,_⟩
   ·exact h1
   ·omega
  constructor
  ·intro h0
   rcases B5 (AS (AN n f) (b:Int)) (ball (q:Int)) 0 with ⟨_,h1⟩ | ⟨h1,_,_⟩
   ·omega
   ·exact key fun x hx=>(h1 x hx).1
  ·intro h0
   rcases B5 (AS (AN n g) (b:Int)) (ball (q:Int)) 0 with ⟨_,h1⟩ | ⟨h1,h2,h3⟩
   ·omega
   ·by_cases ha:∀x∈ball (q:Int),0<=AS (AN n f) (b:Int) x
    ·exact .inl (key ha)
    ·right
     obtain ⟨x,hx,hn⟩:∃x∈ball (q:Int),¬0<=AS (AN n f) (b:Int) x:=Classical.byContradiction fun hc=>ha fun x hx=>Classical.byContradiction fun h=>hc ⟨x,hx,h⟩
     obtain ⟨y,hy,rfl⟩:=hb q hq x hx
     rw [Bk _ hbn hy] at hn
     have hy1:=h1 _ hx
     rw [Bk _ hbn hy] at hy1
     have hyt:g b y=t:=by
      rcases hg b y hbn hy with h4 | ⟨_,h4⟩
      ·omega
      ·exact h4
     have hle:AW (AS (AN n g) (b:Int)) (ball (q:Int)) 0<=t:=by
      rcases h3 with h3 | ⟨z,hz,h3⟩
      ·omega
      ·obtain ⟨y2,hy2,rfl⟩:=hb q hq z hz
       rw [h3,Bk _ hbn hy2]
       rcases hg b y2 hbn hy2 with h4 | ⟨_,h4⟩
       ·have:=hf b y2 hbn hy2
        omega
       ·omega
     omega
structure Exa3 (p n:Nat) (ball:Nat->Int->List Int) (t:Int) (f:Nat->Nat->Nat->Int):Prop where
 pos:1<=t
 high:∀r c q,r<p->c<n->q<n->f r c q<t
 none:∀r c q,r<p->c<n->q<n->f r c q<0 -> ∀b∈ball r (c:Int),¬(0<=Aw (ball r) (AN n (f ((r+1) % p))) b (q:Int)/\Aw (ball r) (AN n (f ((r+1) % p))) b (q:Int)<t-1)
 some:∀r c q,r<p->c<n->q<n->1<=f r c q -> ∃b∈ball r (c:Int),0<=Aw (ball r) (AN n (f ((r+1) % p))) b (q:Int)/\Aw (ball r) (AN n (f ((r+1) % p))) b (q:Int)+1=f r c q
 best:∀r c q,r<p->c<n->q<n->0<=f r c q -> ∀b∈ball r (c:Int),0<=Aw (ball r) (AN n (f ((r+1) % p))) b (q:Int)->f r c q<=Aw (ball r) (AN n (f ((r+1) % p))) b (q:Int)+1
theorem Apr {n:Nat} {ball:Int->List Int} (hb:E2 n ball) {f:Nat->Nat->Int} {t:Int} (ht:1<=t) (hf:∀c q,c<n->q<n->f c q<t) {b q:Nat} (hbn:b<n) (hq:q<n):Aw ball (AN n f) (b:Int) (q:Int)<=t-1:=by
 unfold Aw
 split
 ·omega
 ·rcases B5 (AS (AN n f) (b:Int)) (ball (q:Int)) 0 with ⟨_,h⟩ | ⟨_,_,h | ⟨x,hx,h⟩⟩
  ·omega
  ·omega
  ·obtain ⟨y,hy,rfl⟩:=hb q hq x hx
   rw [Bk f hbn hy] at h
   have:=hf b y hbn hy
   omega
theorem Exa3.next {p n:Nat} {ball:Nat->Int->List Int} (hp:0<p) (hb:KK p n ball) {t:Int} {f:Nat->Nat->Nat->Int} (hI:Exa3 p n ball t f):Exa3 p n ball (t+1) (Bb p n ball t f):=by
 have ht:=hI.pos
 have hstep:∀r c q,Bb p n ball t f r c q=f r c q\/(f r c q<0/\Bb p n ball t f r c q=t):=fun r c q=>by
  unfold Bb
  split
  ·rename_i h
   unfold Ba at h
   rw [AGc,decide_eq_true_eq] at h
   exact .inr ⟨h.1,rfl⟩
  ·exact .inl rfl
 have hm:∀r,(r+1) % p<p:=fun r=>Nat.mod_lt _ hp
 have hext:∀r b q,r<p->b<n->q<n->_:=fun r b q hr hbn hq=>An7 (f:=f ((r+1) % p)) (g:=Bb p n ball t f ((r+1) % p)) (hb r hr) ht (fun c q hc hq=>hI.high ((r+1) % p) c q (hm r) hc hq) (fun c q _ _=>hstep ((r+1) % p) c q) hbn hq
 have hlt:∀r b q,r<p->b<n->q<n->_:=fun r b q hr hbn hq=>Apr (f:=f ((r+1) % p)) (hb r hr) ht (fun c q hc hq=>hI.high ((r+1) % p) c q (hm r) hc hq) (b:=b) (q:=q) hbn hq
 refine ⟨by omega,fun r c q hr hc hq => ?_,fun r c q hr hc hq h b hbm => ?_,fun r c q hr hc hq h => ?_,fun r c q hr hc hq h b hbm h0 => ?_⟩
 ·rcases hstep r c q with h | ⟨_,h⟩
  ·have:=hI.high r c q hr hc hq;omega
  ·omega
 ·obtain ⟨b,hbn,rfl⟩:=hb r hr c hc b hbm
  have hcan:Ba p n ball f r c q=false:=by
   cases hcc:Ba p n ball f r c q with
   | false=>rfl
   | true=>
    have:Bb p n ball t f r c q=t:=by unfold Bb;rw [if_pos hcc]
    omega
  have hfr:f r c q<0:=by
   rcases hstep r c q with h1 | ⟨h1,_⟩
   ·omega
   ·exact h1
  unfold Ba at hcan
  rw [decide_eq_true hfr,Bool.true_and,List.any_eq_false] at hcan
  have hno:=hcan _ hbm
  simp only [decide_eq_true_eq] at hno
  rintro ⟨h1,h2⟩
  rcases (hext r b q hr hbn hq).2 h1 with h3 | h3
  ·rw [h3] at h1
   exact hno h1
  ·omega
 ·rcases hstep r c q with h1 | ⟨h1,h2⟩
  ·rw [h1] at h |-
   obtain ⟨b,hbm,k0,k1⟩:=hI.some r c q hr hc hq h
   obtain ⟨b',hbn,rfl⟩:=hb r hr c hc b hbm
   have:=(hext r b' q hr hbn hq).1 k0
   exact ⟨_,hbm,by rw [this];exact k0,by rw [this];exact k1⟩
  ·have hcc:Ba p n ball f r c q=true:=by
    cases hcc:Ba p n ball f r c q with
    | true=>rfl
    | false=>
     have:Bb p n ball t f r c q=f r c q:=by unfold Bb;rw [if_neg (by simp [hcc])]
     omega
   unfold Ba at hcc
   rw [AGc,List.any_eq_true] at hcc
   obtain ⟨_,b,hbm,hb0⟩:=hcc
   have hb0:=of_decide_eq_true hb0
   obtain ⟨b',hbn,rfl⟩:=hb r hr c hc b hbm
   have h3:=(hext r b' q hr hbn hq).1 hb0
   have h4:=hlt r b' q hr hbn hq
   have h5:=hI.none r c q hr hc hq h1 _ hbm
   exact ⟨_,hbm,by rw [h3];exact hb0,by rw [h3,h2];omega⟩
 ·obtain ⟨b',hbn,rfl⟩:=hb r hr c hc b hbm
  rcases (hext r b' q hr hbn hq).2 h0 with h3 | h3
  ·rw [h3] at h0 |-
   rcases hstep r c q with h1 | ⟨h1,h2⟩
   ·rw [h1] at h |-
    exact hI.best r c q hr hc hq h _ hbm h0
   ·have h5:=hI.none r c q hr hc hq h1 _ hbm
    omega
  ·rcases hstep r c q with h1 | ⟨h1,h2⟩
   ·have:=hI.high r c q hr hc hq
    omega
   ·omega
theorem Exa3.start {p n:Nat} {ball:Nat->Int->List Int} (hb:KK p n ball):Exa3 p n ball 1 BK:=by
 refine ⟨by omega,fun r c q _ _ _ => ?_,fun r c q _ _ _ _ b _ h=>by omega,fun r c q _ _ _ h => ?_,fun r c q _ _ _ _ b _ h0 => ?_⟩
 ·unfold BK Br;split<;>omega
 ·unfold BK Br at h;split at h<;>omega
 ·have:BK r c q<=0:=by unfold BK Br;split<;>omega
  omega
theorem Adw {p n:Nat} {ball:Nat->Int->List Int} (hp:0<p) (hb:KK p n ball):∀(k:Nat) (t:Int) (f:Nat->Nat->Nat->Int),Exa3 p n ball t f -> ∃t',Exa3 p n ball t' (Da p n ball k t f):=by
 intro k
 induction k with
 | zero=>intro t f h;exact ⟨t,h⟩
 | succ k ih=>
  intro t f h
  simp only [Da]
  split
  ·exact ih _ _ (h.next hp hb)
  ·exact ⟨t,h⟩
theorem Vk {t:Tt} (ht:AV t=true):∃m,Exa3 t.2.1.toNat t.1.1.toNat (Ay t) m (AQ t):=by
 obtain ⟨n1,n2,n3,p1,p2,p3,_⟩:=Bi ht
 exact Adw (by omega) (HD t) 520 1 BK (Exa3.start (HD t))
theorem Za {t:Tt} (ht:AV t=true) {r c q:Nat} (hr:r<t.2.1.toNat) (hc:c<t.1.1.toNat) (hq:q<t.1.1.toNat) {b:Int} (hb:b∈Ay t r (c:Int)) (h0:0<=Be t r b (q:Int)):0<=AQ t r c q/\AQ t r c q<=Be t r b (q:Int)+1:=by
 obtain ⟨m,hE⟩:=Vk ht
 obtain ⟨hI,hend⟩:=EO ht
 rw [EN ht hr] at h0 |-
 have hpos:0<=AQ t r c q:=by
  by_cases h:0<=AQ t r c q
  ·exact h
  ·exfalso
   have hcan:Ba t.2.1.toNat t.1.1.toNat (Ay t) (AQ t) r c q=true:=by
    unfold Ba
    rw [decide_eq_true (show AQ t r c q<0 by omega),Bool.true_and]
    exact List.any_eq_true.2 ⟨b,hb,decide_eq_true h0⟩
   have:IO t.2.1.toNat t.1.1.toNat (Ba t.2.1.toNat t.1.1.toNat (Ay t) (AQ t))=true:=EM.2 ⟨r,c,q,hr,hc,hq,hcan⟩
   rw [hend] at this
   cases this
 exact ⟨hpos,hE.best r c q hr hc hq hpos b hb h0⟩
theorem TE {t:Tt} (ht:AV t=true) {r c q:Nat} (hr:r<t.2.1.toNat) (hc:c<t.1.1.toNat) (hq:q<t.1.1.toNat) (h:1<=AQ t r c q):∃b∈Ay t r (c:Int),0<=Be t r b (q:Int)/\Be t r b (q:Int)+1=AQ t r c q:=by
 obtain ⟨m,hE⟩:=Vk ht
 obtain ⟨b,h1,h2,h3⟩:=hE.some r c q hr hc hq h
 exact ⟨b,h1,by rw [EN ht hr];exact h2,by rw [EN ht hr];exact h3⟩
open Go.Proofs
theorem IU {t:Tt} {r:Nat} (hr:r<t.2.1.toNat):(AO t).getD r []=AN t.1.1.toNat (AQ t r):=by
 rw [Dd]
 have hl:r<(A8 t.2.1.toNat t.1.1.toNat (AQ t)).length:=by rw [Bv];exact hr
 rw [AGm,AGn hl,Option.getD_some,FL _ hr]
theorem Ajj {n:Nat} {f:Nat->Nat->Int} (h:∀c q,-1<=f c q):F9 (n:Int) (AN n f)=true:=by
 have hsq:sqL n (AN n f)=true:=NP _ _
 obtain ⟨t1,t2⟩:=Ci hsq
 unfold F9
 rw [AGc]
 refine ⟨decide_eq_true (by omega),List.all_eq_true.2 fun row hrow => ?_⟩
 obtain ⟨c,hc,rfl⟩:=List.getElem_of_mem hrow
 have hcn:c<n:=by omega
 have h2:=t2 c hcn
 have e:at_ Ai (AN n f) c=(AN n f)[c]:=AM (e:=Ai) hc
 rw [e] at h2
 unfold Kw
 rw [AGc]
 refine ⟨decide_eq_true (by omega),List.all_eq_true.2 fun v hv=>decide_eq_true ?_⟩
 obtain ⟨q,hq,rfl⟩:=List.getElem_of_mem hv
 have hb:=WD hsq hcn (show q<n by omega)
 rw [e,AM (e:=I) hq,Bk f hcn (by omega)] at hb
 have hb2:(AN n f)[c][q]=f c q:=hb
 have:=h c q
 omega
theorem AA8 {t:Tt} (ht:AV t=true):tpB t (AO t)=(true,true,()):=by
 obtain ⟨n1,n2,n3,p1,p2,p3,_⟩:=Bi ht
 obtain ⟨hI,_⟩:=EO ht
 unfold tpB
 rw [if_pos ht]
 have hform:Hd t.1.1 t.2.1 (AO t)=true:=by
  unfold Hd
  rw [AGc]
  refine ⟨List.all_eq_true.2 fun T hT => ?_,decide_eq_true ?_⟩
  ·obtain ⟨r,hr,rfl⟩:=List.getElem_of_mem hT
   rw [Dd,Bv] at hr
   have:=IU hr
   rw [AGm,AGn (by rw [Dd,Bv];exact hr),Option.getD_some] at this
   rw [this,n1]
   exact Ajj fun c q=>hI.low r c q
  ·rw [Dd,Bv];omega
 have hall:Ws t.2.1.toNat t.1.1.toNat (fun r c q=>Ct (Bw t.1.1.toNat (Bx t (r:Int))) (Cu t.2.1.toNat (AO t) (r:Int)) (AS ((AO t).getD r []) (c:Int) (q:Int)) (c:Int) (q:Int))=true:=by
  unfold Ws
  refine List.all_eq_true.2 fun r hr=>List.all_eq_true.2 fun c hc=>List.all_eq_true.2 fun q hq => ?_
  have hr:=List.mem_range.1 hr
  have hc:=List.mem_range.1 hc
  have hq:=List.mem_range.1 hq
  show Ct (Bw t.1.1.toNat (Bx t (r:Int))) (Cu t.2.1.toNat (AO t) (r:Int)) (AS ((AO t).getD r []) (c:Int) (q:Int)) (c:Int) (q:Int)=true
  rw [IU hr,Bk _ hc hq]
  unfold Ct
  by_cases h:AQ t r c q<=0
  ·rw [if_pos h]
   by_cases h0:AQ t r c q<0
   ·rw [decide_eq_true h0,Bool.true_or]
   ·have hcq:c=q:=Classical.byContradiction fun hne=>hI.away r c q hne (by omega)
    subst hcq
    simp
  ·rw [if_neg h]
   obtain ⟨b,hb,k0,k1⟩:=TE ht hr hc hq (by omega)
   exact List.any_eq_true.2 ⟨b,hb,by
    show (decide (0<=Be t r b (q:Int))&&decide (Be t r b (q:Int)<AQ t r c q))=true
    rw [decide_eq_true k0,decide_eq_true (show Be t r b (q:Int)<AQ t r c q by omega),Bool.and_self]⟩
 rw [hform,hall,Bool.and_self]
theorem Atz {t:Tt} (ht:AV t=true) {T:List Tab} (h:(tpB t T).1=true):T.length=t.2.1.toNat/\(∀r,r<t.2.1.toNat->sqL t.1.1.toNat (T.getD r [])=true) /\
  ∀r c q,r<t.2.1.toNat->c<t.1.1.toNat->q<t.1.1.toNat->0<=AS (T.getD r []) (c:Int) (q:Int)->0<=AQ t r c q/\AQ t r c q<=AS (T.getD r []) (c:Int) (q:Int):=by
 obtain ⟨n1,n2,n3,p1,p2,p3,_⟩:=Bi ht
 obtain ⟨hI,_⟩:=EO ht
 unfold tpB at h
 rw [if_pos ht,AGc] at h
 obtain ⟨hform,hall⟩:=h
 unfold Hd at hform
 rw [AGc] at hform
 have hlen:T.length=t.2.1.toNat:=by have:=of_decide_eq_true hform.2;omega
 have hsq:∀r,r<t.2.1.toNat->sqL t.1.1.toNat (T.getD r [])=true:=fun r hr=>by
  have hr2:r<T.length:=by omega
  rw [AGm,AGn hr2,Option.getD_some]
  have:=List.all_eq_true.1 hform.1 _ (AGk hr2)
  unfold F9 at this
  rw [AGc] at this
  unfold sqL
  rw [AGc]
  refine ⟨decide_eq_true (by have:=of_decide_eq_true this.1;omega),List.all_eq_true.2 fun row hrow=>decide_eq_true ?_⟩
  have h2:=List.all_eq_true.1 this.2 row hrow
  unfold Kw at h2
  rw [AGc] at h2
  have:=of_decide_eq_true h2.1
  omega
 refine ⟨hlen,hsq,?_⟩
 have main:∀(v:Nat) r c q,r<t.2.1.toNat->c<t.1.1.toNat->q<t.1.1.toNat->0<=AS (T.getD r []) (c:Int) (q:Int)->AS (T.getD r []) (c:Int) (q:Int)<(v:Int)->0<=AQ t r c q/\AQ t r c q<=AS (T.getD r []) (c:Int) (q:Int):=by
  intro v
  induction v with
  | zero=>intro r c q _ _ _ h1 h2;omega
  | succ v ih=>
   intro r c q hr hc hq h1 h2
   have hp:Ct (Bw t.1.1.toNat (Bx t (r:Int))) (Cu t.2.1.toNat T (r:Int)) (AS (T.getD r []) (c:Int) (q:Int)) (c:Int) (q:Int)=true:=List.all_eq_true.1 (List.all_eq_true.1 (List.all_eq_true.1 hall r (List.mem_range.2 hr)) c (List.mem_range.2 hc)) q (List.mem_range.2 hq)
   unfold Ct at hp
   by_cases h0:AS (T.getD r []) (c:Int) (q:Int)<=0
   ·rw [if_pos h0,Bool.or_eq_true,decide_eq_true_eq,decide_eq_true_eq] at hp
    rcases hp with hp | hp
    ·omega
    ·have hcq:c=q:=by omega
     subst hcq
     rw [hI.home r c]
     exact ⟨Int.le_refl _,h1⟩
   ·rw [if_neg h0] at hp
    obtain ⟨b,hb,hb2⟩:=List.any_eq_true.1 hp
    rw [AGc,decide_eq_true_eq,decide_eq_true_eq] at hb2
    obtain ⟨k0,k1⟩:=hb2
    have hbm:b∈Ay t r (c:Int):=hb
    obtain ⟨b',hbn,rfl⟩:=(HD t) r hr c hc b hbm
    have hm:(r+1) % t.2.1.toNat<t.2.1.toNat:=Nat.mod_lt _ (by omega)
    obtain ⟨hx,hnx⟩:=RK (T:=T) hlen (show t.2.1.toNat<=8 by omega) hr
    have hnext:Cu t.2.1.toNat T (r:Int)=T.getD ((r+1) % t.2.1.toNat) []:=by
     rw [hnx,AGm,AGn hx,Option.getD_some]
    rw [hnext] at k0 k1
    have hafter:0<=Be t r (b':Int) (q:Int)/\Be t r (b':Int) (q:Int)<=Aw (Bw t.1.1.toNat (Bx t (r:Int))) (T.getD ((r+1) % t.2.1.toNat) []) (b':Int) (q:Int):=by
     rw [EN ht hr]
     unfold Aw at k0 k1 |-
     by_cases e:(b':Int)=(q:Int)
     ·simp only [if_pos e];exact ⟨Int.le_refl _,Int.le_refl _⟩
     ·simp only [if_neg e] at k0 k1 |-
      rcases B5 (AS (T.getD ((r+1) % t.2.1.toNat) []) (b':Int)) (Bw t.1.1.toNat (Bx t (r:Int)) (q:Int)) 0 with ⟨_,h3⟩ | ⟨h3,_,_⟩
      ·omega
      ·have hall2:∀x∈Ay t r (q:Int),0<=AS (AN t.1.1.toNat (AQ t ((r+1) % t.2.1.toNat))) (b':Int) x/\AS (AN t.1.1.toNat (AQ t ((r+1) % t.2.1.toNat))) (b':Int) x<=AW (AS (T.getD ((r+1) % t.2.1.toNat) []) (b':Int)) (Bw t.1.1.toNat (Bx t (r:Int)) (q:Int)) 0:=fun x hx=>by
        obtain ⟨y,hy,rfl⟩:=(HD t) r hr q hq x hx
        obtain ⟨h4,h5⟩:=h3 _ hx
        rw [Bk _ hbn hy]
        obtain ⟨h6,h7⟩:=ih _ b' y hm hbn hy h4 (by omega)
        exact ⟨h6,by omega⟩
       rcases B5 (AS (AN t.1.1.toNat (AQ t ((r+1) % t.2.1.toNat))) (b':Int)) (Ay t r (q:Int)) 0 with ⟨⟨x,hx,h4⟩,_⟩ | ⟨_,h4,h5⟩
       ·have:=(hall2 x hx).1;omega
       ·refine ⟨h4,?_⟩
        rcases h5 with h5 | ⟨x,hx,h5⟩
        ·rw [h5];exact k0
        ·rw [h5];exact (hall2 x hx).2
    obtain ⟨h8,h9⟩:=Za ht hr hc hq hbm hafter.1
    exact ⟨h8,by omega⟩
 exact fun r c q hr hc hq h0=>main ((AS (T.getD r []) (c:Int) (q:Int)).toNat+1) r c q hr hc hq h0 (by omega)
theorem YB:∀es:List E,Ir es (List.replicate es.length [0]) 0=es:=by
 intro es
 induction es with
 | nil=>rfl
 | cons e es ih=>
  rw [List.length_cons,List.replicate_succ]
  unfold Ir
  rw [if_pos (by simp),ih]
theorem XR {n:Nat} {ball:Nat->Int->List Int} (hb:E2 n (ball 0)):∀(k k2:Nat) (t:Int) (f:Nat->Nat->Nat->Int),LD n (f 0)<k->LD n (f 0)<k2->0<=t ->
  AN n (Da 1 n ball k t f 0)=AN n (QC n (ball 0) k2 t (f 0)):=by
 intro k
 induction k with
 | zero=>intro k2 t f h;omega
 | succ k ih=>
  intro k2 t f h1 h2 ht
  obtain ⟨k2,rfl⟩:∃m,k2=m+1:=⟨k2-1,by omega⟩
  simp only [Da,QC]
  have hc:∀c q,Ba 1 n ball f 0 c q=JJ n (ball 0) (f 0) c q:=fun c q=>rfl
  have ha:IO 1 n (Ba 1 n ball f)=UA n (JJ n (ball 0) (f 0)):=by
   unfold IO UA
   simp only [List.range_one,List.any_cons,List.any_nil,Bool.or_false]
   rfl
  rw [ha]
  by_cases h:UA n (JJ n (ball 0) (f 0))=true
  ·rw [if_pos h,if_pos h]
   have hs:=Vc (ball:=ball 0) ht h
   have he:Bb 1 n ball t f 0=EB n (ball 0) t (f 0):=rfl
   have:=ih k2 (t+1) (Bb 1 n ball t f) (by rw [he];omega) (by rw [he];omega) (by omega)
   rw [he] at this
   exact this
  ·rw [if_neg h,if_neg h]
theorem UH {n:Nat} (hn:n<=8) (es:List E) (u v:Unit):AO (((n:Int),es,u),1,List.replicate es.length [0],v)=[EY n (Bw n es)]:=by
 unfold AO MV A8 EY
 have e1:(1:Int).toNat=1:=rfl
 simp only [Int.toNat_natCast,e1,List.range_one,List.map_cons,List.map_nil]
 have hball:Ay (((n:Int),es,u),1,List.replicate es.length [0],v) 0=Bw n es:=by
  unfold Ay Bx
  simp only [Int.toNat_natCast,Int.natCast_zero,YB]
 have h1:=Wg n Br
 have h2:n*n<=64:=by
  have:=Nat.mul_le_mul hn hn
  omega
 have:=XR (n:=n) (ball:=Ay (((n:Int),es,u),1,List.replicate es.length [0],v)) (by rw [hball];exact Ka n es) 520 65 1 BK (by show LD n Br<520;omega) (by show LD n Br<65;omega) (by omega)
 rw [this,hball]
 rfl
open Go.Proofs
theorem ACs (N:Nat) (a b:List Tab) (hab:a.length=b.length) (hok:a.all DR=true) (hmx:a.length<=maxLen):∀k i f:Nat,i+k=a.length->k<f ->
  ∃o:Ek,Dy N f (a,b,(i:Int),())=some o/\((o=.inl (false,())/\a.drop i≠b.drop i)\/(o=.inr (.inl ())/\a.drop i=b.drop i)):=by
 intro k
 induction k with
 | zero=>
  intro i f h1 h2
  obtain ⟨f,rfl⟩:∃m,f=m+1:=⟨f-1,by omega⟩
  have e:i=a.length:=by omega
  refine ⟨.inr (.inl ()),?_,.inr ⟨rfl,by rw [AGi (by omega),AGi (by omega)]⟩⟩
  subst e
  show Dv _ _ _=_
  unfold Dv
  simp only [AL,AGb,if_false]
 | succ k ih=>
  intro i f h1 h2
  obtain ⟨f,rfl⟩:∃m,f=m+1:=⟨f-1,by omega⟩
  have hi:i<a.length:=by omega
  have hi2:i<b.length:=by omega
  have ea:at_ Ag a i=a[i]:=AM (e:=Ag) hi
  have eb:at_ Ag b i=b[i]:=AM (e:=Ag) hi2
  have hoi:DR a[i]=true:=List.all_eq_true.1 hok _ (AGk hi)
  obtain ⟨o,o1,o2⟩:=ih (i+1) f (by omega) (by omega)
  rw [AGj hi,AGj hi2]
  have step:Dy N (f+1) (a,b,(i:Int),())=if (!decide (a[i]=b[i]))=true then some (.inl (false,())) else Dy N f (a,b,((i+1:Nat):Int),()):=by
   show Dv _ _ _=_
   unfold Dv
   simp only [Az hi,if_true,Ad hi,Ad hi2,Int.toNat_natCast,ea,eb,FD,hoi,Option.bind_some,A1 hi hmx]
  rw [step]
  by_cases e:a[i]=b[i]
  ·have:(!decide (a[i]=b[i]))=false:=by simp [e]
   rw [this]
   simp only [AGb,if_false]
   refine ⟨o,o1,?_⟩
   rcases o2 with ⟨p1,p2⟩ | ⟨p1,p2⟩
   ·exact .inl ⟨p1,fun h=>p2 (List.cons.inj h).2⟩
   ·exact .inr ⟨p1,by rw [e,p2]⟩
  ·have:(!decide (a[i]=b[i]))=true:=by simp [e]
   rw [this]
   simp only [if_true]
   exact ⟨_,rfl,.inl ⟨rfl,fun h=>e (List.cons.inj h).1⟩⟩
theorem And (d) (r) (h:Dq d=some r):∃N,Gk N d=some r:=by
 obtain ⟨a,b,_⟩:=d
 unfold Dq at h
 split at h
 ·rename_i hl
  have hl:Ji a=true:=hl
  obtain ⟨hl1,hl2⟩:=WH hl
  have hmx:=Adq hl1
  have h:=AGg h
  subst h
  refine ⟨a.length+1,?_⟩
  unfold Gk
  by_cases hne:a.length=b.length
  ·have e:((a.length:Int) != (b.length:Int))=false:=by simp;omega
   obtain ⟨o,o1,o2⟩:=ACs (a.length+1) a b hne hl2 hmx a.length 0 (a.length+1) (by omega) (by omega)
   simp only [Int.natCast_zero,List.drop_zero] at o1 o2
   simp only [e,AGb,if_false,o1,Option.bind_some]
   rcases o2 with ⟨rfl,h2⟩ | ⟨rfl,h2⟩
   ·simp only [h2,decide_false]
   ·simp only [h2,decide_true]
  ·have e:((a.length:Int) != (b.length:Int))=true:=by simp;omega
   have h2:¬a=b:=fun h=>hne (by rw [h])
   simp only [e,if_true,h2,decide_false]
 ·cases h
theorem Am7 (after:Int->Int):∀(l:List Int) (b p:Int),Cs after l b p=H7 after l b p:=by
 intro l
 induction l with
 | nil=>intro b p;rfl
 | cons d l ih=>
  intro b p
  unfold Cs H7
  by_cases h:0<=after d/\(b<0\/after d<p)
  ·rw [if_pos h,if_pos (show after d>=0/\(b<0\/after d<p) from h)]
   exact ih _ _
  ·rw [if_neg h,if_neg (show ¬(after d>=0/\(b<0\/after d<p)) from h)]
   exact ih _ _
theorem Ys {p n:Nat} {ball:Nat->Int->List Int}:∀(k:Nat) (t:Int) (f:Nat->Nat->Nat->Int),(∀r c q,f r c q<=t) -> ∀r c q,Da p n ball k t f r c q<=t+k:=by
 intro k
 induction k with
 | zero=>intro t f h r c q;have:=h r c q;simp only [Da];omega
 | succ k ih=>
  intro t f h r c q
  simp only [Da]
  split
  ·have:=ih (t+1) (Bb p n ball t f) (fun r c q=>by
    unfold Bb
    split
    ·omega
    ·have:=h r c q;omega) r c q
   omega
  ·have:=h r c q;omega
theorem TK (t:Tt) (r c q:Nat):AQ t r c q<=521:=by
 have:=Ys (p:=t.2.1.toNat) (n:=t.1.1.toNat) (ball:=Ay t) 520 1 BK (fun r c q=>by unfold BK Br;split<;>omega) r c q
 unfold AQ
 omega
theorem Afy {t:Tt} (ht:AV t=true) {r x y:Nat} (hr:r<t.2.1.toNat) (hx:x<t.1.1.toNat) (hy:y<t.1.1.toNat) (hne:x≠y) (h:0<=Cs (fun z=>Be t r z (y:Int)) (Ay t r (x:Int)) (-1) 0) :
  ∃b:Nat,b<t.1.1.toNat/\Cs (fun z=>Be t r z (y:Int)) (Ay t r (x:Int)) (-1) 0=(b:Int)/\0<=Be t r (b:Int) (y:Int)/\AQ t r x y=Be t r (b:Int) (y:Int)+1:=by
 rw [Am7] at h |-
 have hm:H7 (fun z=>Be t r z (y:Int)) (Ay t r (x:Int)) (-1) 0∈Ay t r (x:Int):=by
  rcases Akr (fun z=>Be t r z (y:Int)) (Ay t r (x:Int)) (-1) 0 with h1 | h1
  ·omega
  ·exact h1
 obtain ⟨m1,m2,_⟩:=Al1 (fun z=>Be t r z (y:Int)) (Ay t r (x:Int)) (-1) 0 (by omega) (fun d hd=>by
  obtain ⟨d',_,rfl⟩:=(Fq (t:=t) (r:=r) hx).2 d hd
  omega) h
 obtain ⟨b,hb,eb⟩:=(Fq (t:=t) (r:=r) hx).2 _ hm
 rw [eb] at hm m1 m2 |-
 have m1:0<=Be t r (b:Int) (y:Int):=m1
 obtain ⟨g1,g2⟩:=Za ht hr hx hy hm m1
 have hI:=(EO ht).1
 have g3:=hI.away r x y hne
 obtain ⟨d,d1,d2,d3⟩:=TE ht hr hx hy (show 1<=AQ t r x y by omega)
 have d4:Be t r (b:Int) (y:Int)<=Be t r d (y:Int):=m2 d d1 d2
 exact ⟨b,hb,rfl,m1,by omega⟩
theorem NN {t:Tt} (ht:AV t=true) {r c q:Nat} (hr:r<t.2.1.toNat) (hc:c<t.1.1.toNat) (hq:q<t.1.1.toNat):(at_ Ag (AO t) r).length=t.1.1.toNat/\(at_ Ai (at_ Ag (AO t) r) c).length=t.1.1.toNat/\at_ I (at_ Ai (at_ Ag (AO t) r) c) q=AQ t r c q:=by
 have e:at_ Ag (AO t) r=AN t.1.1.toNat (AQ t r):=by rw [Dd];exact Ft _ hr
 rw [e]
 have hsq:sqL t.1.1.toNat (AN t.1.1.toNat (AQ t r))=true:=NP _ _
 obtain ⟨t1,t2⟩:=Ci hsq
 refine ⟨t1,t2 c hc,?_⟩
 rw [WD hsq hc hq,Bk _ hc hq]
open Go.Proofs
theorem ACn (x:Int):0<=bits .and .u64 x 255/\bits .and .u64 x 255<=255:=by
 have h:bits .and .u64 x 255=IntKind.wrap .u64 ((BitVec.ofInt 64 x&&&BitVec.ofInt 64 255).toNat:Int):=rfl
 have e:(BitVec.ofInt 64 x&&&BitVec.ofInt 64 255).toNat<=255:=by
  rw [BitVec.toNat_and]
  have:(BitVec.ofInt 64 255).toNat=255:=by decide
  rw [this]
  exact Nat.and_le_right
 rw [h]
 generalize (BitVec.ofInt 64 x&&&BitVec.ofInt 64 255).toNat=m at e
 unfold IntKind.wrap
 simp [IntKind.bits,IntKind.signed]
 omega
theorem Ahl {c:Cur} {u:Unit} (h:JK c) (hf:c.2.1<=Gm):Ok (QP 0 (c,u)) fun r=>0<=r.1/\r.1<=255/\Adv 1 c r.2.1:=by
 obtain ⟨l,a,s,_⟩:=c
 obtain ⟨hb,ha⟩:=h
 simp only at hb ha hf
 unfold Gm at hf
 have w1:IntKind.wrap .i64 (a+1)=a+1:=Bj _ (by omega) (by omega)
 have hx:=ACn
 have w2:∀x:Int,IntKind.wrap .i64 (bits .and .u64 x 255)=bits .and .u64 x 255:=fun x=>Bj _ (by have:=(hx x).1;omega) (by have:=(hx x).2;omega)
 have adv:∀s',Adv 1 (l,a,s,()) (l,a+1,s',()):=fun s'=>⟨⟨hb,by simp only;omega⟩,by simp only;omega⟩
 unfold QP
 simp only [w1,w2]
 refine Ok.ite (fun h1 => ?_) (fun h1 => ?_)
 ·have h1:a<l.length:=of_decide_eq_true h1
  refine Ok.pos (by unfold Af;simp;omega) ?_
  obtain ⟨v,hv⟩:∃v:Int,at_ (.int .u8) l a.toNat=v:=⟨_,rfl⟩
  have hv':0<=v/\v<=255:=by
   have hlt:a.toNat<l.length:=by omega
   rw [AM (e:=.int .u8) hlt] at hv
   rw [<- hv]
   exact hb _ (AGk hlt)
  rw [hv]
  have w3:IntKind.wrap .i64 v=v:=Bj _ (by omega) (by omega)
  simp only [w3]
  refine Ok.ite (fun _=>Ok.some ⟨hv'.1,hv'.2,adv _⟩) (fun _=>Ok.pos rfl (Ok.some ⟨(hx _).1,(hx _).2,adv _⟩))
 ·refine Ok.ite (fun _=>Ok.some ⟨by simp,by simp,adv _⟩) (fun _=>Ok.pos rfl (Ok.some ⟨(hx _).1,(hx _).2,adv _⟩))
theorem Ag7 {x n:Int} (h:0<=x) (hn:0<n):0<=x.tmod n/\x.tmod n<n:=by
 rw [Int.tmod_eq_emod_of_nonneg h]
 exact ⟨Int.emod_nonneg _ (by omega),Int.emod_lt_of_pos _ hn⟩
theorem Cb {c:Cur} {n:Int} {u:Unit} (h:JK c) (hf:c.2.1+2<=Gm):Ok (BT 0 (c,n,u)) fun r=>0<=r.1/\(r.1<n\/r.1=0)/\Adv 2 c r.2.1:=by
 unfold BT
 simp only
 refine Ok.ite (fun h1=>Ok.some ⟨Int.le_refl _,.inr rfl,h,by simp only;omega⟩) (fun h1 => ?_)
 have h1:¬n<=1:=of_decide_eq_false h1
 have hn:(n != 0)=true:=by simp;omega
 refine Ok.bind (Ahl h (by omega)) fun r hr => ?_
 obtain ⟨r1,r2,r3⟩:=hr
 refine Ok.ite (fun h2 => ?_) (fun h2 => ?_)
 ·have w1:IntKind.wrap .i64 (r.1*256)=r.1*256:=Bj _ (by omega) (by omega)
  refine Ok.bind (Ahl r3.1 (by have:=r3.2;omega)) fun q hq => ?_
  obtain ⟨q1,q2,q3⟩:=hq
  have w2:IntKind.wrap .i64 (r.1*256+q.1)=r.1*256+q.1:=Bj _ (by omega) (by omega)
  refine Ok.pos hn (Ok.some ?_)
  rw [w1,w2]
  have:=Ag7 (x:=r.1*256+q.1) (n:=n) (by omega) (by omega)
  exact ⟨this.1,.inl this.2,(r3.trans q3).le (by omega)⟩
 ·refine Ok.pos hn (Ok.some ?_)
  have:=Ag7 (x:=r.1) (n:=n) (by omega) (by omega)
  exact ⟨this.1,.inl this.2,r3.le (by omega)⟩
theorem Tc {c:Cur} {n:Int} {u:Unit} (h:JK c) (hf:c.2.1+2<=Gm):Ok (F1 0 (c,n,u)) fun r=>Adv 2 c r.2.1:=by
 unfold F1
 simp only
 exact Ok.bind (Cb h hf) fun r hr=>Ok.some hr.2.2
theorem Ei {c:Cur} {l:List Int} {u:Unit} (h:JK c) (hf:c.2.1+2<=Gm) (hl:0<l.length):Ok (CD 0 (c,l,u)) fun r=>r.1∈l/\Adv 2 c r.2.1:=by
 unfold CD
 simp only
 refine Ok.bind (Cb h hf) fun r hr => ?_
 obtain ⟨r1,r2,r3⟩:=hr
 have hlt:r.1.toNat<l.length:=by omega
 refine Ok.pos (by unfold Af;simp;omega) (Ok.some ⟨?_,r3⟩)
 rw [AM (e:=I) hlt]
 exact AGk hlt
open Go.Proofs
theorem AEz (N:Nat) (n:Nat) (hn:n<=8) (z:Gr) (a:Int):∀k x f (es:List E),x+k=n->k<f->es.length<=x -> ∃es',NS N f ((n:Int),z,(a,es,()),(x:Int),())=some (.inl (z,(a,es',()),()))/\es'.length<=100:=by
 intro k
 induction k with
 | zero=>
  intro x f es h1 h2 h3
  obtain ⟨f,rfl⟩:∃m,f=m+1:=⟨f-1,by omega⟩
  refine ⟨es,?_,by omega⟩
  have hlt:decide (((x+1:Nat):Int)<(n:Int))=false:=decide_eq_false (by omega)
  show Ep _ _ _=_
  unfold Ep
  simp only [A0 (show x<=100000 by omega),hlt,AGb,if_false]
 | succ k ih=>
  intro x f es h1 h2 h3
  obtain ⟨f,rfl⟩:∃m,f=m+1:=⟨f-1,by omega⟩
  by_cases hx:x+1<n
  ·have hlt:decide (((x+1:Nat):Int)<(n:Int))=true:=decide_eq_true (by omega)
   have hle:∀e:E,decide (es.length+List.length [e]<=lim)=true:=fun e=>by unfold lim;simp;omega
   obtain ⟨es',e1,e2⟩:=ih (x+1) f (es++[((x:Int),((x+1:Nat):Int),())]) (by omega) (by omega) (by simp;omega)
   refine ⟨es',?_,e2⟩
   rw [<- e1]
   show Ep _ _ _=_
   unfold Ep
   simp only [A0 (show x<=100000 by omega),hlt,if_true,hle]
  ·refine ⟨es,?_,by omega⟩
   have hlt:decide (((x+1:Nat):Int)<(n:Int))=false:=decide_eq_false (by omega)
   show Ep _ _ _=_
   unfold Ep
   simp only [A0 (show x<=100000 by omega),hlt,AGb,if_false]
theorem Ahw (n:Nat) (hn:n<=8):Ok (CX Fs Eo ((n:Int),())) (Eo ((n:Int),())):=by
 refine Ok.pick 20 ?_
 obtain ⟨es,e1,e2⟩:=AEz 20 n hn (0,[],()) (n:Int) n 0 20 [] (by omega) (by omega) (by simp)
 refine ⟨(((n:Int),es,()),()),?_,e2⟩
 unfold Fs
 simp only [Int.natCast_zero] at e1
 simp only [e1,Option.bind_some]
theorem AD9 (N:Nat) (n:Nat) (hn:n<=8) (z:Gr) (a:Int) (x:Int):∀k y f (es:List E),y+k=n->k<f->es.length+k<=1000 -> ∃es',RS N f ((n:Int),z,(a,es,()),x,(y:Int),())=some (.inl ((n:Int),z,(a,es',()),x,()))/\es'.length=es.length+k:=by
 intro k
 induction k with
 | zero=>
  intro y f es h1 h2 h3
  obtain ⟨f,rfl⟩:∃m,f=m+1:=⟨f-1,by omega⟩
  refine ⟨es,?_,by omega⟩
  have hlt:decide ((y:Int)<(n:Int))=false:=decide_eq_false (by omega)
  show Iv _ _ _=_
  unfold Iv
  simp only [hlt,AGb,if_false]
 | succ k ih=>
  intro y f es h1 h2 h3
  obtain ⟨f,rfl⟩:∃m,f=m+1:=⟨f-1,by omega⟩
  have hlt:decide ((y:Int)<(n:Int))=true:=decide_eq_true (by omega)
  have hle:∀e:E,decide (es.length+List.length [e]<=lim)=true:=fun e=>by unfold lim;simp;omega
  obtain ⟨es',e1,e2⟩:=ih (y+1) f (es++[(x,(y:Int),())]) (by omega) (by omega) (by simp;omega)
  refine ⟨es',?_,by rw [e2];simp;omega⟩
  rw [<- e1]
  show Iv _ _ _=_
  unfold Iv
  simp only [hlt,if_true,hle,A0 (show y<=100000 by omega)]
theorem ADz (N:Nat) (hN:20<=N) (n:Nat) (hn:n<=8) (z:Gr) (a:Int):∀k x f (es:List E),x+k=n->k<f->es.length<=8*x -> ∃es',RW N f ((n:Int),z,(a,es,()),(x:Int),())=some (.inl (z,(a,es',()),()))/\es'.length<=100:=by
 intro k
 induction k with
 | zero=>
  intro x f es h1 h2 h3
  obtain ⟨f,rfl⟩:∃m,f=m+1:=⟨f-1,by omega⟩
  refine ⟨es,?_,by omega⟩
  have hlt:decide ((x:Int)<(n:Int))=false:=decide_eq_false (by omega)
  show HJ _ _ _=_
  unfold HJ
  simp only [hlt,AGb,if_false]
 | succ k ih=>
  intro x f es h1 h2 h3
  obtain ⟨f,rfl⟩:∃m,f=m+1:=⟨f-1,by omega⟩
  have hlt:decide ((x:Int)<(n:Int))=true:=decide_eq_true (by omega)
  obtain ⟨e1,q1,q2⟩:=AD9 N n hn z a (x:Int) (n-(x+1)) (x+1) N es (by omega) (by omega) (by omega)
  obtain ⟨es',r1,r2⟩:=ih (x+1) f e1 (by omega) (by omega) (by omega)
  refine ⟨es',?_,r2⟩
  rw [<- r1]
  show HJ _ _ _=_
  unfold HJ
  simp only [hlt,if_true,A0 (show x<=100000 by omega),q1,Option.bind_some]
theorem Arx (n:Nat) (hn:n<=8):Ok (CX I5 Eo ((n:Int),())) (Eo ((n:Int),())):=by
 refine Ok.pick 20 ?_
 obtain ⟨es,e1,e2⟩:=ADz 20 (by omega) n hn (0,[],()) (n:Int) n 0 20 [] (by omega) (by omega) (by simp)
 refine ⟨(((n:Int),es,()),()),?_,e2⟩
 unfold I5
 simp only [Int.natCast_zero] at e1
 simp only [e1,Option.bind_some]
open Go.Proofs
theorem Aki {c:Cur} {n:Int} {es:List E} {v u:Unit} (h:JK c) (hf:c.2.1+20<=Gm) (hl:es.length<=150):Ok (Cn 0 (c,(n,es,v),u)) fun r=>r.1.2.1.length<=es.length+1/\Adv 10 c r.2.1:=by
 unfold Cn
 simp only
 have hle:∀e:E,decide (es.length+List.length [e]<=lim)=true:=fun e=>by unfold lim;simp;omega
 refine Ok.bind (Cb h (by omega)) fun r hr => ?_
 obtain ⟨r1,r2,r3⟩:=hr
 have q3:=r3.2
 refine Ok.ite (fun _ => ?_) fun _=>Ok.ite (fun _ => ?_) fun _=>Ok.ite (fun _ => ?_) fun _ => ?_
 ·refine Ok.bind (Ei r3.1 (by omega) (by simp)) fun s hs=>Ok.some ⟨by simp,(r3.trans hs.2).le (by omega)⟩
 ·refine Ok.bind (Cb r3.1 (by omega)) fun s hs => ?_
  have s3:=hs.2.2.2
  refine Ok.bind (Cb hs.2.2.1 (by omega)) fun t ht => ?_
  refine Ok.pos (hle _) (Ok.some ⟨by simp,((r3.trans hs.2.2).trans ht.2.2).le (by omega)⟩)
 ·refine Ok.ite (fun hp => ?_) fun _=>Ok.some ⟨by simp,r3.le (by omega)⟩
  have hp:=of_decide_eq_true hp
  refine Ok.bind (Cb r3.1 (by omega)) fun s hs => ?_
  obtain ⟨s1,s2,s3⟩:=hs
  refine Ok.pos (by unfold Af;simp;omega) (Ok.pos (hle _) (Ok.some ⟨by simp,(r3.trans s3).le (by omega)⟩))
 ·exact Ok.some ⟨by simp,r3.le (by omega)⟩
open Go.Proofs
theorem Aja (e:E):∀l:List E,(Abo e l).length=l.length+1:=by
 intro l
 induction l with
 | nil=>rfl
 | cons a l ih=>unfold Abo;split<;>simp [ih]
theorem Afx {es:List E} {e:E} {u:Unit} (h:es.length<=1000):Ok (G8 (es,e,u)) fun r=>r.1.length=es.length+1:=by
 unfold G8
 rw [if_pos (decide_eq_true h)]
 exact Ok.some (Aja _ _)
theorem Au8 {g:Gr} {x y:Int} {u:Unit} (h:g.2.1.length<=1000):Ok (FF (g,x,y,u)) fun _=>True:=by
 unfold FF
 rw [if_pos (show okL g.2.1=true from decide_eq_true (by unfold lim;omega))]
 exact Ok.some trivial
theorem Ash (n:Nat) (hn:n<=8):Ok (J3 0 ((n:Int),())) fun r=>r.1.2.1.length<=101:=by
 unfold J3
 simp only
 refine Ok.bind (Ahw n hn) fun r hr => ?_
 have hr:r.1.2.1.length<=100:=hr
 refine Ok.bind (Afx (by omega)) fun q hq=>Ok.some ?_
 simp only
 omega
theorem ADw (N:Nat) (n:Nat) (hn:n<=8) (z:Gr) (a w:Int) (b:Bool) (x:Int):∀k y f (c:Cur) (es:List E),y+k=n->k<f->JK c->c.2.1+2*(k:Int)<=Gm->es.length+k<=1000 ->
  Ok (RL N f (c,z,(n:Int),(a,es,()),w,b,x,(y:Int),())) fun o => ∃c' es',o=.inl (c',z,(n:Int),(a,es',()),w,b,x,())/\Adv (2*(k:Int)) c c'/\es'.length<=es.length+k:=by
 intro k
 induction k with
 | zero=>
  intro y f c es h1 h2 h3 h4 h5
  obtain ⟨f,rfl⟩:∃m,f=m+1:=⟨f-1,by omega⟩
  have hlt:decide ((y:Int)<(n:Int))=false:=decide_eq_false (by omega)
  show Ok (Ix _ _ _) _
  unfold Ix
  simp only [hlt,AGb,if_false]
  exact Ok.some ⟨c,es,rfl,⟨h3,by omega⟩,by omega⟩
 | succ k ih=>
  intro y f c es h1 h2 h3 h4 h5
  obtain ⟨f,rfl⟩:∃m,f=m+1:=⟨f-1,by omega⟩
  have hlt:decide ((y:Int)<(n:Int))=true:=decide_eq_true (by omega)
  show Ok (Ix _ _ _) _
  unfold Ix
  simp only [hlt,if_true,A0 (show y<=100000 by omega)]
  refine Ok.bind (Cb h3 (by omega)) fun r hr => ?_
  have r3:=hr.2.2.2
  refine Ok.ite (fun _ => ?_) (fun _ => ?_)
  ·refine Ok.bind (Afx (by omega)) fun q hq => ?_
   refine (ih (y+1) f r.2.1 q.1 (by omega) (by omega) hr.2.2.1 (by omega) (by omega)).mono fun o ho => ?_
   obtain ⟨c',es',e1,e2,e3⟩:=ho
   exact ⟨c',es',e1,(hr.2.2.trans e2).le (by omega),by omega⟩
  ·refine (ih (y+1) f r.2.1 es (by omega) (by omega) hr.2.2.1 (by omega) (by omega)).mono fun o ho => ?_
   obtain ⟨c',es',e1,e2,e3⟩:=ho
   exact ⟨c',es',e1,(hr.2.2.trans e2).le (by omega),by omega⟩
theorem AEi (N:Nat) (hN:20<=N) (n:Nat) (hn:n<=8) (z:Gr) (a w:Int) (b:Bool):∀k x f (c:Cur) (es:List E),x+k=n->k<f->JK c->c.2.1+20*(k:Int)<=Gm->es.length<=10*x ->
  Ok (Hc N f (c,z,(n:Int),(a,es,()),w,b,(x:Int),())) fun o => ∃c' es',o=.inl (c',z,(a,es',()),())/\Adv (20*(k:Int)) c c'/\es'.length<=10*n:=by
 intro k
 induction k with
 | zero=>
  intro x f c es h1 h2 h3 h4 h5
  obtain ⟨f,rfl⟩:∃m,f=m+1:=⟨f-1,by omega⟩
  have hlt:decide ((x:Int)<(n:Int))=false:=decide_eq_false (by omega)
  show Ok (HS _ _ _) _
  unfold HS
  simp only [hlt,AGb,if_false]
  exact Ok.some ⟨c,es,rfl,⟨h3,by omega⟩,by omega⟩
 | succ k ih=>
  intro x f c es h1 h2 h3 h4 h5
  obtain ⟨f,rfl⟩:∃m,f=m+1:=⟨f-1,by omega⟩
  have hlt:decide ((x:Int)<(n:Int))=true:=decide_eq_true (by omega)
  show Ok (HS _ _ _) _
  unfold HS
  simp only [hlt,if_true,A0 (show x<=100000 by omega)]
  refine Ok.bind (ADw N n hn z a w b (x:Int) (n-(x+1)) (x+1) N c es (by omega) (by omega) h3 (by omega) (by omega)) fun o ho => ?_
  obtain ⟨c1,e1,rfl,a1,l1⟩:=ho
  have b1:=a1.2
  simp only [A0 (show x<=100000 by omega)]
  refine Ok.bind (Cb a1.1 (by omega)) fun r hr => ?_
  have r3:=hr.2.2.2
  have more:∀es2:List E,es2.length<=10*(x+1)->Ok (Hc N f (r.2.1,z,(n:Int),(a,es2,()),w,b,((x+1:Nat):Int),())) fun o => ∃c' es',o=.inl (c',z,(a,es',()),())/\Adv (20*((k+1:Nat):Int)) c c'/\es'.length<=10*n:=fun es2 h=>by
   refine (ih (x+1) f r.2.1 es2 (by omega) (by omega) hr.2.2.1 (by omega) (by omega)).mono fun o ho => ?_
   obtain ⟨c',es',e1,e2,e3⟩:=ho
   exact ⟨c',es',e1,((a1.trans hr.2.2).trans e2).le (by omega),by omega⟩
  refine Ok.ite (fun _=>Ok.ite (fun _ => ?_) fun _=>more _ (by omega)) fun _=>more _ (by omega)
  refine Ok.bind (Au8 (by simp only;omega)) fun _ _=>Ok.ite (fun _ => ?_) fun _=>more _ (by omega)
  refine Ok.bind (Afx (by omega)) fun q hq=>more _ (by omega)
def Acl (N:Nat) (c:Cur) (n:Int):Option (Gr×Cur×Unit):=
  ((BT 0) ((c,((8:Int),())))).bind fun r49=>
  if (r49.1==(0:Int))=true then
   ((CX Fs Eo) (n,())).bind fun r50=>
   ((Cn 0) ((r49.2.1,(r50.1,())))).bind fun r51=>
   some ((r51.1,(r51.2.1,())))
  else
   if (r49.1==(1:Int))=true then
    if (decide (n>(2:Int)))=true then
     ((J3 0) (n,())).bind fun r52=>
     ((Cn 0) ((r49.2.1,(r52.1,())))).bind fun r53=>
     some ((r53.1,(r53.2.1,())))
    else
     ((Cn 0) ((r49.2.1,((n,(([]:List (Int×Int×Unit)),())),())))).bind fun r54=>
     some ((r54.1,(r54.2.1,())))
   else
    if (r49.1==(2:Int))=true then
     ((CX I5 Eo) (n,())).bind fun r55=>
     ((Cn 0) ((r49.2.1,(r55.1,())))).bind fun r56=>
     some ((r56.1,(r56.2.1,())))
    else
     ((CD 0) ((r49.2.1,([(3:Int),(4:Int),(6:Int)],())))).bind fun r57=>
     ((F1 0) ((r57.2.1,((6:Int),())))).bind fun r58=>
     (Hc N N ((r58.2.1,(((0:Int),(([]:List (Int×Int×Unit)),())),(n,((n,(([]:List (Int×Int×Unit)),())),(r57.1,(r58.1,((0:Int),()))))))))).bind fun o59=>match o59 with
     | .inl d60=>
      ((Cn 0) ((d60.1,(d60.2.2.1,())))).bind fun r61=>
      some ((r61.1,(r61.2.1,())))
theorem Aj7 {c:Cur} {n:Int} {m:Nat} (hm:m<=8) (he:n=m) (h:JK c) (hf:c.2.1+250<=Gm):Ok (Acl 20 c n) fun r=>Adv 200 c r.2.1/\r.1.2.1.length<=200:=by
 subst he
 have mar:∀(c1:Cur) (g:Gr),Adv 180 c c1->g.2.1.length<=150->Ok ((Cn 0 (c1,g,())).bind fun r=>some (r.1,r.2.1,())) fun r=>Adv 200 c r.2.1/\r.1.2.1.length<=200:=by
  intro c1 g h1 h2
  have:=h1.2
  obtain ⟨n,es,u⟩:=g
  refine Ok.bind (Aki h1.1 (by omega) h2) fun r hr=>Ok.some ⟨(h1.trans hr.2).le (by omega),?_⟩
  have:=hr.1
  simp only at h2 |-
  omega
 unfold Acl
 refine Ok.bind (Cb h (by omega)) fun r hr => ?_
 have a1:=hr.2.2
 have b1:=a1.2
 refine Ok.ite (fun _ => ?_) fun _=>Ok.ite (fun _=>Ok.ite (fun _ => ?_) fun _=>mar _ _ (a1.le (by omega)) (by simp)) fun _=>Ok.ite (fun _ => ?_) fun _ => ?_
 ·refine Ok.bind (Ahw m hm) fun q hq=>mar _ _ (a1.le (by omega)) ?_
  have:q.1.2.1.length<=100:=hq
  omega
 ·refine Ok.bind (Ash m hm) fun q hq=>mar _ _ (a1.le (by omega)) (by omega)
 ·refine Ok.bind (Arx m hm) fun q hq=>mar _ _ (a1.le (by omega)) ?_
  have:q.1.2.1.length<=100:=hq
  omega
 ·refine Ok.bind (Ei a1.1 (by omega) (by simp)) fun q hq => ?_
  have a2:=a1.trans hq.2
  have b2:=a2.2
  refine Ok.bind (Tc a2.1 (by omega)) fun s hs => ?_
  have a3:=a2.trans hs
  have b3:=a3.2
  have hl:=AEi 20 (by omega) m hm (0,[],()) (m:Int) q.1 s.1 m 0 20 s.2.1 [] (by omega) (by omega) a3.1 (by omega) (by simp)
  simp only [Int.natCast_zero] at hl
  refine Ok.bind hl fun o ho => ?_
  obtain ⟨c',es',rfl,e2,e3⟩:=ho
  exact mar _ _ ((a3.trans e2).le (by omega)) (by simp only;omega)
theorem SX {x y:Int} {u:Unit} (h:0<=x) (h2:0<=y) (h3:y<=8):∃m:Nat,m<=8/\(Kk (x,y,u)).1=(m:Int):=by
 unfold Kk
 simp only
 split
 ·rename_i hh
  have:=of_decide_eq_true hh
  exact ⟨x.toNat,by omega,by simp only;omega⟩
 ·exact ⟨y.toNat,by omega,by simp only;omega⟩
theorem NM {c:Cur} {a:Int} (h:JK c) (hf:c.2.1+300<=Gm) (h0:0<=a) (h8:a<=8):Ok (CX Mb KS (c,a,())) (KS (c,a,())):=by
 refine Ok.pick 20 ?_
 have fin:∀(c1:Cur) (n:Int) (m:Nat),m<=8->n=m->Adv 50 c c1->Ok (Acl 20 c1 n) (KS (c,a,())):=fun c1 n m hm he h1=>by
  have:=h1.2
  exact (Aj7 hm he h1.1 (by omega)).mono fun r hr=>⟨(h1.trans hr.1).le (by omega),hr.2⟩
 unfold Mb
 simp only
 refine Ok.bind (Ei h (by omega) (by simp)) fun r hr => ?_
 have r0:0<=r.1:=by
  have:=hr.1
  simp at this
  omega
 have a1:=hr.2
 have b1:=a1.2
 refine Ok.ite (fun _ => ?_) fun _ => ?_
 ·refine Ok.bind (Tc a1.1 (by omega)) fun s hs => ?_
  have a2:=a1.trans hs
  have b2:=a2.2
  refine Ok.ite (fun _ => ?_) fun _ => ?_
  ·refine Ok.bind (Cb a2.1 (by omega)) fun t ht => ?_
   have a3:=a2.trans ht.2.2
   have w:IntKind.wrap .i64 ((7:Int)+t.1)=7+t.1:=Bj _ (by have:=ht.1;omega) (by have:=ht.2.1;omega)
   obtain ⟨m,hm,em⟩:=SX (x:=IntKind.wrap .i64 ((7:Int)+t.1)) (u:=()) (by rw [w];have:=ht.1;omega) h0 h8
   exact fin _ _ m hm em (a3.le (by omega))
  ·obtain ⟨m,hm,em⟩:=SX (u:=()) r0 h0 h8
   exact fin _ _ m hm em (a2.le (by omega))
 ·obtain ⟨m,hm,em⟩:=SX (u:=()) r0 h0 h8
  exact fin _ _ m hm em (a1.le (by omega))
theorem Zo {c:Cur} {u:Unit} (h:JK c) (hf:c.2.1+300<=Gm):Ok (SN 0 (c,u)) fun r=>Adv 300 c r.2.1/\r.1.2.1.length<=200:=by
 unfold SN
 simp only
 exact Ok.bind (NM h hf (by omega) (by omega)) fun r hr=>Ok.some hr
open Go.Proofs
theorem law54:∀d,WfD (Kd.tuple ([(K_Su8,false)].map (·.1))) d -> ∃out,Zc d=some out/\(Fl [.bool] [] out).1.1=true:=by
 rintro ⟨code,_⟩ ⟨⟨hl,hc⟩,_⟩
 refine ⟨(true,()),?_,rfl⟩
 unfold Zc
 rw [if_pos]
 simp only [AGc,List.all_eq_true,decide_eq_true_eq]
 refine ⟨fun x hx => ?_,hl⟩
 have:=hc x hx
 simp [WfD,Lit.wf,IntKind.min,IntKind.max,IntKind.signed,IntKind.bits] at this
 unfold inB
 simp
 omega
open Go.Proofs
theorem Ah3 {c:Cur} {g:Gr} {u:Unit} (h:JK c) (hf:c.2.1+10<=Gm):Ok (OQ 0 (c,g,u)) fun r=>r.1<=9223372036854775807/\(r.1 = -1\/0<=r.1)/\Adv 10 c r.2.1:=by
 have lst:∀(c1:Cur),Adv 4 c c1->Ok ((CD 0 (c1,[(-1:Int),(0:Int),(8:Int),(4611686018427387904:Int)],())).bind fun r=>some (r.1,r.2.1,())) fun r=>r.1<=9223372036854775807/\(r.1 = -1\/0<=r.1)/\Adv 10 c r.2.1:=fun c1 h1=>by
  have:=h1.2
  refine Ok.bind (Ei h1.1 (by omega) (by simp)) fun r hr=>Ok.some ⟨?_,?_,(h1.trans hr.2).le (by omega)⟩
  ·have:=hr.1
   simp at this
   omega
  ·have:=hr.1
   simp at this
   omega
 have a0:Adv 4 c c:=⟨h,by omega⟩
 unfold OQ
 simp only
 refine Ok.ite (fun _=>lst c a0) fun h1=>Ok.ite (fun _=>lst c a0) fun h2 => ?_
 have h2:=of_decide_eq_false h2
 have h2:¬g.1>8:=h2
 refine Ok.bind (Tc h (by omega)) fun r hr => ?_
 have b:=hr.2
 refine Ok.ite (fun _=>lst _ (hr.le (by omega))) fun _ => ?_
 refine Ok.bind (Cb hr.1 (by omega)) fun s hs=>Ok.some ⟨?_,.inr hs.1,(hr.trans hs.2.2).le (by omega)⟩
 rcases hs.2.1 with h3 | h3
 ·have h3:s.1<g.1:=h3
  show s.1<=_
  omega
 ·show s.1<=_
  omega
open Go.Proofs
structure Sts (m cfn:Nat) (st:List St):Prop where
 at_:∀j (h:j<st.length),(∃c:Nat,st[j].1=(c:Int)/\c<cfn)/\(∃p:Nat->Bool,st[j].2.1=BE p m 0) /\ -1<=st[j].2.2.1/\st[j].2.2.1<(j:Int)
theorem Sts.push {m cfn:Nat} {st:List St} (h:Sts m cfn st) {c:Nat} (hc:c<cfn) (p:Nat->Bool) {b:Int} (h1 : -1<=b) (h2:b<(st.length:Int)):Sts m cfn (st++[((c:Int),BE p m 0,b,())]):=by
 refine ⟨fun j hj => ?_⟩
 by_cases hl:j<st.length
 ·rw [List.getElem_append_left hl]
  exact h.at_ j hl
 ·have e:j=st.length:=by simp at hj;omega
  subst e
  rw [List.getElem_append_right (by omega)]
  simp only [Nat.sub_self,List.getElem_cons_zero]
  exact ⟨⟨c,rfl,hc⟩,⟨p,rfl⟩,h1,h2⟩
def AFm (l:List Bool):Nat:=l.foldr (fun b s=>(if b=true then 1 else 0)+s) 0
structure ShI (m cfn:Nat) (st:List St) (sn:List Bool):Prop where
 sts:Sts m cfn st
 len:sn.length=cfn*2 ^ m
 cnt:st.length<=cfn+AFm sn
open Go.Proofs
def Azz (g:Gr) (w:List (List Int)):Prop:=g.2.1.length<=200/\w.length<=60 /\ ∀l∈w,l.length<=10
theorem Azz.ok {g:Gr} {w:List (List Int)} (h:Azz g w):okL g.2.1=true/\DR w=true:=⟨E9 (by have:=h.1;omega),Jd (by have:=h.2.1;omega) (List.all_eq_true.2 fun l hl=>decide_eq_true (by have:=h.2.2 l hl;omega))⟩
open Go.Proofs
theorem Aya {t x:Int} {u:Unit} (h1:0<=t) (h2:t<=8) (h3:0<=x) (h4:x<=255):Ok (Ip (t,x,u)) fun r=>r.1.length<=8:=by
 unfold Ip
 have e1:inB 0 8 t=true:=AY.2 ⟨h1,h2⟩
 have e2:inB 0 255 x=true:=AY.2 ⟨h3,h4⟩
 simp only [e1,e2,Bool.and_self,if_true]
 exact Ok.some (Nat.le_trans J0 (by omega))
theorem Aqe (N:Nat) (z:Tt) (g:Gr) (p:Int) (hp:1<=p/\p<=4) (hg:g.2.1.length<=200):∀(k i f:Nat) (c:Cur) (ts:List (List Int)),i+k=g.2.1.length->k<f->JK c->c.2.1+6*(k:Int)<=Gm->ts.length<=i->(∀l∈ts,l.length<=8) ->
  Ok (IW N f (c,z,g,(g,p,ts,()),(i:Int),())) fun o => ∃c' ts',o=.inl (c',z,(g,p,ts',()),())/\Adv (6*(k:Int)) c c'/\ts'.length<=200 /\ ∀l∈ts',l.length<=8:=by
 intro k
 induction k with
 | zero=>
  intro i f c ts h1 h2 h3 h4 h5 h6
  obtain ⟨f,rfl⟩:∃m,f=m+1:=⟨f-1,by omega⟩
  have hlt:decide ((i:Int)<(g.2.1.length:Int))=false:=decide_eq_false (by omega)
  show Ok (Hy _ _ _) _
  unfold Hy
  simp only [hlt,AGb,if_false]
  exact Ok.some ⟨c,ts,rfl,⟨h3,by omega⟩,by omega,h6⟩
 | succ k ih=>
  intro i f c ts h1 h2 h3 h4 h5 h6
  obtain ⟨f,rfl⟩:∃m,f=m+1:=⟨f-1,by omega⟩
  have hlt:decide ((i:Int)<(g.2.1.length:Int))=true:=decide_eq_true (by omega)
  have more:∀(c1:Cur) (l:List Int),Adv 4 c c1->l.length<=8->Ok (IW N f (c1,z,g,(g,p,ts++[l],()),((i+1:Nat):Int),())) fun o => ∃c' ts',o=.inl (c',z,(g,p,ts',()),())/\Adv (6*((k+1:Nat):Int)) c c'/\ts'.length<=200 /\ ∀l∈ts',l.length<=8:=fun c1 l a1 hl=>by
   have:=a1.2
   refine (ih (i+1) f c1 (ts++[l]) (by omega) (by omega) a1.1 (by omega) (by simp;omega) (fun x hx=>by
    rcases List.mem_append.1 hx with hx | hx
    ·exact h6 x hx
    ·rw [List.mem_singleton.1 hx];exact hl)).mono fun o ho => ?_
   obtain ⟨c',ts',e1,e2,e3⟩:=ho
   exact ⟨c',ts',e1,(a1.trans e2).le (by omega),e3⟩
  have hle:∀l:List Int,decide (ts.length+List.length [l]<=lim)=true:=fun l=>by unfold lim;simp;omega
  show Ok (Hy _ _ _) _
  unfold Hy
  simp only [hlt,if_true,A0 (show i<=100000 by omega)]
  refine Ok.bind (Cb h3 (by omega)) fun r hr => ?_
  obtain ⟨r1,r2,r3⟩:=hr
  have b3:=r3.2
  have w:IntKind.wrap .i64 ((1:Int)+r.1)=1+r.1:=Bj _ (by omega) (by omega)
  rw [w]
  refine Ok.bind (Aya (by omega) (by omega) (by omega) (by omega)) fun q hq => ?_
  refine Ok.ite (fun _ => ?_) fun _=>Ok.pos (hle _) (more _ _ (r3.le (by omega)) hq)
  refine Ok.bind (Tc r3.1 (by omega)) fun s hs => ?_
  have a2:=(r3.trans hs).le (show (2:Int)+2<=4 by omega)
  exact Ok.ite (fun _=>Ok.pos (hle _) (more _ _ a2 (by simp))) fun _=>Ok.pos (hle _) (more _ _ a2 hq)
def Afq (c:Cur) (t:Tt):Option (Tt×Cur×Unit):=
   ((BT 0) ((c,((30:Int),())))).bind fun r24=>
   if (r24.1==(0:Int))=true then
    ((CD 0) ((r24.2.1,([(0:Int),(5:Int),(-1:Int)],())))).bind fun r25=>
    some (((t.1,(r25.1,t.2.2)),(r25.2.1,())))
   else
    if (r24.1==(1:Int))=true then
     if (decide (List.length t.2.2.1+List.length ([[(0:Int)]])<=lim))=true then
     let x26:List (List Int):=t.2.2.1++([[(0:Int)]])
     some (((t.1,(t.2.1,(x26,t.2.2.2))),(r24.2.1,())))
     else none
    else
     if (r24.1==(2:Int))=true then
      if (decide ((List.length t.2.2.1:Int)>(0:Int)))=true then
       if (Af (0:Int) (List.length t.2.2.1))=true then
       ((CD 0) ((r24.2.1,([(4:Int),(0:Int),(-1:Int)],())))).bind fun r27=>
       if (decide (List.length (at_ Ai t.2.2.1 (0:Int).toNat)+List.length ([r27.1])<=lim))=true then
       let x28:List Int:=(at_ Ai t.2.2.1 (0:Int).toNat)++([r27.1])
       if (Af (0:Int) (List.length t.2.2.1))=true then
       if (((Nat.beq (0:Int).toNat (0:Int).toNat)&&true))=true then
       some (((t.1,(t.2.1,(List.set t.2.2.1 (0:Int).toNat x28,t.2.2.2))),(r27.2.1,())))
       else none
       else none
       else none
       else none
      else
       some ((t,(r24.2.1,())))
     else
      some ((t,(r24.2.1,())))
theorem Am5 {c:Cur} {g:Gr} {p:Int} {ts:List (List Int)} {v:Unit} (h:JK c) (hf:c.2.1+10<=Gm) (hg:g.2.1.length<=200) (h1:ts.length<=200) (h2:∀l∈ts,l.length<=8) :
  Ok (Afq c (g,p,ts,v)) fun r=>Adv 10 c r.2.1/\r.1.1.2.1.length<=200/\r.1.2.2.1.length<=300 /\ ∀l∈r.1.2.2.1,l.length<=10:=by
 have h2':∀l∈ts,l.length<=10:=fun l hl=>by have:=h2 l hl;omega
 unfold Afq
 simp only
 refine Ok.bind (Cb h (by omega)) fun r hr => ?_
 have a:=hr.2.2
 have b:=a.2
 refine Ok.ite (fun _ => ?_) fun _=>Ok.ite (fun _ => ?_) fun _=>Ok.ite (fun _=>Ok.ite (fun h0 => ?_) fun _=>Ok.some ⟨a.le (by omega),hg,by show ts.length<=300;omega,h2'⟩) fun _=>Ok.some ⟨a.le (by omega),hg,by show ts.length<=300;omega,h2'⟩
 ·exact Ok.bind (Ei a.1 (by omega) (by simp)) fun s hs=>Ok.some ⟨(a.trans hs.2).le (by omega),hg,by show ts.length<=300;omega,h2'⟩
 ·refine Ok.pos (by unfold lim;simp;omega) (Ok.some ⟨a.le (by omega),hg,?_,fun l hl => ?_⟩)
  ·show (ts++[[(0:Int)]]).length<=300
   rw [List.length_append]
   have:List.length [[(0:Int)]]=1:=rfl
   omega
  ·rcases List.mem_append.1 hl with hl | hl
   ·exact h2' l hl
   ·rw [List.mem_singleton.1 hl];simp
 ·have h0:=of_decide_eq_true h0
  have hlt:0<ts.length:=by omega
  have e0:at_ Ai ts (0:Int).toNat=ts[0]:=AM (e:=Ai) hlt
  have i0:Af (0:Int) ts.length=true:=Ad hlt
  have l0:=h2 ts[0] (AGk hlt)
  refine Ok.pos i0 (Ok.bind (Ei a.1 (by omega) (by simp)) fun s hs => ?_)
  rw [e0]
  refine Ok.pos (by unfold lim;simp;omega) (Ok.pos i0 (Ok.pos rfl (Ok.some ⟨(a.trans hs.2).le (by omega),hg,?_,fun l hl => ?_⟩)))
  ·show (List.set ts (0:Int).toNat (ts[0]++[s.1])).length<=300
   rw [List.length_set];omega
  ·rcases List.mem_or_eq_of_mem_set hl with hl | rfl
   ·exact h2' l hl
   ·have e:(ts[0]++[s.1]).length=ts[0].length+1:=by simp
    omega
theorem Jj {c:Cur} {u:Unit} (h:JK c) (hf:c.2.1+3000<=Gm):Ok (CX Js Hf (c,u)) (Hf (c,u)):=by
 refine Ok.pick 300 ?_
 have fin:∀(c1:Cur) (g:Gr) (p:Int),Adv 1000 c c1->g.2.1.length<=200->1<=p/\p<=4->Ok ((IW 300 300 (c1,(((0:Int),(([]:List (Int×Int×Unit)),())),((0:Int),(([]:List (List Int)),()))),g,(g,p,[],()),(0:Int),())).bind fun o13=>match o13 with
   | .inl d=>Afq d.1 d.2.2.1) (Hf (c,u)):=fun c1 g p h1 hg hp=>by
  have b:=h1.2
  have hl:=Aqe 300 (((0:Int),(([]:List (Int×Int×Unit)),())),((0:Int),(([]:List (List Int)),()))) g p hp hg g.2.1.length 0 300 c1 [] (by omega) (by omega) h1.1 (by omega) (by simp) (by simp)
  simp only [Int.natCast_zero] at hl
  refine Ok.bind hl fun o ho => ?_
  obtain ⟨c',ts',rfl,e2,e3,e4⟩:=ho
  have a2:=h1.trans e2
  have b2:=a2.2
  exact (Am5 a2.1 (by omega) hg e3 e4).mono fun r hr=>⟨(a2.trans hr.1).le (by omega),hr.2⟩
 have w:∀x:Int,0<=x->(x<4\/x=0)->1<=IntKind.wrap .i64 ((1:Int)+x)/\IntKind.wrap .i64 ((1:Int)+x)<=4:=fun x h1 h2=>by
  have w:IntKind.wrap .i64 ((1:Int)+x)=1+x:=Bj _ (by omega) (by omega)
  rw [w];omega
 unfold Js
 simp only
 refine Ok.bind (NM h (by omega) (by omega) (by omega)) fun r hr => ?_
 have a1:Adv 300 c r.2.1:=hr.1
 have b1:=a1.2
 refine Ok.bind (Tc a1.1 (by omega)) fun s hs => ?_
 have a2:=a1.trans hs
 have b2:=a2.2
 refine Ok.ite (fun _ => ?_) fun _ => ?_
 ·refine Ok.bind (Zo a2.1 (by omega)) fun q hq => ?_
  have a3:=a2.trans hq.1
  have b3:=a3.2
  refine Ok.bind (Cb a3.1 (by omega)) fun x hx => ?_
  exact fin _ _ _ ((a3.trans hx.2.2).le (by omega)) hq.2 (w _ hx.1 hx.2.1)
 ·refine Ok.bind (Cb a2.1 (by omega)) fun x hx => ?_
  exact fin _ _ _ ((a2.trans hx.2.2).le (by omega)) hr.2 (w _ hx.1 hx.2.1)
theorem QG {t:Tt} (h1:t.1.2.1.length<=200) (h2:t.2.2.1.length<=300) (h3:∀l∈t.2.2.1,l.length<=10):okT t=true:=by
 unfold okT
 rw [AGc]
 exact ⟨E9 (by omega),Jd (by omega) (List.all_eq_true.2 fun l hl=>decide_eq_true (by have:=h3 l hl;omega))⟩
def sm3 (lo hi:Int) (T:List Tab):Prop:=T.length<=8 /\ ∀R∈T,R.length<=8 /\ ∀r∈R,r.length<=8 /\ ∀v∈r,lo<=v/\v<=hi
theorem AB7 {lo hi:Int} {T:List Tab} (h:sm3 lo hi T) (h1 : -9223372036854775808<=lo) (h2:hi<=9223372036854775807):Ji T=true/\Xs T=true:=by
 refine ⟨?_,List.all_eq_true.2 fun R hR=>List.all_eq_true.2 fun r hr=>List.all_eq_true.2 fun v hv => ?_⟩
 ·unfold Ji
  rw [AGc]
  exact ⟨E9 (by have:=h.1;omega),List.all_eq_true.2 fun R hR=>Jd (by have:=(h.2 R hR).1;omega) (List.all_eq_true.2 fun r hr=>decide_eq_true (by have:=((h.2 R hR).2 r hr).1;omega))⟩
 ·have:=((h.2 R hR).2 r hr).2 v hv
  unfold Asc
  rw [AGc]
  exact ⟨decide_eq_true (by omega),decide_eq_true (by omega)⟩
theorem Ast {lo hi lo' hi':Int} {T:List Tab} (h:sm3 lo hi T) (h1:lo'<=lo) (h2:hi<=hi'):sm3 lo' hi' T:=
 ⟨h.1,fun R hR=>⟨(h.2 R hR).1,fun r hr=>⟨((h.2 R hR).2 r hr).1,fun v hv=>by have:=((h.2 R hR).2 r hr).2 v hv;omega⟩⟩⟩
theorem Agx {lo hi:Int} {T:List Tab} (h:sm3 lo hi T) {a:Nat} {R:Tab} (hR:R.length<=8 /\ ∀r∈R,r.length<=8 /\ ∀v∈r,lo<=v/\v<=hi):sm3 lo hi (List.set T a R):=
 ⟨by rw [List.length_set];exact h.1,fun R' h'=>by
  rcases List.mem_or_eq_of_mem_set h' with h' | rfl
  ·exact h.2 R' h'
  ·exact hR⟩
theorem Avs {lo hi:Int} {T:List Tab} (h:sm3 lo hi T) (a b:Int):sm3 lo hi (CY T a b):=by
 have hs:∀R∈CY T a b,R∈T:=fun R hR=>List.mem_of_mem_take (List.mem_of_mem_drop hR)
 exact ⟨by unfold CY;have:=h.1;simp only [List.length_drop,List.length_take];omega,fun R hR=>h.2 R (hs R hR)⟩
theorem AB9 (t:Tt):sm3 (-1) 521 (ttB t).1:=by
 unfold ttB
 by_cases ht:AV t=true
 ·rw [if_pos ht]
  obtain ⟨n1,n2,n3,p1,p2,p3,_⟩:=Bi ht
  show sm3 (-1) 521 (AO t)
  refine ⟨by rw [Dd,Bv];omega,fun R hR => ?_⟩
  obtain ⟨r,hr,rfl⟩:=List.getElem_of_mem hR
  have hr2:r<t.2.1.toNat:=by rw [Dd,Bv] at hr;exact hr
  have e:=IU hr2
  rw [AGm,AGn hr,Option.getD_some] at e
  rw [e]
  unfold AN
  refine ⟨by simp;omega,fun row hrow => ?_⟩
  obtain ⟨c,_,rfl⟩:=List.mem_map.1 hrow
  refine ⟨by simp;omega,fun v hv => ?_⟩
  obtain ⟨q,_,rfl⟩:=List.mem_map.1 hv
  exact ⟨(EO ht).1.low r c q,TK t r c q⟩
 ·rw [if_neg ht]
  exact ⟨by simp,fun R hR=>by simp at hR⟩
theorem Aqn {t:Tt} (h:0<(ttB t).1.length):∀R∈(ttB t).1,0<R.length /\ ∀r∈R,0<r.length:=by
 unfold ttB at h |-
 by_cases ht:AV t=true
 ·rw [if_pos ht] at h |-
  obtain ⟨n1,n2,n3,p1,p2,p3,_⟩:=Bi ht
  intro R hR
  have hR:R∈AO t:=hR
  obtain ⟨r,hr,rfl⟩:=List.getElem_of_mem hR
  have hr2:r<t.2.1.toNat:=by rw [Dd,Bv] at hr;exact hr
  have e:=IU hr2
  rw [AGm,AGn hr,Option.getD_some] at e
  rw [e]
  unfold AN
  refine ⟨by simp;omega,fun row hrow => ?_⟩
  obtain ⟨c,_,rfl⟩:=List.mem_map.1 hrow
  simp;omega
 ·rw [if_neg ht] at h
  exact absurd h (by simp)
theorem Xr {code:List Int} {u:Unit} (hb:∀x∈code,0<=x/\x<=255):Ok (QU 0 (code,u)) fun r=>okT r.1=true/\Ji r.2.1=true/\Xs r.2.1=true:=by
 have hc:JK (code,(0:Int),(0:Int),()):=⟨hb,Int.le_refl _⟩
 unfold QU
 simp only
 refine Ok.bind (Jj hc (by unfold Gm;simp)) fun r hr => ?_
 obtain ⟨a,r1,r2,r3⟩:=hr
 have ho:=QG r1 r2 r3
 have b:r.2.1.2.1<=0+3000:=a.2
 rw [Adn r.1 () ho]
 simp only [Option.bind_some]
 have hs:=AB9 r.1
 have hrw := @Aqn r.1
 generalize (ttB r.1).1=T at hs hrw
 have hw:=Ast hs (show (-1000:Int) <= -1 by omega) (show (521:Int)<=4611686018427387904 by omega)
 have fin:∀T':List Tab,sm3 (-1000) 4611686018427387904 T'->Ok (some (r.1,T',())) fun r=>okT r.1=true/\Ji r.2.1=true/\Xs r.2.1=true:=fun T' h=>by
  obtain ⟨e1,e2⟩:=AB7 h (by omega) (by omega)
  exact Ok.some ⟨ho,e1,e2⟩
 refine Ok.ite (fun h0 => ?_) fun _=>fin _ hw
 have h0:=of_decide_eq_true h0
 have hT:=hrw (by omega)
 have far:∀{k:Int} {c:Cur},Adv k (code,(0:Int),(0:Int),()) c->k<=5000->c.2.1+2<=Gm:=fun h hk=>by
  have h:_<=(0:Int)+_:=h.2
  unfold Gm;omega
 refine Ok.bind (Cb a.1 (far a (by omega))) fun x hx => ?_
 have a1:=a.trans hx.2.2
 obtain ⟨xi,exi⟩:∃i:Nat,x.1=(i:Int):=⟨x.1.toNat,by have:=hx.1;omega⟩
 have hxi:xi<T.length:=by have:=hx.2.1;omega
 have ix:Af x.1 T.length=true:=by rw [exi];exact Ad hxi
 have ea:at_ Ag T x.1.toNat=T[xi]:=by rw [exi,Int.toNat_natCast];exact AM (e:=Ag) hxi
 refine Ok.pos ix ?_
 simp only [ix,ea]
 have hR:=hT T[xi] (AGk hxi)
 have hRs:=hw.2 T[xi] (AGk hxi)
 have hRo:=hs.2 T[xi] (AGk hxi)
 generalize T[xi]=R at hR hRs hRo
 refine Ok.bind (Cb a1.1 (far a1 (by omega))) fun y hy => ?_
 have a2:=a1.trans hy.2.2
 obtain ⟨yi,eyi⟩:∃i:Nat,y.1=(i:Int):=⟨y.1.toNat,by have:=hy.1;omega⟩
 have hyi:yi<R.length:=by have:=hy.2.1;have:=hR.1;omega
 have iy:Af y.1 R.length=true:=by rw [eyi];exact Ad hyi
 have eb:at_ Ai R y.1.toNat=R[yi]:=by rw [eyi,Int.toNat_natCast];exact AM (e:=Ai) hyi
 simp only [iy,eb,if_true]
 have hr:=hR.2 R[yi] (AGk hyi)
 have hrs:=hRs.2 R[yi] (AGk hyi)
 have hro:=hRo.2 R[yi] (AGk hyi)
 generalize R[yi]=q at hr hrs hro
 refine Ok.bind (Cb a2.1 (far a2 (by omega))) fun w hw1 => ?_
 have a3:=a2.trans hw1.2.2
 obtain ⟨wi,ewi⟩:∃i:Nat,w.1=(i:Int):=⟨w.1.toNat,by have:=hw1.1;omega⟩
 have hwi:wi<q.length:=by have:=hw1.2.1;omega
 have iw:Af w.1 q.length=true:=by rw [ewi];exact Ad hwi
 have ec:at_ I q w.1.toNat=q[wi]:=by rw [ewi,Int.toNat_natCast];exact AM (e:=I) hwi
 simp only [iw,ec,if_true]
 have hv:=hro.2 q[wi] (AGk hwi)
 have put:∀v:Int,-1000<=v->v<=4611686018427387904->sm3 (-1000) 4611686018427387904 (List.set T x.1.toNat (List.set R y.1.toNat (List.set q w.1.toNat v))):=fun v h1 h2=>
  Agx hw ⟨by rw [List.length_set];exact hRs.1,fun r' h'=>by
   rcases List.mem_or_eq_of_mem_set h' with h' | rfl
   ·exact hRs.2 r' h'
   ·exact ⟨by rw [List.length_set];exact hrs.1,fun v' h''=>by
     rcases List.mem_or_eq_of_mem_set h'' with h'' | rfl
     ·exact hrs.2 v' h''
     ·exact ⟨h1,h2⟩⟩⟩
 refine Ok.bind (Cb a3.1 (far a3 (by omega))) fun z hz => ?_
 have a4:=a3.trans hz.2.2
 refine Ok.ite (fun _ => ?_) fun _=>Ok.ite (fun _ => ?_) fun _=>Ok.ite (fun _ => ?_) fun _=>Ok.ite (fun _ => ?_) fun _=>fin _ hw
 ·refine Ok.bind (Ei a4.1 (far a4 (by omega)) (by simp)) fun s hs => ?_
  have hm:=hs.1
  simp only [List.mem_cons,List.not_mem_nil,or_false] at hm
  have e:IntKind.wrap .i64 (q[wi]+s.1)=q[wi]+s.1:=Bj _ (by omega) (by omega)
  rw [e]
  exact fin _ (put _ (by omega) (by omega))
 ·refine Ok.bind (Ei a4.1 (far a4 (by omega)) (by simp)) fun s hs => ?_
  have hm:=hs.1
  simp only [List.mem_cons,List.not_mem_nil,or_false] at hm
  exact fin _ (put _ (by omega) (by omega))
 ·refine Ok.pos ?_ (fin _ (Avs hw _ _))
  have e1:decide ((1:Int)<=(T.length:Int))=true:=decide_eq_true (by omega)
  simp [e1]
 ·refine Ok.pos ?_ (fin _ (Agx hw ⟨?_,fun r' h'=>hRs.2 r' (List.mem_of_mem_take (List.mem_of_mem_drop h'))⟩))
  ·simp
   omega
  ·unfold CY
   have:=hRs.1
   simp only [List.length_drop,List.length_take]
   omega
theorem YX {code:List Int} {u:Unit} (hb:∀x∈code,0<=x/\x<=255):Ok (T5 0 (code,u)) fun r=>okT r.1=true:=by
 have hc:JK (code,(0:Int),(0:Int),()):=⟨hb,Int.le_refl _⟩
 unfold T5 Pk
 simp only
 refine Ok.bind (Jj hc (by unfold Gm;simp)) fun r hr => ?_
 obtain ⟨a,r1,r2,r3⟩:=hr
 have b:r.2.1.2.1<=0+3000:=a.2
 refine Ok.bind (Q:=fun _=>True) ?_ fun s _=>Ok.some (QG r1 r2 r3)
 exact Ok.bind (Ei a.1 (by unfold Gm;omega) (by simp)) fun s _=>Ok.some trivial
theorem Zd {code:List Int} {u:Unit} (hb:∀x∈code,0<=x/\x<=255):Ok (IZ 0 (code,u)) fun r=>okT r.1=true:=by
 unfold IZ
 exact Ok.bind (YX hb) fun r hr=>Ok.some hr
theorem UO {code:List Int} {u:Unit} (hb:∀x∈code,0<=x/\x<=255):Ok (IQ 0 (code,u)) fun r=>okT r.1=true:=by
 have hc:JK (code,(0:Int),(0:Int),()):=⟨hb,Int.le_refl _⟩
 unfold IQ Pk
 simp only
 refine Ok.bind (Jj hc (by unfold Gm;simp)) fun r hr => ?_
 obtain ⟨a,r1,r2,r3⟩:=hr
 have b:r.2.1.2.1<=0+3000:=a.2
 refine Ok.bind (Q:=fun s=>Adv 2 r.2.1 s.2.1) ?_ fun s hs => ?_
 ·exact Ok.bind (Ei a.1 (by unfold Gm;omega) (by simp)) fun s hs=>Ok.some hs.2
 have b2:=hs.2
 refine Ok.bind (Ah3 hs.1 (by unfold Gm;omega)) fun x hx => ?_
 have b3:=hx.2.2.2
 exact Ok.bind (Ah3 hx.2.2.1 (by unfold Gm;omega)) fun y hy=>Ok.some (QG r1 r2 r3)
open Go.Proofs
theorem ZB:∀{l:List E},(l.Pairwise fun a b=>Cf a b=true)->C4 l=true:=by
 intro l
 induction l with
 | nil=>intro _;rfl
 | cons a l ih=>
  intro h
  match l,ih,h with
  | [],_,_=>rfl
  | b::l,ih,h=>
   unfold C4
   rw [List.pairwise_cons] at h
   rw [AGc]
   exact ⟨h.1 b (List.mem_cons_self ..),ih h.2⟩
theorem ZS {t:Tt} (ht:AV t=true) (r:Int):BJ ((t.1.1.toNat:Int),Bx t r,())=true:=by
 obtain ⟨e,h1,h2,_,_,_,h3,h4⟩:=Bi ht
 obtain ⟨o1,o2⟩:=Kt (t:=t) (n:=t.1.1.toNat) h3 h4 r
 unfold BJ
 simp only [AGc,decide_eq_true_eq]
 exact ⟨⟨⟨by omega,by omega⟩,o1⟩,ZB o2⟩
def mxL (f:Int->Int):List Int->Int->Int
 | [],m=>m
 | z::l,m=>mxL f l (if f z>m then f z else m)
theorem Aui (f:Int->Int):∀(l:List Int) (m:Int),m<=mxL f l m/\(∀z∈l,f z<=mxL f l m)/\(mxL f l m=m \/ ∃z∈l,mxL f l m=f z):=by
 intro l
 induction l with
 | nil=>intro m;exact ⟨Int.le_refl _,fun z hz=>by simp at hz,.inl rfl⟩
 | cons a l ih=>
  intro m
  obtain ⟨h1,h2,h3⟩:=ih (if f a>m then f a else m)
  simp only [mxL]
  refine ⟨?_,fun z hz => ?_,?_⟩
  ·split at h1<;>rename_i h
   ·rw [if_pos h];omega
   ·rw [if_neg h];exact h1
  ·rcases List.mem_cons.1 hz with rfl | hz
   ·by_cases h:f z>m
    ·rw [if_pos h] at h1 |-;exact h1
    ·rw [if_neg h] at h1 |-;omega
   ·exact h2 z hz
  ·rcases h3 with h3 | ⟨z,hz,h3⟩
   ·by_cases h:f a>m
    ·rw [if_pos h] at h3 |-;exact .inr ⟨a,List.mem_cons_self ..,h3⟩
    ·rw [if_neg h] at h3 |-;exact .inl h3
   ·exact .inr ⟨z,List.mem_cons_of_mem _ hz,h3⟩
theorem AEl (N:Nat) {n:Nat} (hn:n<=8) (A:Tt) (B C D:Int) (E:List Tab) (L row:List Int) (hL:∀z∈L,∃w:Nat,w<n/\z=(w:Int)) (hl:L.length<=1000) (hr:row.length=n) (hp:∀z∈L,0<=at_ I row z.toNat):∀(k i f:Nat) (m:Int),i+k=L.length->k<f ->
  BR N f (A,B,C,D,E,L,row,m,(i:Int),())=some (.inr (.inl (A,B,C,D,E,row,mxL (fun z=>at_ I row z.toNat) (L.drop i) m,()))):=by
 intro k
 induction k with
 | zero=>
  intro i f m h1 h2
  obtain ⟨f,rfl⟩:∃z,f=z+1:=⟨f-1,by omega⟩
  have e:i=L.length:=by omega
  subst e
  rw [AGi (AGf _)]
  show BY _ _ _=_
  unfold BY
  simp only [AL,AGb,if_false,mxL]
 | succ k ih=>
  intro i f m h1 h2
  obtain ⟨f,rfl⟩:∃z,f=z+1:=⟨f-1,by omega⟩
  have hi:i<L.length:=by omega
  obtain ⟨z,hz,ez⟩:=hL L[i] (AGk hi)
  have hd:L.drop i=(z:Int)::L.drop (i+1):=by rw [AGj hi,ez]
  have hz0:0<=at_ I row z:=by
   have:=hp L[i] (AGk hi)
   rw [ez,Int.toNat_natCast] at this
   exact this
  have hzr:z<row.length:=by omega
  have d1:decide (at_ I row z<0)=false:=decide_eq_false (Int.not_lt.2 hz0)
  show BY _ _ _=_
  unfold BY
  rw [hd]
  simp only [Az hi,if_true,Ad hi,Int.toNat_natCast,BC (e:=I) hi,ez,Ad hzr,d1,AGb,if_false,A0 (show i<=100000 by omega),mxL]
  by_cases h:at_ I row z>m
  ·rw [if_pos h,if_pos (decide_eq_true h)]
   exact ih (i+1) f _ (by omega) (by omega)
  ·rw [if_neg h,if_neg (by simpa using h)]
   exact ih (i+1) f _ (by omega) (by omega)
def Aax (t:Tt) (T:List Tab):Prop:=T.length=t.2.1.toNat/\(∀r,r<t.2.1.toNat->sqL t.1.1.toNat (T.getD r [])=true) /\
  ∀r c q,r<t.2.1.toNat->c<t.1.1.toNat->q<t.1.1.toNat->0<=AS (T.getD r []) (c:Int) (q:Int)->0<=AQ t r c q/\AQ t r c q<=AS (T.getD r []) (c:Int) (q:Int)
theorem AE7 (N:Nat) {t:Tt} (ht:AV t=true) {T:List Tab} (h:Aax t T) (a:List Int) (A:Tt) (B:Bool) {r x:Nat} (hr:r<t.2.1.toNat) (hx:x<t.1.1.toNat):∀(k i f:Nat),i+k=t.1.1.toNat->k<f ->
  C0 N f (a,A,T,B,AO t,(r:Int),(x:Int),(i:Int),())=some (.inr (.inl (a,A,T,B,AO t,(r:Int),(x:Int),()))):=by
 obtain ⟨n1,n2,n3,p1,p2,p3,_⟩:=Bi ht
 obtain ⟨h1,h2,h3⟩:=h
 obtain ⟨t1,t2⟩:=Ci (h2 r hr)
 have hT:r<T.length:=by omega
 have hT2:r<(AO t).length:=by rw [Dd,Bv];exact hr
 have eT:at_ Ag T r=T.getD r []:=rfl
 have l1:(at_ Ag T r).length=t.1.1.toNat:=by rw [eT];exact t1
 have l2:(at_ Ai (at_ Ag T r) x).length=t.1.1.toNat:=by rw [eT];exact t2 x hx
 intro k
 induction k with
 | zero=>
  intro i f k1 k2
  obtain ⟨f,rfl⟩:∃z,f=z+1:=⟨f-1,by omega⟩
  have e:i=t.1.1.toNat:=by omega
  subst e
  show B4 _ _ _=_
  unfold B4
  simp only [Ad hT,Int.toNat_natCast,l1,Ad hx,l2,AL,if_true,AGb,if_false]
 | succ k ih=>
  intro i f k1 k2
  obtain ⟨f,rfl⟩:∃z,f=z+1:=⟨f-1,by omega⟩
  have hi:i<t.1.1.toNat:=by omega
  have hc:at_ I (at_ Ai (at_ Ag T r) x) i=AS (T.getD r []) (x:Int) (i:Int):=by rw [eT];exact WD (h2 r hr) hx hi
  obtain ⟨m1,m2,m3⟩:=NN ht hr hx hi
  have h4:=h3 r x i hr hx hi
  have hih:=ih (i+1) f (by omega) (by omega)
  show B4 _ _ _=_
  unfold B4
  simp only [Ad hT,Ad hT2,Int.toNat_natCast,l1,Ad hx,l2,Az hi,if_true,Ad hi,hc,m1,m2,m3,A0 (show i<=100000 by omega)]
  by_cases hv:AS (T.getD r []) (x:Int) (i:Int)>=0
  ·obtain ⟨h5,h6⟩:=h4 hv
   have d1:decide (AQ t r x i<0)=false:=decide_eq_false (by omega)
   have d2:decide (AQ t r x i>AS (T.getD r []) (x:Int) (i:Int))=false:=decide_eq_false (by omega)
   simp only [decide_eq_true hv,d1,d2,if_true,AGb,if_false]
   exact hih
  ·simp only [decide_eq_false hv,AGb,if_false]
   exact hih
theorem AFf (N:Nat) (hN:20<=N) {t:Tt} (ht:AV t=true) {T:List Tab} (h:Aax t T) (a:List Int) (A:Tt) (B:Bool) {r:Nat} (hr:r<t.2.1.toNat):∀(k i f:Nat),i+k=t.1.1.toNat->k<f ->
  CZ N f (a,A,T,B,AO t,(r:Int),(i:Int),())=some (.inr (.inl (a,A,T,B,AO t,(r:Int),()))):=by
 obtain ⟨n1,n2,n3,p1,p2,p3,_⟩:=Bi ht
 obtain ⟨t1,t2⟩:=Ci (h.2.1 r hr)
 have hT:r<T.length:=by have:=h.1;omega
 have eT:at_ Ag T r=T.getD r []:=rfl
 have l1:(at_ Ag T r).length=t.1.1.toNat:=by rw [eT];exact t1
 intro k
 induction k with
 | zero=>
  intro i f k1 k2
  obtain ⟨f,rfl⟩:∃z,f=z+1:=⟨f-1,by omega⟩
  have e:i=t.1.1.toNat:=by omega
  subst e
  show BW _ _ _=_
  unfold BW
  simp only [Ad hT,Int.toNat_natCast,l1,AL,if_true,AGb,if_false]
 | succ k ih=>
  intro i f k1 k2
  obtain ⟨f,rfl⟩:∃z,f=z+1:=⟨f-1,by omega⟩
  have hi:i<t.1.1.toNat:=by omega
  have h4:=AE7 N ht h a A B hr hi t.1.1.toNat 0 N (by omega) (by omega)
  simp only [Int.natCast_zero] at h4
  show BW _ _ _=_
  unfold BW
  simp only [Ad hT,Int.toNat_natCast,l1,Az hi,if_true,h4,Option.bind_some,A0 (show i<=100000 by omega)]
  exact ih (i+1) f (by omega) (by omega)
theorem AEn (N:Nat) (hN:20<=N) {t:Tt} (ht:AV t=true) {T:List Tab} (B:Bool) (h:B=true->Aax t T) (a:List Int) (A:Tt):∀(k i f:Nat),(B=true->i+k=t.2.1.toNat)->k<f ->
  C3 N f (a,A,T,B,AO t,(i:Int),())=some (.inr (.inl (a,A,()))):=by
 obtain ⟨n1,n2,n3,p1,p2,p3,_⟩:=Bi ht
 cases B with
 | false=>
  intro k i f _ k2
  obtain ⟨f,rfl⟩:∃z,f=z+1:=⟨f-1,by omega⟩
  show Bn _ _ _=_
  unfold Bn
  simp only [AGb,if_false]
 | true=>
  have h:=h rfl
  have hl:=h.1
  intro k
  induction k with
  | zero=>
   intro i f k1 k2
   obtain ⟨f,rfl⟩:∃z,f=z+1:=⟨f-1,by omega⟩
   have e:i=T.length:=by have:=k1 rfl;omega
   subst e
   show Bn _ _ _=_
   unfold Bn
   simp only [AL,if_true,AGb,if_false]
  | succ k ih=>
   intro i f k1 k2
   have k1:=k1 rfl
   obtain ⟨f,rfl⟩:∃z,f=z+1:=⟨f-1,by omega⟩
   have hi:i<T.length:=by omega
   have h4:=AFf N hN ht h a A true (r:=i) (by omega) t.1.1.toNat 0 N (by omega) (by omega)
   simp only [Int.natCast_zero] at h4
   show Bn _ _ _=_
   unfold Bn
   simp only [Az hi,if_true,h4,Option.bind_some,A0 (show i<=100000 by omega)]
   exact ih (i+1) f (fun _=>by omega) (by omega)
theorem Xb {n:Nat} {es:List E} {u:Unit} (hg:BJ ((n:Int),es,u)=true) (hn:0<n) (v w:Unit):AV (((n:Int),es,v),1,List.replicate es.length [0],w)=true:=by
 have hg2:BJ ((n:Int),es,v)=true:=hg
 have e1:inB 1 4 (1:Int)=true:=rfl
 have e2:(List.replicate es.length [(0:Int)]).any (Nh (((n:Int),es,v),1,List.replicate es.length [0],w))=false:=by
  rw [List.any_eq_false]
  intro x hx
  rw [(List.mem_replicate.1 hx).2]
  have:Nh (((n:Int),es,v),1,List.replicate es.length [0],w) [0]=false:=rfl
  simp [this]
 have hn2:(n:Int)>0:=by omega
 unfold AV
 simp only [hg2,e1,e2,hn2,List.length_replicate,decide_true,Bool.not_false,Bool.and_self]
def Asg (N:Nat) (a0:List Int):Option (Bool×Unit):=
 ((IZ 0) (a0,())).bind fun r45=>
 (BP ((r45.1,(r45.2.1,())))).bind fun r46=>
 (BP ((r45.1,(r45.2.1,())))).bind fun r47=>
 if (!(r46.2.2.1==r47.2.2.1))=true then
  some (false,())
 else
  if (r46.1 != r47.1)=true then
   some (false,())
  else
   if (r46.2.1 != r47.2.1)=true then
    some (false,())
   else
    ((IQ 0) (a0,())).bind fun r48=>
    (Bo ((r48.1,(r48.2.1,(r48.2.2.1,(r48.2.2.2.1,())))))).bind fun r49=>
    (Bo ((r48.1,(r48.2.1,(r48.2.2.1,(r48.2.2.2.1,())))))).bind fun r50=>
    if (r49.1 != r50.1)=true then
     some (false,())
    else
     if (!(r49.2.1==r50.2.1))=true then
      some (false,())
     else
      if (!r49.2.1)=true then
       some (true,())
      else
       ((IH 0) (r48.1,())).bind fun r51=>
       ((Jh 0) (r48.1,())).bind fun r52=>
       if (!r51.2.1)=true then
        some (false,())
       else
        if (!r52.2.1)=true then
         some (false,())
        else
         (Dq ((r51.1,(r52.1,())))).bind fun r53=>
         if (!r53.1)=true then
          some (false,())
         else
          if (r49.1==r48.2.2.2.1)=true then
           if (r48.1.2.1 != 0)=true then
           if (Af (r48.2.1.tmod r48.1.2.1) (List.length r51.1))=true then
           if (Af r48.2.2.1 (List.length (at_ Ag r51.1 (r48.2.1.tmod r48.1.2.1).toNat)))=true then
           if (Af r48.2.2.2.1 (List.length (at_ Ai (at_ Ag r51.1 (r48.2.1.tmod r48.1.2.1).toNat) r48.2.2.1.toNat)))=true then
           some ((at_ I (at_ Ai (at_ Ag r51.1 (r48.2.1.tmod r48.1.2.1).toNat) r48.2.2.1.toNat) r48.2.2.2.1.toNat==(1:Int),()))
           else none
           else none
           else none
           else none
          else
           ((J2 0) ((r48.1,(r48.2.1,())))).bind fun r54=>
           ((MG 0) ((r54.1,(r48.2.2.2.1,())))).bind fun r55=>
           if (!r54.2.1)=true then
            some (false,())
           else
            if (!r55.2.1)=true then
             some (false,())
            else
             let x56:Int:=IntKind.wrap .i64 (r48.2.1+(1:Int))
             if (r48.1.2.1 != 0)=true then
             if (Af (x56.tmod r48.1.2.1) (List.length r51.1))=true then
             if (Af r49.1 (List.length (at_ Ag r51.1 (x56.tmod r48.1.2.1).toNat)))=true then
             if (Af r48.2.2.2.1 (List.length (at_ Ai (at_ Ag r51.1 (x56.tmod r48.1.2.1).toNat) r49.1.toNat)))=true then
             (BR N N ((r48.1,(r48.2.1,(r48.2.2.1,(r48.2.2.2.1,(r51.1,(r55.1,(at_ Ai (at_ Ag r51.1 (x56.tmod r48.1.2.1).toNat) r49.1.toNat,(at_ I (at_ Ai (at_ Ag r51.1 (x56.tmod r48.1.2.1).toNat) r49.1.toNat) r48.2.2.2.1.toNat,((0:Int),()))))))))))).bind fun o57=>match o57 with
             | .inl d58=>
              some (d58.1,())
             | .inr (.inl d59)=>
              if (Af d59.2.2.2.1 (List.length d59.2.2.2.2.2.1))=true then
              if (decide (at_ I d59.2.2.2.2.2.1 d59.2.2.2.1.toNat>=(0:Int)))=true then
               if (d59.1.2.1 != 0)=true then
               if (Af (d59.2.1.tmod d59.1.2.1) (List.length d59.2.2.2.2.1))=true then
               if (Af d59.2.2.1 (List.length (at_ Ag d59.2.2.2.2.1 (d59.2.1.tmod d59.1.2.1).toNat)))=true then
               if (Af d59.2.2.2.1 (List.length (at_ Ai (at_ Ag d59.2.2.2.2.1 (d59.2.1.tmod d59.1.2.1).toNat) d59.2.2.1.toNat)))=true then
               let x60:Int:=IntKind.wrap .i64 (d59.2.2.2.2.2.2.1+(1:Int))
               some ((at_ I (at_ Ai (at_ Ag d59.2.2.2.2.1 (d59.2.1.tmod d59.1.2.1).toNat) d59.2.2.1.toNat) d59.2.2.2.1.toNat==x60,()))
               else none
               else none
               else none
               else none
              else
               some (false,())
              else none
             else none
             else none
             else none
             else none
theorem Aqi {h:Int} {p:Nat} (h0:0<=h) (hp:0<p):(h+1).tmod (p:Int)=((((h.tmod (p:Int)).toNat+1) % p:Nat):Int):=by
 obtain ⟨m,rfl⟩:∃m:Nat,h=(m:Int):=⟨h.toNat,by omega⟩
 have e1:((m:Int)+1).tmod (p:Int)=(((m+1) % p:Nat):Int):=rfl
 have e2:((m:Int).tmod (p:Int)).toNat=m % p:=rfl
 rw [e1,e2]
 congr 1
 simp [Nat.add_mod]
theorem Auy {t:Tt} {c x y b:Int} {u:Unit} (h:trB t c x y=(b,true,u)):Jz t x y=true/\inB 0 1000 c=true/\x≠y/\0<=b/\Cs (fun z=>Be t (As t c) z y) (Ay t (As t c) x) (-1) 0=b:=by
 unfold trB at h
 split at h
 ·rename_i hh
  simp only [AGc,Bool.not_eq_true',decide_eq_false_iff_not] at hh
  simp only at h
  split at h
  ·simp at h
  ·rename_i h2
   simp only [Prod.mk.injEq] at h
   obtain ⟨h3,_⟩:=h
   exact ⟨hh.1.1,hh.1.2,hh.2,by rw [<- h3];omega,h3⟩
 ·simp at h
theorem Awu {code:List Int} {u:Tt} {c:Int} {w:Unit} (d1:IZ 0 (code,())=some (u,c,w)) (o1:okT u=true) {t:Tt} {h x y:Int} {w2:Unit} (d2:IQ 0 (code,())=some (t,h,x,y,w2)) (o2:okT t=true):Asg 1010 code=some (true,()):=by
 have gc:BP (u,c,())=some (tcB u c):=by unfold BP;simp only [o1,if_true]
 have gr:Bo (t,h,x,y,())=some (trB t h x y):=by unfold Bo;simp only [o2,if_true]
 unfold Asg
 simp only [d1,gc,d2,gr,Option.bind_some,beq_self_eq_true,bne_self_eq_false,Bool.not_true,AGb,if_false]
 obtain ⟨b,ok,v,hb⟩:∃b ok v,trB t h x y=(b,ok,v):=⟨_,_,_,rfl⟩
 rw [hb]
 cases ok with
 | false=>simp only [Bool.not_false,if_true]
 | true=>
  obtain ⟨he,hc,hne,hb0,hrep⟩:=Auy hb
  obtain ⟨ht,ex,ey,hx,hy⟩:=MF he
  obtain ⟨c0,c1,c2⟩:=HL ht hc
  obtain ⟨n1,n2,n3,p1,p2,p3,_⟩:=Bi ht
  have hh:=AY.1 hc
  have et:ttB t=(AO t,true,()):=by unfold ttB;rw [if_pos ht]
  have hok3:Ji (AO t)=true:=(WW n3 (by omega) (Ln ht)).1
  have hTl:(AO t).length=t.2.1.toNat:=Bv _ _ _
  obtain ⟨x',rfl⟩:∃x':Nat,x=(x':Int):=⟨_,ex⟩
  obtain ⟨y',rfl⟩:∃y':Nat,y=(y':Int):=⟨_,ey⟩
  simp only [Int.toNat_natCast] at hx hy
  have hne':x'≠y':=fun e=>hne (by rw [e])
  have hrep2:=hrep
  rw [<- hrep] at hb0
  obtain ⟨b',hbn,eb,a0,a1⟩:=Afy ht c2 hx hy hne' hb0
  rw [hrep2] at eb
  subst eb
  have hidx:Af ((As t h:Nat):Int) (AO t).length=true:=Ad (by omega)
  obtain ⟨l1,l2,l3⟩:=NN ht c2 hx hy
  have hhigh:=TK t (As t h) x' y'
  simp only [Af4 t _ o2,Adn t _ o2,et,Option.bind_some,Bool.not_true,AGb,if_false,LP _ _ hok3]
  by_cases hby:(b':Int)=(y':Int)
  ·have hone:AQ t (As t h) x' y'=1:=by
    rw [a1]
    have:Be t (As t h) (b':Int) (y':Int)=0:=by unfold Be Aw;rw [if_pos hby]
    omega
   have e1:((b':Int)==(y':Int))=true:=by simpa using hby
   simp only [e1,if_true,c0,c1,hidx,Int.toNat_natCast,l1,l2,l3,Ad hx,Ad hy,hone,beq_self_eq_true]
  ·have e1:((b':Int)==(y':Int))=false:=by simpa using hby
   have hbe:b'≠y':=fun e=>hby (by rw [e])
   have eog:ogB t h=((((t.1.1.toNat:Nat):Int),Bx t ((As t h:Nat):Int),()),true,()):=by
    unfold ogB
    simp only [ht,hc,Bool.and_self,if_true]
    rw [c1,<- n1]
   have eog2:J2 0 (t,h,())=some ((((t.1.1.toNat:Nat):Int),Bx t ((As t h:Nat):Int),()),true,()):=by rw [AAv t h () o2,eog]
   have enb:=ABu (ZS ht ((As t h:Nat):Int)) (Vm o2 ((As t h:Nat):Int)) hy ()
   have w1:IntKind.wrap .i64 (h+1)=h+1:=Bj _ (by omega) (by omega)
   have hm:(As t h+1) % t.2.1.toNat<t.2.1.toNat:=Nat.mod_lt _ (by omega)
   have emod:(h+1).tmod t.2.1=(((As t h+1) % t.2.1.toNat:Nat):Int):=by
    have:=Aqi (h:=h) (p:=t.2.1.toNat) hh.1 (by omega)
    rw [<- p1] at this
    exact this
   have hidx2:Af (((As t h+1) % t.2.1.toNat:Nat):Int) (AO t).length=true:=Ad (by omega)
   obtain ⟨k1,k2,k3⟩:=NN ht hm hbn hy
   have hcell:∀z,z<t.1.1.toNat->at_ I (at_ Ai (at_ Ag (AO t) ((As t h+1) % t.2.1.toNat)) b') z=AQ t ((As t h+1) % t.2.1.toNat) b' z:=fun z hz=>(NN ht hm hbn hz).2.2
   have haf:Be t (As t h) (b':Int) (y':Int)=AW (AS (AN t.1.1.toNat (AQ t ((As t h+1) % t.2.1.toNat))) (b':Int)) (Ay t (As t h) (y':Int)) 0:=by
    rw [EN ht c2]
    unfold Aw
    rw [if_neg hby]
   rw [haf] at a0 a1
   obtain ⟨row,hrow⟩:∃row:List Int,at_ Ai (at_ Ag (AO t) ((As t h+1) % t.2.1.toNat)) b'=row:=⟨_,rfl⟩
   rw [hrow] at k2 k3
   rw [hrow] at hcell
   -- the worst of the ball
   have hball:∀z:Nat,z<t.1.1.toNat->(z:Int)∈Ay t (As t h) (y':Int)->AS (AN t.1.1.toNat (AQ t ((As t h+1) % t.2.1.toNat))) (b':Int) (z:Int)=at_ I row z:=fun z hz _=>by rw [Bk _ hbn hz,hcell z hz]
   have hself:(y':Int)∈Ay t (As t h) (y':Int):=Ala _ hy
   have hnear:∀z∈BE (fun y=>DU (Bx t ((As t h:Nat):Int)) (y':Int) (y:Int)) t.1.1.toNat 0,∃q:Nat,q<t.1.1.toNat/\z=(q:Int)/\(q:Int)∈Ay t (As t h) (y':Int):=fun z hz=>by
    obtain ⟨q,q1,q2,q3,rfl⟩:=GQ.1 hz
    exact ⟨q,by omega,rfl,GQ.2 ⟨q,q1,q2,by rw [q3,Bool.true_or],rfl⟩⟩
   have hnearb:∀z∈Ay t (As t h) (y':Int),z=(y':Int)\/z∈BE (fun y=>DU (Bx t ((As t h:Nat):Int)) (y':Int) (y:Int)) t.1.1.toNat 0:=fun z hz=>by
    obtain ⟨q,q1,q2,q3,rfl⟩:=GQ.1 hz
    rw [Bool.or_eq_true,decide_eq_true_eq] at q3
    rcases q3 with q3 | q3
    ·exact .inr (GQ.2 ⟨q,q1,q2,q3,rfl⟩)
    ·exact .inl q3
   have hlen:(BE (fun y=>DU (Bx t ((As t h:Nat):Int)) (y':Int) (y:Int)) t.1.1.toNat 0).length<=1000:=Nat.le_trans J0 (by omega)
   rcases B5 (AS (AN t.1.1.toNat (AQ t ((As t h+1) % t.2.1.toNat))) (b':Int)) (Ay t (As t h) (y':Int)) 0 with ⟨_,h3⟩ | ⟨h3,h4,h5⟩
   ·omega
   generalize AW (AS (AN t.1.1.toNat (AQ t ((As t h+1) % t.2.1.toNat))) (b':Int)) (Ay t (As t h) (y':Int)) 0=W at a0 a1 h3 h4 h5
   generalize BE (fun y=>DU (Bx t ((As t h:Nat):Int)) (y':Int) (y:Int)) t.1.1.toNat 0=L at enb hnear hnearb hlen
   have hy3:=h3 _ hself
   rw [hball y' hy hself] at hy3
   have key:=AEl 1010 n3 t h (x':Int) (y':Int) (AO t) L row (fun z hz=>by
    obtain ⟨q,q1,q2,_⟩:=hnear z hz
    exact ⟨q,q1,q2⟩) hlen k2 (fun z hz=>by
    obtain ⟨q,q1,rfl,q3⟩:=hnear z hz
    rw [Int.toNat_natCast,<- hball q q1 q3]
    exact (h3 _ q3).1) L.length 0 1010 (at_ I row y') (by omega) (by omega)
   simp only [Int.natCast_zero,List.drop_zero] at key
   obtain ⟨m1,m2,m3⟩:=Aui (fun z=>at_ I row z.toNat) L (at_ I row y')
   have hW:mxL (fun z=>at_ I row z.toNat) L (at_ I row y')=W:=by
    have h6:mxL (fun z=>at_ I row z.toNat) L (at_ I row y')<=W:=by
     rcases m3 with m3 | ⟨z,hz,m3⟩
     ·rw [m3];exact hy3.2
     ·obtain ⟨q,q1,rfl,q3⟩:=hnear z hz
      rw [m3]
      simp only [Int.toNat_natCast]
      rw [<- hball q q1 q3]
      exact (h3 _ q3).2
    have h7:W<=mxL (fun z=>at_ I row z.toNat) L (at_ I row y'):=by
     rcases h5 with h5 | ⟨z,hz,h5⟩
     ·rw [h5];exact Int.le_trans hy3.1 m1
     ·obtain ⟨q,q1,rfl⟩:=(Fq (t:=t) (r:=As t h) hy).2 z hz
      rw [h5,hball q q1 hz]
      rcases hnearb _ hz with e | hz2
      ·have e:q=y':=by omega
       rw [e];exact m1
      ·have:=m2 _ hz2
       simp only [Int.toNat_natCast] at this
       exact this
    omega
   rw [hW] at key
   have w2:IntKind.wrap .i64 (W+1)=W+1:=Bj _ (by omega) (by omega)
   have dy:decide (at_ I row y'>=0)=true:=decide_eq_true hy3.1
   have eN:((t.1.1.toNat:Nat):Int)=t.1.1:=n1.symm
   simp only [e1,AGb,if_false,eog2,Option.bind_some,enb,Bool.not_true,w1,c0,if_true,emod,hidx2,Int.toNat_natCast,k1,Ad hbn,hrow,k2,Ad hy,key,dy,c1,hidx,l1,Ad hx,l2,l3,w2,a1,beq_self_eq_true]
theorem ZA {code:List Int} {u0:Unit} (hbig:(Ey (code,())).1=false) {t:Tt} {T:List Tab} {w0:Unit} (d0:QU 0 (code,())=some (t,T,w0)) (o0:okT t=true) (oT:Ji T=true) (o64:Xs T=true)
  {u:Tt} {c:Int} {w:Unit} (d1:IZ 0 (code,())=some (u,c,w)) (o1:okT u=true) {t2:Tt} {h x y:Int} {w2:Unit} (d2:IQ 0 (code,())=some (t2,h,x,y,w2)) (o2:okT t2=true):B8 1010 (code,u0)=some (true,()):=by
 have tail:=Awu d1 o1 d2 o2
 have gp:D6 (t,T,())=some (tpB t T):=by unfold D6;simp only [o0,oT,o64,Bool.and_self,if_true]
 have he3:=LP (ttB t).1 () (ACv t).1
 unfold B8
 simp only [hbig,AGb,if_false,d0,Option.bind_some,Asx t T () o0 oT,gp,Vn t () o0,Af4 t () o0,Adn t () o0,he3,beq_self_eq_true,Bool.not_true]
 cases ht:AV t with
 | false=>
  have e1:tpB t T=(false,false,()):=by unfold tpB;rw [if_neg (by simp [ht])]
  have e2:ttB t=([],false,()):=by unfold ttB;rw [if_neg (by simp [ht])]
  simp only [e1,e2,beq_self_eq_true,Bool.not_true,AGb,if_false]
  exact tail
 | true=>
  obtain ⟨n1,n2,n3,p1,p2,p3,_⟩:=Bi ht
  have hg:BJ t.1=true:=(Ew ht).1
  obtain ⟨b,e1⟩:∃b,tpB t T=(b,true,()):=⟨_,by unfold tpB;rw [if_pos ht]⟩
  have e2:ttB t=(AO t,true,()):=by unfold ttB;rw [if_pos ht]
  have hok3:Ji (AO t)=true:=(WW n3 (by omega) (Ln ht)).1
  have hown:=Asx t (AO t) () o0 hok3
  rw [AA8 ht] at hown
  have hloop:=AEn 1010 (by omega) ht b (fun hb=>Atz ht (by rw [e1];exact hb)) code t t.2.1.toNat 0 1010 (fun _=>by omega) (by omega)
  simp only [Int.natCast_zero] at hloop
  obtain ⟨⟨n,es,v⟩,p,l,q⟩:=t
  simp only at n1 n2 n3 hg
  obtain ⟨m,rfl⟩:∃m:Nat,n=(m:Int):=⟨_,n1⟩
  simp only [Int.toNat_natCast] at n2 n3
  have ho:okL es=true:=(KY o0).1
  have hrep:DR (List.replicate es.length [(0:Int)])=true:=by
   unfold DR
   rw [AGc]
   refine ⟨?_,List.all_eq_true.2 fun x hx => ?_⟩
   ·have:=Cj ho
    unfold okL
    rw [List.length_replicate]
    exact decide_eq_true this
   ·rw [(List.mem_replicate.1 hx).2]
    exact E9 (by simp)
  have hm0:decide ((m:Int)>0)=true:=decide_eq_true (by omega)
  have gs:Hu (((m:Int),es,v),())=some ((((m:Int),es,()),1,List.replicate es.length [0],()),true,()):=by
   unfold Hu VJ
   simp only [ho,hg,hm0,Bool.and_self,if_true]
  have os:okT (((m:Int),es,()),1,List.replicate es.length [0],())=true:=by
   unfold okT
   simp only [ho,hrep,Bool.and_self]
  have hts:=Xb hg n2 () ()
  have es2:ttB (((m:Int),es,()),1,List.replicate es.length [0],())=([EY m (Bw m es)],true,()):=by
   unfold ttB
   rw [if_pos hts,UH n3]
  have hf:Kv ((m:Int),es,v) 1=true:=by
   unfold Kv
   simp only [hg,hm0,Bool.and_self,Bool.true_and]
   rfl
  have ect:OP 0 (((m:Int),es,v),1,())=some (EY m (Bw m es),true,()):=by
   rw [AB2 ho]
   unfold AA6
   have h1:(1:Int).toNat=1:=rfl
   rw [if_pos hf,h1,AC4 n3]
  have hrt:FD (EY m (Bw m es),EY m (Bw m es),())=some (true,()):=by
   unfold FD
   have hk:DR (EY m (Bw m es))=true:=(Aps n3 (NP _ _)).1
   simp only [hk,if_true,decide_true]
  have e0:at_ Ag [EY m (Bw m es)] (0:Int).toNat=EY m (Bw m es):=rfl
  have i0:Af (0:Int) (List.length [EY m (Bw m es)])=true:=rfl
  have l1:((List.length [EY m (Bw m es)]:Int) != (1:Int))=false:=rfl
  simp only [e1,e2,beq_self_eq_true,Bool.not_true,AGb,if_false,if_true,hown,Option.bind_some,hloop,gs,Af4 _ () os,es2,ect,l1,i0,e0,hrt]
  exact tail
theorem WR (d:List Int×Unit) (r:Bool×Unit) (h:Zc d=some r):∃N,B8 N d=some r:=by
 obtain ⟨code,u⟩:=d
 unfold Zc at h
 split at h
 ·rename_i hh
  cases AGg h
  simp only [AGc,List.all_eq_true] at hh
  have hb:∀x∈code,0<=x/\x<=255:=fun x hx=>by
   have:=hh.1 x hx
   unfold inB at this
   simpa using this
  cases hbig:(Ey (code,())).1 with
  | true=>
   refine ⟨0,?_⟩
   unfold B8
   simp only [hbig,if_true]
  | false=>
   obtain ⟨⟨t,T,w0⟩,d0,o0,oT,o64⟩:=Xr (u:=()) hb
   obtain ⟨⟨t1,c,w1⟩,d1,o1⟩:=Zd (u:=()) hb
   obtain ⟨⟨t2,h,x,y,w2⟩,d2,o2⟩:=UO (u:=()) hb
   exact ⟨1010,ZA hbig d0 o0 oT o64 d1 o1 d2 o2⟩
 ·cases h
open Go.Proofs
structure LogIs (d p:List UInt8) (c:Int):Prop where
 size:d.length+p.length<=30000
 all:(YI 60 0 (d++p)).2=(d++p).length
 durable:(YI 60 0 d).2=d.length
 count:((YI 60 0 (d++p)).1.length:Int)=c
end Go.V.W
end
