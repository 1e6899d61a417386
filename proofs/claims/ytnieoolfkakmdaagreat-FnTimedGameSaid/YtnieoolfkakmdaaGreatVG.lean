/- What the law FnTimedGame leans on, part 7: an interpreter of the model as plain data, its soundness, the functions as it tells them, and their laws. -/
import Derived.Test.YtnieoolfkakmdaaGreatVF
set_option linter.unusedVariables false
set_option linter.unusedSimpArgs false
set_option maxRecDepth 100000
noncomputable section
namespace Go.V.W
open Go.Proofs
theorem Aab {n:Nat} {e:E} (h:BD (n:Int) e=true):∃a b:Nat,a<b/\b<n/\e=((a:Int),(b:Int),()):=by
 obtain ⟨h1,h2,h3,h4⟩:=EF h
 exact ⟨_,_,h1,h2,by rw [<- h3,<- h4]⟩
theorem Arq (n:Nat):List.replicate n (0:Int)=toI (List.replicate n 0):=by simp [toI]
theorem CP (y:Nat):decide (0<=(y:Int))=true:=by simp
theorem Ar3 (N:Nat) (n:Nat) (hn:n<=8) (z:Nt) (u:Unit) (es:List E) (hl:es.length<=lim) (he:es.all (BD (n:Int))=true):∀k j (ms:List Nat),okN n ms->es.length<=j+k->j<=es.length ->
  CV N (k+1) (z,(toI ms,u),es,(es.length:Int),(j:Int),())=some (.inl (z,(toI ((es.drop j).foldl Rz ms),u),())):=by
 intro k
 induction k with
 | zero=>
  intro j ms hm h1 h2
  have e:j=es.length:=by omega
  subst e
  rw [AGi (AGf _)]
  simp [CV,Dt]
 | succ k ih=>
  intro j ms hm h1 h2
  by_cases hj:j<es.length
  ·have hee:BD (n:Int) (at_ Am es j)=true:=Fc (e:=Am) he hj
   have hat:at_ Am es j=es[j]:=AM (e:=Am) hj
   obtain ⟨a,b,hab,hb,hx⟩:=Aab hee
   have k1:=Ws hn hm hee
   have ha8:a<8:=by omega
   have hb8:b<8:=by omega
   have o1:=TH hm (show a<n by omega) hb8
   show Dt N (CV N (k+1)) (z,(toI ms,u),es,(es.length:Int),(j:Int),())=_
   unfold Dt
   have i1:Af (a:Int) ms.length=true:=Ad (by rw [hm.1];omega)
   have i2:Af (b:Int) ms.length=true:=Ad (by rw [hm.1];omega)
   have p1:=Ey hb8
   have p2:=Ey ha8
   simp only [Az hj,if_true,Ad hj,Int.toNat_natCast,A1 hj (BH hl),hx,Ha,i1,i2,CP,Nz hb8,Nz ha8,VI,MZ (hm.2 a) p1,Se,List.length_set]
   have hb2:(ms.set a (ms.getD a 0|||2 ^ b)).getD b 0<256:=o1.2 b
   simp only [MZ hb2 p2,Se]
   rw [AGj hj,List.foldl_cons,<- hat,hx]
   have hadd:Rz ms ((a:Int),(b:Int),())=(ms.set a (ms.getD a 0|||2 ^ b)).set b ((ms.set a (ms.getD a 0|||2 ^ b)).getD b 0|||2 ^ a):=by
    simp only [Rz,orN,Int.toNat_natCast]
   rw [hx] at k1
   rw [hadd] at k1 |-
   exact ih (j+1) _ k1 (by omega) (by omega)
  ·have e:j=es.length:=by omega
   subst e
   rw [AGi (AGf _)]
   simp [CV,Dt]
theorem Akm (d) (r) (h:Ft d=some r):∃N,Gy N d=some r:=by
 obtain ⟨⟨n,es,u⟩,w⟩:=d
 unfold Ft at h
 split at h
 ·rename_i hc
  simp only [AGc,decide_eq_true_eq] at hc
  obtain ⟨⟨⟨h0,h8⟩,hl⟩,he⟩:=hc
  have h:=AGg h
  subst h
  obtain ⟨m,rfl⟩:∃m:Nat,n=(m:Int):=⟨n.toNat,by omega⟩
  have hm8:m<=8:=by omega
  refine ⟨es.length+1,?_⟩
  unfold Gy
  have hc:(decide (0<=(m:Int))&&decide ((m:Int)<=(m:Int))&&decide ((m:Int)<=(lim:Int)))=true:=by
   have a1:(m:Int)<=(lim:Int):=by unfold lim;omega
   simp only [a1,CP,decide_true,Bool.and_self,Int.le_refl]
  have:=Ar3 (es.length+1) m hm8 (([]:List Int),()) () es (Ci hl) he es.length 0 _ (NK m) (by omega) (by omega)
  simp only [Int.natCast_zero,List.drop_zero] at this
  simp only [hc,if_true,Int.toNat_natCast,Arq,this,Option.bind_some]
  rfl
 ·cases h
theorem Amn (d) (r) (h:Nm d=some r):∃N,Gk N d=some r:=by
 obtain ⟨l,x,_⟩:=d
 unfold Nm at h
 split at h
 ·rename_i hl
  have hl:l.length<=lim:=Ci hl
  have h:=AGg h
  subst h
  refine ⟨l.length+1,?_⟩
  unfold Gk
  have:=E4 (L:=Fw (l.length+1)) (r:=En (l.length+1)) (fun _ _=>rfl) (e:=I) l (mk:=fun i=>(l,x,(i:Int),())) (q:=fun y=>y==x) (o:=fun _=>.inl (true,())) (f:=.inr (.inl ()))
   (by
    intro back i hi
    unfold En
    simp only [Az hi,if_true,Ad hi,Int.toNat_natCast,A1 hi (BH hl)])
   (by intro back;unfold En;simp only [AL,AGb,if_false]) l.length 0 (by omega) (by omega)
  simp only [Int.natCast_zero,List.drop_zero] at this
  have hge:=FA (fun y=>y==x) l 0
  simp only [this,Option.bind_some,<- hge]
  cases Gs (fun y=>y==x) l 0 with
  | none=>rfl
  | some j=>simp [Qt]
 ·cases h
theorem Amo (d) (r) (h:Lo d=some r):∃N,VJ N d=some r:=by
 obtain ⟨l,x,_⟩:=d
 unfold Lo at h
 split at h
 ·rename_i hl
  have hl:l.length<=lim:=Ci hl
  have h:=AGg h
  subst h
  refine ⟨l.length+1,?_⟩
  unfold VJ
  have:=E4 (L:=Sv (l.length+1)) (r:=Lz (l.length+1)) (fun _ _=>rfl) (e:=I) l (mk:=fun i=>(l,x,(l.length:Int),(i:Int),())) (q:=fun y=>x==y) (o:=fun i=>.inl ((i:Int),())) (f:=.inr (.inl ()))
   (by
    intro back i hi
    unfold Lz
    simp only [Az hi,if_true,Ad hi,Int.toNat_natCast,A1 hi (BH hl)])
   (by intro back;unfold Lz;simp only [AL,AGb,if_false]) l.length 0 (by omega) (by omega)
  simp only [Int.natCast_zero,List.drop_zero] at this
  simp only [this,Option.bind_some]
  cases Gs (fun y=>x==y) l 0<;>rfl
 ·cases h
theorem Rf (l:List Int) (x:Int) (u:Unit) (h:okL l=true):Jn 0 (l,x,u)=some (l.any (fun y=>y==x),()):=by
 unfold Jn Lo
 simp only [h,if_true,Option.bind_some,FA]
 congr 3
 funext y
 exact De (by rw [beq_iff_eq,beq_iff_eq];exact eq_comm)
theorem EN {t:Tt} (h:AV t=true):BI t.1=true/\0<t.1.1/\inB 1 4 t.2.1=true/\t.2.2.1.length=t.1.2.1.length:=by
 unfold AV at h
 simp only [AGc,decide_eq_true_eq] at h
 exact ⟨h.1.1.1.1,h.1.1.1.2,h.1.1.2,h.1.2⟩
theorem KY {t:Tt} (h:okT t=true):okL t.1.2.1=true/\okL t.2.2.1=true/\t.2.2.1.all okL=true:=by
 unfold okT at h
 simp only [AGc] at h
 exact ⟨h.1,II h.2⟩
theorem AX {lo hi x:Int}:inB lo hi x=true↔lo<=x/\x<=hi:=by simp [inB]
theorem ZZ {es:List E} {ts:List (List Int)} {r:Int} {i:Nat} (h1:i<es.length) (h2:i<ts.length):Hz (es.drop i) (ts.drop i) r=if (at_ Ai ts i).any (fun y=>y==r)=true then at_ Am es i::Hz (es.drop (i+1)) (ts.drop (i+1)) r else Hz (es.drop (i+1)) (ts.drop (i+1)) r:=by
 rw [AGj h1,AGj h2]
 simp only [Hz]
 have e1:at_ Ai ts i=ts[i]:=AM (e:=Ai) h2
 have e2:at_ Am es i=es[i]:=AM (e:=Am) h1
 rw [e1,e2]
theorem Ae8 (N:Nat) (t:Tt) (c:Int) (z:Gr) (n':Int) (hL:t.1.2.1.length<=lim) (hT:t.2.2.1.length=t.1.2.1.length) (hA:t.2.2.1.all okL=true) (hp:t.2.1≠0):∀k i (A:List E),A.length<=i->t.1.2.1.length<=i+k->i<=t.1.2.1.length ->
  IB N (k+1) (c,t,z,(n',A,()),(i:Int),())=some (.inl (z,(n',A++Hz (t.1.2.1.drop i) (t.2.2.1.drop i) (c.tmod t.2.1),()),())):=by
 intro k
 induction k with
 | zero=>
  intro i A hA' h1 h2
  have e:i=t.1.2.1.length:=by omega
  subst e
  rw [AGi (AGf _)]
  simp [IB,Iz,Hz]
 | succ k ih=>
  intro i A hA' h1 h2
  by_cases hi:i<t.1.2.1.length
  ·have hi2:i<t.2.2.1.length:=by omega
   have hx:okL (at_ Ai t.2.2.1 i)=true:=Fc (e:=Ai) hA hi2
   have hp':(t.2.1 != 0)=true:=by simpa using hp
   show Iz N (IB N (k+1)) (c,t,z,(n',A,()),(i:Int),())=_
   unfold Iz
   have hle:decide (A.length+List.length [at_ Am t.1.2.1 i]<=lim)=true:=by simp;omega
   simp only [Az hi,if_true,Ad hi,Ad hi2,Int.toNat_natCast,A1 hi (BH hL),hp',Nm,hx,Option.bind_some,hle]
   rw [ZZ hi hi2]
   by_cases hh:(at_ Ai t.2.2.1 i).any (fun y=>y==c.tmod t.2.1)=true
   ·rw [if_pos hh,if_pos hh,ih (i+1) _ (by simp;omega) (by omega) (by omega)]
    simp
   ·rw [if_neg hh,if_neg hh]
    exact ih (i+1) A (by omega) (by omega) (by omega)
  ·have e:i=t.1.2.1.length:=by omega
   subst e
   rw [AGi (AGf _)]
   simp [IB,Iz,Hz]
theorem Zk (d) (r) (h:GA d=some r):∃N,WJ N d=some r:=by
 obtain ⟨t,c,_⟩:=d
 unfold GA at h
 split at h
 ·rename_i hc
  simp only [AGc,decide_eq_true_eq] at hc
  obtain ⟨⟨⟨h1,h2⟩,h3⟩,_⟩:=hc
  obtain ⟨g1,g2,g3,g4⟩:=EN h1
  obtain ⟨o1,o2,o3⟩:=KY h2
  have g3:=AX.1 g3
  have h:=AGg h
  subst h
  refine ⟨t.1.2.1.length+1,?_⟩
  unfold WJ
  have:=Ae8 (t.1.2.1.length+1) t c (0,[],()) t.1.1 (Ci o1) g4 o3 (by omega) t.1.2.1.length 0 [] (by simp) (by omega) (by omega)
  simp only [Int.natCast_zero,List.drop_zero,List.nil_append] at this
  simp only [this,Option.bind_some]
  rfl
 ·cases h
theorem Au6 (pre:List Nt) (x:Nt) (post:List Nt):at_ AA (pre++x::post) pre.length=x:=by
 rw [AM (e:=AA) (by simp)]
 simp
theorem X8 (pre:List Nt) (x y:Nt) (post:List Nt):List.set (pre++x::post) pre.length y=pre++y::post:=by simp
theorem YL (N:Nat) (t:Tt) (n:Nat) (hn:n<=8) (pre post:List Nt) (u:Unit) (s11 s12:Int) (hl:t.1.2.1.length<=lim) (hT:t.2.2.1.length=t.1.2.1.length) (hA:t.2.2.1.all okL=true) (he:t.1.2.1.all (BD (n:Int))=true):∀k j (ms:List Nat),okN n ms->t.1.2.1.length<=j+k->j<=t.1.2.1.length ->
  Jf N (k+1) (t,pre++(toI ms,u)::post,(pre.length:Int),s11,s12,t.1.2.1,(t.1.2.1.length:Int),(j:Int),()) =
   some (.inl (t,pre++(toI ((Hz (t.1.2.1.drop j) (t.2.2.1.drop j) (pre.length:Int)).foldl Rz ms),u)::post,s11,s12,())):=by
 intro k
 induction k with
 | zero=>
  intro j ms hm h1 h2
  have e:j=t.1.2.1.length:=by omega
  subst e
  rw [AGi (AGf _)]
  simp [Jf,H9,Hz]
 | succ k ih=>
  intro j ms hm h1 h2
  by_cases hj:j<t.1.2.1.length
  ·have hj2:j<t.2.2.1.length:=by omega
   have hx:okL (at_ Ai t.2.2.1 j)=true:=Fc (e:=Ai) hA hj2
   have hee:BD (n:Int) (at_ Am t.1.2.1 j)=true:=Fc (e:=Am) he hj
   obtain ⟨a,b,hab,hb,hxe⟩:=Aab hee
   have k1:=Ws hn hm hee
   have ha8:a<8:=by omega
   have hb8:b<8:=by omega
   have o1:=TH hm (show a<n by omega) hb8
   rw [ZZ hj hj2]
   show H9 N (Jf N (k+1)) (t,pre++(toI ms,u)::post,(pre.length:Int),s11,s12,t.1.2.1,(t.1.2.1.length:Int),(j:Int),())=_
   unfold H9
   simp only [Az hj,if_true,Ad hj,Ad hj2,Int.toNat_natCast,A1 hj (BH hl),Rf _ _ _ hx,Option.bind_some]
   by_cases hh:(at_ Ai t.2.2.1 j).any (fun y=>y==(pre.length:Int))=true
   ·rw [if_pos hh,if_pos hh]
    have i0:∀x:Nt,Af (pre.length:Int) (pre++x::post).length=true:=fun x=>Ad (by simp)
    have i1:Af (a:Int) ms.length=true:=Ad (by rw [hm.1];omega)
    have i2:Af (b:Int) ms.length=true:=Ad (by rw [hm.1];omega)
    have p1:=Ey hb8
    have p2:=Ey ha8
    simp only [hxe,i0,if_true,Int.toNat_natCast,Au6,X8,Ha,i1,i2,CP,Nz hb8,Nz ha8,VI,MZ (hm.2 a) p1,Se,List.length_set]
    have hb2:(ms.set a (ms.getD a 0|||2 ^ b)).getD b 0<256:=o1.2 b
    simp only [MZ hb2 p2,Se]
    rw [List.foldl_cons]
    have hadd:Rz ms ((a:Int),(b:Int),())=(ms.set a (ms.getD a 0|||2 ^ b)).set b ((ms.set a (ms.getD a 0|||2 ^ b)).getD b 0|||2 ^ a):=by
     simp only [Rz,orN,Int.toNat_natCast]
    rw [hxe] at k1
    rw [hadd] at k1 |-
    exact ih (j+1) _ k1 (by omega) (by omega)
   ·rw [if_neg hh,if_neg hh]
    exact ih (j+1) ms hm (by omega) (by omega)
  ·have e:j=t.1.2.1.length:=by omega
   subst e
   rw [AGi (AGf _)]
   simp [Jf,H9,Hz]
theorem Dj {n:Int} {l:List E} {u:Unit} (h:BI (n,l,u)=true):l.all (BD n)=true/\C0 l=true:=by
 unfold BI at h
 simp only [AGc] at h
 exact ⟨h.1.2,h.2⟩
theorem Zg (M:Nat) (t:Tt) (n:Nat) (hn:n<=8) (hN:t.1.1=(n:Int)) (hl:t.1.2.1.length<=lim) (hT:t.2.2.1.length=t.1.2.1.length) (hA:t.2.2.1.all okL=true) (he:t.1.2.1.all (BD (n:Int))=true) (p:Nat) (hp:p<=4):∀k (pre:List Nt) (f:Nat),pre.length+k=p->k<f ->
  Ky (t.1.2.1.length+1+M) f (t,pre++List.replicate k ([],()),(p:Int),(pre.length:Int),())=some (.inl (pre++(List.range' pre.length k).map (fun r:Nat=>((toI (Er n (Bv t (r:Int))),()):Nt)),())):=by
 intro k
 induction k with
 | zero=>
  intro pre f h hf
  have e:p=pre.length:=by omega
  subst e
  obtain ⟨f,rfl⟩:∃m,f=m+1:=⟨f-1,by omega⟩
  simp [Ky,La]
 | succ k ih=>
  intro pre f h hf
  have hlt:pre.length<p:=by omega
  obtain ⟨f,rfl⟩:∃m,f=m+1:=⟨f-1,by omega⟩
  show La (t.1.2.1.length+1+M) (Ky (t.1.2.1.length+1+M) f) (t,pre++List.replicate (k+1) ([],()),(p:Int),(pre.length:Int),())=_
  unfold La
  have hg:Ft ((t.1.1,([]:List E),()),())=some ((toI (List.replicate n 0),()),()):=by
   unfold Ft
   have:(decide (0<=t.1.1)&&decide (t.1.1<=8)&&okL ([]:List E)&&List.all ([]:List E) (BD t.1.1))=true:=by
    rw [Awt,hN]
    simp
    omega
   rw [if_pos this,hN]
   rfl
  have i0:Af (pre.length:Int) (pre++([],())::List.replicate k (([],()):Nt)).length=true:=Ad (by simp)
  have hw:IntKind.wrap .i64 ((pre.length:Int)+1)=((pre.length+1:Nat):Int):=by
   rw [Bj _ (by omega) (by omega)]
   rfl
  have hin:=YL (t.1.2.1.length+1+M) t n hn pre (List.replicate k ([],())) () (p:Int) (pre.length:Int) hl hT hA he (t.1.2.1.length+M) 0 _ (NK n) (by omega) (by omega)
  have hf:t.1.2.1.length+M+1=t.1.2.1.length+1+M:=by omega
  rw [hf] at hin
  simp only [Int.natCast_zero,List.drop_zero] at hin
  have hd:decide ((pre.length:Int)<(p:Int))=true:=by simp;omega
  simp only [List.replicate_succ,hd,if_true,hg,Option.bind_some,i0,Int.toNat_natCast,X8,hin,hw]
  have:=ih (pre++[((toI (Er n (Bv t (pre.length:Int))),()):Nt)]) f (by simp;omega) (by omega)
  simp only [List.length_append,List.length_singleton,List.append_assoc,List.singleton_append] at this
  rw [List.range'_succ,List.map_cons]
  exact this
theorem VS (d) (r) (h:Co d=some r):∃N,V1 N d=some r:=by
 obtain ⟨t,_⟩:=d
 unfold Co at h
 split at h
 ·rename_i hc
  simp only [AGc] at hc
  obtain ⟨h1,h2⟩:=hc
  obtain ⟨g1,g2,g3,g4⟩:=EN h1
  obtain ⟨o1,o2,o3⟩:=KY h2
  have g3:=AX.1 g3
  have hn:=DZ (n:=t.1.1) (l:=t.1.2.1) (u:=t.1.2.2) g1
  have hE:=(Dj (n:=t.1.1) (l:=t.1.2.1) (u:=t.1.2.2) g1).1
  have h:=AGg h
  subst h
  have hN:t.1.1=(t.1.1.toNat:Int):=by omega
  have hP:t.2.1=(t.2.1.toNat:Int):=by omega
  refine ⟨t.1.2.1.length+1+(t.2.1.toNat+1),?_⟩
  unfold V1
  have hcc:(decide (0<=t.2.1)&&decide (t.2.1<=t.2.1)&&decide (t.2.1<=(lim:Int)))=true:=by
   have a1:t.2.1<=(lim:Int):=by unfold lim;omega
   have a2:0<=t.2.1:=by omega
   simp only [a1,a2,decide_true,Bool.and_self,Int.le_refl]
  rw [hN] at hE
  have key:=Zg (t.2.1.toNat+1) t t.1.1.toNat (by omega) hN (Ci o1) g4 o3 hE t.2.1.toNat (by omega) t.2.1.toNat [] (t.1.2.1.length+1+(t.2.1.toNat+1)) (by simp) (by omega)
  simp only [List.nil_append,List.length_nil,Int.natCast_zero] at key
  have hlen:(List.replicate t.2.1.toNat (([]:List Int),())).length=t.2.1.toNat:=by simp
  simp only [hcc,if_true,hlen,key,Option.bind_some,Bt,List.range_eq_range']
 ·cases h
open Go.Proofs
theorem TK {l:List Int} (h:JS l=true):l=toI (DS l)/\okN l.length (DS l)/\l.length<=8:=by
 unfold JS at h
 simp only [AGc,decide_eq_true_eq,List.all_eq_true] at h
 refine ⟨?_,⟨by simp [DS],fun x => ?_⟩,h.1⟩
 ·unfold toI DS
  rw [List.map_map]
  have:∀m∈l,((fun m:Nat=>(m:Int))∘Int.toNat) m=m:=fun m hm=>by
   have:=h.2 m hm
   simp only [Function.comp]
   omega
  exact (List.map_congr_left this).trans (List.map_id' l) |>.symm
 ·unfold DS
  simp only [AGm,List.getElem?_map]
  cases hx:l[x]? with
  | none=>simp
  | some m=>
   have:=h.2 m (List.mem_of_getElem? hx)
   simp only [Option.map_some,Option.getD_some]
   omega
theorem AF5 (ms:List Nat) (n:Nat) (hm:okN n ms) (hn:n<=8) (u v w z:Unit) (x y:Nat) (hx:x<n) (hy:y<n):RV ((x:Int),(y:Int),(((toI ms,u),v),w),z)=some (Rk ms x y,()):=by
 unfold RV Xu
 have i1:Af (x:Int) ms.length=true:=Ad (by rw [hm.1];exact hx)
 simp only [Ha,i1,if_true,CP,Int.toNat_natCast,VI,VV (hm.2 x) (show y<8 by omega)]
 rfl
theorem Ue {p:Nat->Nat->Bool} {x:Nat}:∀{m y:Nat},(Ho p x m y).length<=m:=by
 intro m
 induction m with
 | zero=>intro y;simp [Ho]
 | succ m ih=>
  intro y
  unfold Ho
  split
  ·have:=ih (y:=y+1);simp;omega
  ·have:=ih (y:=y+1);omega
theorem Ae9 (N:Nat) (ms:List Nat) (n:Nat) (hm:okN n ms) (hn:n<=8) (u v w:Unit) (z:Gr) (n':Int) (x:Nat) (hx:x<n) (s10 s11:Int):∀k y f (A:List E),y+k=n->k<f->A.length+k<=1000 ->
  K7 N f ((n:Int),(((toI ms,u),v),w),z,(n',A,()),(x:Int),(y:Int),s10,s11,())=some (.inl ((n:Int),(((toI ms,u),v),w),z,(n',A++Ho (Rk ms) x k y,()),s10,s11,())):=by
 intro k
 induction k with
 | zero=>
  intro y f A h1 h2 h3
  obtain ⟨f,rfl⟩:∃m,f=m+1:=⟨f-1,by omega⟩
  have e:y=n:=by omega
  subst e
  simp [K7,KJ,Ho]
 | succ k ih=>
  intro y f A h1 h2 h3
  obtain ⟨f,rfl⟩:∃m,f=m+1:=⟨f-1,by omega⟩
  have hy:y<n:=by omega
  show KJ N (K7 N f) ((n:Int),(((toI ms,u),v),w),z,(n',A,()),(x:Int),(y:Int),s10,s11,())=_
  unfold KJ
  have hw:IntKind.wrap .i64 ((y:Int)+1)=((y+1:Nat):Int):=by
   rw [Bj _ (by omega) (by omega)]
   rfl
  have hle:decide (A.length+List.length [(((x:Int),(y:Int),()):E)]<=lim)=true:=by
   unfold lim
   simp
   omega
  simp only [Az hy,if_true,AF5 ms n hm hn u v w () x y hx hy,Option.bind_some,hle,hw]
  unfold Ho
  by_cases hh:Rk ms x y=true
  ·rw [if_pos hh,if_pos hh,ih (y+1) f _ (by omega) (by omega) (by simp;omega)]
   simp
  ·rw [if_neg hh,if_neg hh]
   exact ih (y+1) f A (by omega) (by omega) (by omega)
theorem Agf (N:Nat) (hN:9<=N) (ms:List Nat) (n:Nat) (hm:okN n ms) (hn:n<=8) (u v w:Unit) (z:Gr) (n':Int):∀k x f (A:List E),x+k=n->k<f->A.length+10*k<=900 ->
  KN N f ((n:Int),(((toI ms,u),v),w),z,(n',A,()),(n:Int),(x:Int),())=some (.inl (z,(n',A++S8 (Rk ms) n k x,()),())):=by
 intro k
 induction k with
 | zero=>
  intro x f A h1 h2 h3
  obtain ⟨f,rfl⟩:∃m,f=m+1:=⟨f-1,by omega⟩
  have e:x=n:=by omega
  subst e
  simp [KN,Lv,S8]
 | succ k ih=>
  intro x f A h1 h2 h3
  obtain ⟨f,rfl⟩:∃m,f=m+1:=⟨f-1,by omega⟩
  have hx:x<n:=by omega
  show Lv N (KN N f) ((n:Int),(((toI ms,u),v),w),z,(n',A,()),(n:Int),(x:Int),())=_
  unfold Lv
  have hw:IntKind.wrap .i64 ((x:Int)+1)=((x+1:Nat):Int):=by
   rw [Bj _ (by omega) (by omega)]
   rfl
  have hin:=Ae9 N ms n hm hn u v w z n' x hx (n:Int) (x:Int) (n-(x+1)) (x+1) N A (by omega) (by omega) (by omega)
  simp only [Az hx,if_true,hw,hin,Option.bind_some]
  have:=Ue (p:=Rk ms) (x:=x) (m:=n-(x+1)) (y:=x+1)
  rw [ih (x+1) f _ (by omega) (by omega) (by simp;omega)]
  simp [S8]
theorem SS (d) (r) (h:E3 d=some r):∃N,Wg N d=some r:=by
 obtain ⟨n',⟨⟨⟨l,u⟩,v⟩,w⟩,q⟩:=d
 unfold E3 at h
 split at h
 ·rename_i hc
  simp only [AGc,decide_eq_true_eq] at hc
  obtain ⟨h1,h2⟩:=hc
  obtain ⟨e,hm,h8⟩:=TK h1
  have h:=AGg h
  subst h
  have h2:n'=(l.length:Int):=h2
  subst h2
  refine ⟨20,?_⟩
  unfold Wg
  have:=Agf 20 (by omega) (DS l) l.length hm h8 u v w (0,[],()) (l.length:Int) l.length 0 20 [] (by omega) (by omega) (by simp;omega)
  rw [<- e] at this
  simp only [Int.natCast_zero,List.nil_append] at this
  simp only [this,Option.bind_some,Int.toNat_natCast]
 ·cases h
def ogB (t:Tt) (c:Int):Gr×Bool×Unit:=if (AV t&&inB 0 1000 c)=true then ((t.1.1,Bv t (c.tmod t.2.1),()),true,()) else ((0,[],()),false,())
theorem SL (c:Int) (u:Unit):Mk (c,u)=(inB 0 1000 c,()):=by
 unfold Mk
 simp only [Gg]
theorem L1 (c:Int) (u:Unit):Kb (c,u)=(inB 0 1000 c,()):=by
 unfold Kb
 simp only [Ip]
theorem Kj {t:Tt} {n:Nat} (h1:t.1.2.1.all (BD (n:Int))=true) (h2:C0 t.1.2.1=true) (r:Int):(Bv t r).all (BD (n:Int))=true/\((Bv t r).Pairwise fun a b=>Ch a b=true):=by
 have hs:=YZ t.1.2.1 t.2.2.1 r
 refine ⟨List.all_eq_true.2 fun e he=>List.all_eq_true.1 h1 e (hs.mem he),(YO h2).sublist hs⟩
theorem WL {c p:Int} (hc:0<=c) (hp:0<p):0<=c.tmod p/\c.tmod p<p:=by
 rw [Int.tmod_eq_emod_of_nonneg hc]
 exact ⟨Int.emod_nonneg _ (by omega),Int.emod_lt_of_pos _ hp⟩
theorem AA8 (t:Tt) (c:Int) (w:Unit) (h:okT t=true):J1 0 (t,c,w)=some (ogB t c):=by
 unfold J1 ogB
 simp only [U5 t _ h,Option.bind_some,L1]
 cases ht:AV t with
 | false=>rfl
 | true=>
  cases hc:inB 0 1000 c with
  | false=>rfl
  | true=>
   obtain ⟨g1,g2,g3,g4⟩:=EN ht
   have g3:=AX.1 g3
   have hcc:=AX.1 hc
   have hn:=DZ (n:=t.1.1) (l:=t.1.2.1) (u:=t.1.2.2) g1
   obtain ⟨hE,hR⟩:=Dj (n:=t.1.1) (l:=t.1.2.1) (u:=t.1.2.2) g1
   have hN:t.1.1=(t.1.1.toNat:Int):=by omega
   rw [hN] at hE
   obtain ⟨m1,m2⟩:=WL (c:=c) (p:=t.2.1) (by omega) (by omega)
   obtain ⟨o1,o2⟩:=Kj hE hR (c.tmod t.2.1)
   have hp:(t.2.1 != 0)=true:=by simp;omega
   have hlen:(Bt t).length=t.2.1.toNat:=by simp [Bt]
   have hi:Af (c.tmod t.2.1) (Bt t).length=true:=by
    rw [hlen]
    unfold Af
    simp
    omega
   have hat:at_ AA (Bt t) (c.tmod t.2.1).toNat=(toI (Er t.1.1.toNat (Bv t (c.tmod t.2.1))),()):=by
    have hlt:(c.tmod t.2.1).toNat<(Bt t).length:=by rw [hlen];omega
    rw [AM (e:=AA) hlt]
    simp only [Bt,List.get_eq_getElem,List.getElem_map,List.getElem_range]
    rw [show (((c.tmod t.2.1).toNat:Nat):Int)=c.tmod t.2.1 by omega]
   have hok:=SF (n:=t.1.1.toNat) (by omega) o1
   have hG:Tx 0 ((toI (Er t.1.1.toNat (Bv t (c.tmod t.2.1))),()),())=some ((t.1.1,Bv t (c.tmod t.2.1),()),()):=by
    unfold Tx E8 E3
    have hs:JS (toI (Er t.1.1.toNat (Bv t (c.tmod t.2.1))))=true:=by
     unfold JS
     simp only [Ha,hok.1,AGc,decide_eq_true_eq,List.all_eq_true]
     refine ⟨by omega,fun m hm => ?_⟩
     unfold toI at hm
     obtain ⟨x,hx,rfl⟩:=List.mem_map.1 hm
     obtain ⟨i,hi,rfl⟩:=List.getElem_of_mem hx
     have:=hok.2 i
     simp only [AGm,AGn hi,Option.getD_some] at this
     omega
    simp only [hs,decide_true,Bool.and_self,if_true,Option.bind_some,Ha,hok.1,YR,Int.toNat_natCast,Are (show t.1.1.toNat<=8 by omega) o1 o2]
    rw [<- hN]
   have hO:Co (t,())=some (Bt t,()):=by
    unfold Co
    rw [if_pos (by rw [ht,h];rfl)]
   simp only [hO,hp,hi,hat,hG,Bool.not_true,AGb,if_false,if_true,Option.bind_some,Bool.and_self]
theorem Atw (es:List E) (ts:List (List Int)) (r:Int):(Hz es ts r).length<=es.length:=(YZ es ts r).length_le
theorem GM {p q:Nat->Bool}:∀{k x:Nat},(∀y,x<=y->y<x+k->p y=q y)->BE p k x=BE q k x:=by
 intro k
 induction k with
 | zero=>intro x _;rfl
 | succ k ih=>
  intro x h
  simp only [BE,h x (AGf _) (by omega),ih (x:=x+1) fun y h1 h2=>h y (by omega) (by omega)]
theorem GQ {p:Nat->Bool}:∀{k x:Nat} {z:Int},z∈BE p k x ↔ ∃y:Nat,x<=y/\y<x+k/\p y=true/\z=(y:Int):=by
 intro k
 induction k with
 | zero=>intro x z;simp only [BE,List.not_mem_nil,false_iff];rintro ⟨y,h1,h2,_⟩;omega
 | succ k ih=>
  intro x z
  unfold BE
  by_cases h:p x=true
  ·rw [if_pos h,List.mem_cons,ih]
   constructor
   ·rintro (rfl | ⟨y,h1,h2,h3,h4⟩)
    ·exact ⟨x,AGf _,by omega,h,rfl⟩
    ·exact ⟨y,by omega,by omega,h3,h4⟩
   ·rintro ⟨y,h1,h2,h3,h4⟩
    by_cases e:y=x
    ·subst e;exact .inl h4
    ·exact .inr ⟨y,by omega,by omega,h3,h4⟩
  ·rw [if_neg h,ih]
   constructor
   ·rintro ⟨y,h1,h2,h3,h4⟩
    exact ⟨y,by omega,by omega,h3,h4⟩
   ·rintro ⟨y,h1,h2,h3,h4⟩
    by_cases e:y=x
    ·subst e;exact absurd h3 h
    ·exact ⟨y,by omega,by omega,h3,h4⟩
theorem Kn {p:Nat->Bool}:∀{k x:Nat},(BE p k x).length<=k:=by
 intro k
 induction k with
 | zero=>intro x;simp [BE]
 | succ k ih=>
  intro x
  unfold BE
  split
  ·have:=ih (x:=x+1);simp;omega
  ·have:=ih (x:=x+1);omega
theorem Asz {p:Nat->Bool} {z:Nat}:∀{k y:Nat},z<y->SX (z:Int) (BE p k y)=(z:Int)::BE p k y:=by
 intro k
 induction k with
 | zero=>intro y _;rfl
 | succ k ih=>
  intro y h
  unfold BE
  split
  ·have h1:¬(y:Int)<(z:Int):=by omega
   have h2:¬(y:Int)=(z:Int):=by omega
   simp only [SX,h1,h2,if_false]
  ·exact ih (by omega)
theorem Aqi {p:Nat->Bool} {z:Nat}:∀{k x:Nat},x<=z->z<x+k->SX (z:Int) (BE p k x)=BE (fun y=>p y||decide (y=z)) k x:=by
 intro k
 induction k with
 | zero=>intro x h1 h2;omega
 | succ k ih=>
  intro x h1 h2
  by_cases e:x=z
  ·subst e
   have hc:BE (fun y=>p y||decide (y=x)) k (x+1)=BE p k (x+1):=GM fun y h1 h2=>by
    have:¬y=x:=by omega
    simp [this]
   by_cases hp:p x=true
   ·simp only [BE,hp,if_true,decide_true,Bool.or_self,hc,SX]
    have:¬(x:Int)<(x:Int):=by omega
    simp only [this,if_false,if_true]
   ·have hp':p x=false:=by simpa using hp
    simp only [BE,hp',AGb,if_false,decide_true,Bool.or_true,if_true,hc]
    exact Asz (by omega)
  ·have hd:decide (x=z)=false:=by simp [e]
   have hlt:(x:Int)<(z:Int):=by omega
   by_cases hp:p x=true
   ·simp only [BE,hp,if_true,hd,Bool.or_false,SX,hlt,ih (x:=x+1) (by omega) (by omega)]
   ·have hp':p x=false:=by simpa using hp
    simp only [BE,hp',hd,Bool.or_false,AGb,if_false,ih (x:=x+1) (by omega) (by omega)]
theorem Ajc {n:Nat} {es:List E} {x:Nat} (hx:x<n):Ag3 n es (x:Int)=BE (fun y=>DR es (x:Int) (y:Int)||decide (y=x)) n 0:=by
 unfold Ag3
 exact Aqi (Nat.zero_le _) (by omega)
theorem Z3 {p:Nat->Bool} {n:Nat}:∀z∈BE p n 0,∃y:Nat,y<n/\z=(y:Int):=by
 intro z hz
 obtain ⟨y,_,h2,_,h4⟩:=GQ.1 hz
 exact ⟨y,by omega,h4⟩
theorem Ua {n x:Nat}:BE (fun _=>false) n x=[]:=by
 induction n generalizing x with
 | zero=>rfl
 | succ n ih=>simp [BE,ih]
def isM (n:Nat) (m:Nat) (p:Nat->Bool):Prop:=m<256 /\ ∀y,m.testBit y=(decide (y<n)&&p y)
theorem SQ (es:List E) {n:Nat} (h:es.all (BD (n:Int))=true) (x y:Nat):es.any (fun e=>isE e x y)=DR es (x:Int) (y:Int):=by
 unfold DR
 apply Bool.eq_iff_iff.2
 simp only [List.any_eq_true,isE,Bool.or_eq_true,AGc,decide_eq_true_eq,beq_iff_eq]
 constructor
 ·rintro ⟨e,he,h1⟩
  obtain ⟨k1,k2,k3,k4⟩:=EF (List.all_eq_true.1 h e he)
  exact ⟨e,he,by omega⟩
 ·rintro ⟨e,he,h1⟩
  obtain ⟨k1,k2,k3,k4⟩:=EF (List.all_eq_true.1 h e he)
  exact ⟨e,he,by omega⟩
theorem XE {es:List E} {n:Nat} (h:es.all (BD (n:Int))=true) {x y:Nat} (hn:DR es (x:Int) (y:Int)=true):y<n:=by
 unfold DR at hn
 simp only [List.any_eq_true,Bool.or_eq_true,AGc,beq_iff_eq] at hn
 obtain ⟨e,he,h1⟩:=hn
 obtain ⟨k1,k2,k3,k4⟩:=EF (List.all_eq_true.1 h e he)
 omega
theorem Aau {p:Nat->Bool}:∀(a b x:Nat),BE p (a+b) x=BE p a x++BE p b (x+a):=by
 intro a
 induction a with
 | zero=>intro b x;simp [BE]
 | succ a ih=>
  intro b x
  rw [show a+1+b=(a+b)+1 by omega]
  simp only [BE,ih,show x+1+a=x+(a+1) by omega]
  split<;>simp
theorem U1 {n m:Nat} {p:Nat->Bool} (hn:n<=8) (hm:isM n m p):BE (fun y=>m.testBit y) 8 0=BE p n 0:=by
 rw [show 8=n+(8-n) by omega,Aau]
 have h1:BE (fun y=>m.testBit y) n 0=BE p n 0:=GM fun y _ h=>by
  rw [hm.2 y]
  have:y<n:=by omega
  simp [this]
 have h2:BE (fun y=>m.testBit y) (8-n) (0+n)=[]:=by
  rw [<- Ua (n:=8-n) (x:=0+n)]
  exact GM fun y h _=>by
   rw [hm.2 y]
   have:¬y<n:=by omega
   simp [this]
 rw [h1,h2,List.append_nil]
open Go.Proofs
theorem Ac4 (d) (r) (h:FI d=some r):∃N,Si N d=some r:=by
 obtain ⟨g,a,b,_⟩:=d
 unfold FI at h
 split at h
 ·rename_i hl
  have hl:g.2.1.length<=lim:=Ci hl
  have h:=AGg h
  subst h
  refine ⟨g.2.1.length+1,?_⟩
  unfold Si
  have:=E4 (L:=NL (g.2.1.length+1)) (r:=IE (g.2.1.length+1)) (fun _ _=>rfl) (e:=Am) g.2.1 (mk:=fun i=>(a,b,g,(i:Int),())) (q:=fun e=>(e.1==a&&e.2.1==b)||(e.1==b&&e.2.1==a)) (o:=fun _=>.inl (true,())) (f:=.inr (.inl ()))
   (by
    intro back i hi
    unfold IE
    simp only [Az hi,if_true,Ad hi,Int.toNat_natCast,A1 hi (BH hl)]
    rcases Bool.eq_false_or_eq_true ((at_ Am g.2.1 i).1==a) with c1 | c1<;>rcases Bool.eq_false_or_eq_true ((at_ Am g.2.1 i).2.1==b) with c2 | c2<;>rcases Bool.eq_false_or_eq_true ((at_ Am g.2.1 i).1==b) with c3 | c3<;>rcases Bool.eq_false_or_eq_true ((at_ Am g.2.1 i).2.1==a) with c4 | c4 <;>
     simp only [c1,c2,c3,c4,if_true,if_false,AGb,Bool.and_true,Bool.and_false,Bool.or_true,Bool.or_false,Bool.true_or,Bool.or_self,Bool.and_self])
   (by intro back;unfold IE;simp only [AL,AGb,if_false]) g.2.1.length 0 (by omega) (by omega)
  simp only [Int.natCast_zero,List.drop_zero] at this
  have hge:=FA (fun e:E=>(e.1==a&&e.2.1==b)||(e.1==b&&e.2.1==a)) g.2.1 0
  simp only [this,Option.bind_some,DR,<- hge]
  cases Gs (fun e:E=>(e.1==a&&e.2.1==b)||(e.1==b&&e.2.1==a)) g.2.1 0 with
  | none=>rfl
  | some j=>simp [Qt]
 ·cases h
theorem Ug (N:Nat) (g:Gr) (x:Int) (n:Nat) (hN:g.1=(n:Int)) (hn:n<=8) (ho:okL g.2.1=true):∀(k y f:Nat) (A:List Int),y+k=n->k<f->A.length+k<=1000 ->
  Lh N f (x,g,A,(y:Int),())=some (.inl (A++BE (fun y=>DR g.2.1 x (y:Int)) k y,())):=by
 intro k
 induction k with
 | zero=>
  intro y f A h1 h2 h3
  obtain ⟨f,rfl⟩:∃m,f=m+1:=⟨f-1,by omega⟩
  have e:y=n:=by omega
  subst e
  simp [Lh,KR,BE,hN]
 | succ k ih=>
  intro y f A h1 h2 h3
  obtain ⟨f,rfl⟩:∃m,f=m+1:=⟨f-1,by omega⟩
  have hy:y<n:=by omega
  show KR N (Lh N f) (x,g,A,(y:Int),())=_
  unfold KR
  have hw:IntKind.wrap .i64 ((y:Int)+1)=((y+1:Nat):Int):=by
   rw [Bj _ (by omega) (by omega)]
   rfl
  have hle:decide (A.length+List.length [(y:Int)]<=lim)=true:=by
   unfold lim
   simp
   omega
  simp only [hN,Az hy,if_true,FI,ho,Option.bind_some,hle,hw]
  unfold BE
  by_cases hh:DR g.2.1 x (y:Int)=true
  ·rw [if_pos hh,if_pos hh,ih (y+1) f _ (by omega) (by omega) (by simp;omega)]
   simp
  ·rw [if_neg hh,if_neg hh]
   exact ih (y+1) f A (by omega) (by omega) (by omega)
theorem Rl (d) (r) (h:DD d=some r):∃N,X3 N d=some r:=by
 obtain ⟨g,x,_⟩:=d
 unfold DD at h
 split at h
 ·rename_i hc
  simp only [AGc,decide_eq_true_eq] at hc
  obtain ⟨⟨h1,h2⟩,h3⟩:=hc
  have h:=AGg h
  subst h
  refine ⟨20,?_⟩
  unfold X3
  have:=Ug 20 g x g.1.toNat (by omega) (by omega) h1 g.1.toNat 0 20 [] (by omega) (by omega) (by simp;omega)
  simp only [Int.natCast_zero,List.nil_append] at this
  simp only [this,Option.bind_some]
 ·cases h
def PG (x:Int):List Int->Nat
 | []=>0
 | a::l=>if a<x then PG x l+1 else 0
theorem Ayz (x:Int):∀l,PG x l<=l.length:=by
 intro l
 induction l with
 | nil=>simp [PG]
 | cons a l ih=>simp only [PG];split<;>simp;omega
theorem Amx (x:Int):∀l:List Int,SX x l=if h:PG x l<l.length then (if l[PG x l]=x then l else l.take (PG x l)++[x]++l.drop (PG x l)) else l++[x]:=by
 intro l
 induction l with
 | nil=>rfl
 | cons a l ih=>
  simp only [SX,PG]
  by_cases c:a<x
  ·simp only [c,if_true,ih,List.length_cons,Nat.add_lt_add_iff_right,List.getElem_cons_succ,List.take_succ_cons,List.drop_succ_cons]
   split
   ·split<;>simp
   ·simp
  ·by_cases c2:a=x
   ·simp [c,c2]
   ·simp [c,c2]
theorem Aol (N:Nat) (l:List Int) (x:Int) (hl:l.length<=1000):∀(k i f:Nat),i+k=l.length->k<f->Kx N f (l,x,(i:Int),())=some (.inl (l,x,((i+PG x (l.drop i):Nat):Int),())):=by
 have hmx:l.length<=maxLen:=by unfold maxLen;omega
 intro k
 induction k with
 | zero=>
  intro i f h1 h2
  obtain ⟨f,rfl⟩:∃m,f=m+1:=⟨f-1,by omega⟩
  have e:i=l.length:=by omega
  subst e
  rw [AGi (AGf _)]
  simp [Kx,KV,PG]
 | succ k ih=>
  intro i f h1 h2
  obtain ⟨f,rfl⟩:∃m,f=m+1:=⟨f-1,by omega⟩
  have hi:i<l.length:=by omega
  show KV N (Kx N f) (l,x,(i:Int),())=_
  unfold KV
  have e:at_ I l i=l[i]:=AM (e:=I) hi
  rw [AGj hi]
  simp only [Az hi,if_true,Ad hi,Int.toNat_natCast,A1 hi hmx,e,PG]
  by_cases c:l[i]<x
  ·simp only [c,decide_true,if_true]
   rw [ih (i+1) f (by omega) (by omega)]
   congr 5
   omega
  ·simp only [c,decide_false,AGb,if_false,Nat.add_zero]
theorem Adm (d) (r) (h:Ki d=some r):∃N,Wo N d=some r:=by
 obtain ⟨l,x,_⟩:=d
 unfold Ki at h
 split at h
 ·rename_i hl
  have hl:l.length<=1000:=of_decide_eq_true hl
  have h:=AGg h
  subst h
  refine ⟨l.length+1,?_⟩
  unfold Wo
  have:=Aol (l.length+1) l x hl l.length 0 (l.length+1) (by omega) (by omega)
  simp only [Int.natCast_zero,List.drop_zero,Nat.zero_add] at this
  have hk:=Ayz x l
  generalize hkk:PG x l=k at this hk
  simp only [this,Option.bind_some,Amx,hkk]
  have hL:(lim:Int)=1099511627776:=rfl
  have c0:(decide (0<=(0:Int))&&decide ((0:Int)<=(k:Int))&&decide ((k:Int)<=(l.length:Int)))=true:=by simp;omega
  have c1:decide (List.length ([]:List Int)+List.length (CY l (0:Int) (k:Int))<=lim)=true:=by unfold lim CY;simp;omega
  have c2:decide (List.length (([]:List Int)++CY l (0:Int) (k:Int))+List.length [x]<=lim)=true:=by unfold lim CY;simp;omega
  have c3:(decide (0<=(k:Int))&&decide ((k:Int)<=(l.length:Int))&&decide ((l.length:Int)<=(l.length:Int)))=true:=by simp;omega
  have c4:decide (List.length (([]:List Int)++CY l (0:Int) (k:Int)++[x])+List.length (CY l (k:Int) (l.length:Int))<=lim)=true:=by unfold lim CY;simp;omega
  have e1:CY l (0:Int) (k:Int)=l.take k:=by simp [CY]
  have e2:CY l (k:Int) (l.length:Int)=l.drop k:=by simp [CY]
  by_cases hlt:k<l.length
  ·have e:at_ I l k=l[k]:=AM (e:=I) hlt
   simp only [Az hlt,if_true,Ad hlt,Int.toNat_natCast,e,hlt,dite_true,c0,c1,c2,c3,c4]
   by_cases c:l[k]=x
   ·simp [c]
   ·have c':(l[k]==x)=false:=by simpa using c
    simp only [c',c,AGb,if_false,e1,e2,List.nil_append]
  ·have hlt':decide ((k:Int)<(l.length:Int))=false:=by simp;omega
   have ek:k=l.length:=by omega
   simp only [hlt',AGb,if_false,c0,c1,c2,c3,c4,if_true,hlt,dite_false,e1,e2,List.nil_append]
   subst ek
   simp
   unfold lim
   omega
 ·cases h
theorem Aye {m y:Nat} (hm:m<256) (h:y<8):(bits .and .i64 (shr .i64 (m:Int) (y:Int)) 1==(1:Int))=m.testBit y:=VV hm h
theorem As3 (N:Nat) (s:Nat) (hs:s<256):∀(k x f:Nat) (A:List Int),x+k=8->k<f->A.length+k<=100 ->
  DC N f ((s:Int),A,(x:Int),())=some (.inl (A++BE (fun y=>s.testBit y) k x,())):=by
 intro k
 induction k with
 | zero=>
  intro x f A h1 h2 h3
  obtain ⟨f,rfl⟩:∃m,f=m+1:=⟨f-1,by omega⟩
  have e:x=8:=by omega
  subst e
  have:shr .i64 (s:Int) ((8:Nat):Int)=0:=by
   unfold shr
   have e:min ((8:Nat):Int).toNat IntKind.i64.bits=8:=by decide
   rw [e,Int.fdiv_eq_ediv_of_nonneg _ (by decide)]
   omega
  show Dx N (DC N f) ((s:Int),A,((8:Nat):Int),())=_
  unfold Dx
  have h8:decide (0<=((8:Nat):Int))=true:=by decide
  have hz:((0:Int) != 0)=false:=by decide
  simp only [h8,if_true,this,hz,AGb,if_false,BE,List.append_nil]
 | succ k ih=>
  intro x f A h1 h2 h3
  obtain ⟨f,rfl⟩:∃m,f=m+1:=⟨f-1,by omega⟩
  have hx:x<8:=by omega
  show Dx N (DC N f) ((s:Int),A,(x:Int),())=_
  unfold Dx
  have hw:IntKind.wrap .i64 ((x:Int)+1)=((x+1:Nat):Int):=by
   rw [Bj _ (by omega) (by omega)]
   rfl
  have hle:decide (A.length+List.length [(x:Int)]<=lim)=true:=by
   unfold lim
   simp
   omega
  simp only [CP,if_true,Aye hs hx,hle,hw]
  by_cases hz:s>>>x=0
  ·have e1:(shr .i64 (s:Int) (x:Int) != (0:Int))=false:=by rw [Xv hx,hz];decide
   simp only [e1,AGb,if_false]
   have e2:BE (fun y=>s.testBit y) (k+1) x=[]:=by
    rw [<- Ua (n:=k+1) (x:=x)]
    refine GM fun y h _ => ?_
    have:s<2 ^ x:=by
     rw [Nat.shiftRight_eq_div_pow] at hz
     exact (Nat.div_eq_zero_iff_lt (Nat.two_pow_pos x)).1 hz
    exact Nat.testBit_lt_two_pow (Nat.lt_of_lt_of_le this (Nat.pow_le_pow_right (by omega) h))
   rw [e2,List.append_nil]
  ·have e1:(shr .i64 (s:Int) (x:Int) != (0:Int))=true:=by
    rw [Xv hx]
    have:((s>>>x:Nat):Int)≠0:=fun e=>hz (by exact_mod_cast e)
    simpa using this
   simp only [e1,if_true]
   unfold BE
   by_cases hb:s.testBit x=true
   ·rw [if_pos hb,if_pos hb,ih (x+1) f _ (by omega) (by omega) (by simp;omega)]
    simp
   ·rw [if_neg hb,if_neg hb]
    exact ih (x+1) f A (by omega) (by omega) (by omega)
theorem And (d) (r) (h:D8 d=some r):∃N,Gn N d=some r:=by
 obtain ⟨s,_⟩:=d
 unfold D8 at h
 split at h
 ·rename_i hc
  simp only [AGc,decide_eq_true_eq] at hc
  have h:=AGg h
  subst h
  refine ⟨20,?_⟩
  unfold Gn
  have:=As3 20 s.toNat (by omega) 8 0 20 [] (by omega) (by omega) (by simp)
  rw [show ((s.toNat:Nat):Int)=s by omega] at this
  simp only [Int.natCast_zero,List.nil_append] at this
  simp only [this,Option.bind_some]
 ·cases h
open Go.Proofs
theorem Aja {n:Nat} {ms:List Nat} (hok:okN n ms) (hn:n<=8):JS (toI ms)=true:=by
 unfold JS
 simp only [Ha,hok.1,AGc,decide_eq_true_eq,List.all_eq_true]
 refine ⟨hn,fun m hm => ?_⟩
 unfold toI at hm
 obtain ⟨x,hx,rfl⟩:=List.mem_map.1 hm
 obtain ⟨i,hi,rfl⟩:=List.getElem_of_mem hx
 have:=hok.2 i
 simp only [AGm,AGn hi,Option.getD_some] at this
 omega
theorem Ui {t:Tt} (ht:AV t=true) {c:Int} (hc:0<=c) :
  t.1.1=(t.1.1.toNat:Int)/\0<t.1.1.toNat/\t.1.1.toNat<=8/\(t.2.1 != 0)=true/\Af (c.tmod t.2.1) (Bt t).length=true /\
  at_ AA (Bt t) (c.tmod t.2.1).toNat=(toI (Er t.1.1.toNat (Bv t (c.tmod t.2.1))),())/\(Bv t (c.tmod t.2.1)).all (BD (t.1.1.toNat:Int))=true:=by
 obtain ⟨g1,g2,g3,g4⟩:=EN ht
 have g3:=AX.1 g3
 have hn:=DZ (n:=t.1.1) (l:=t.1.2.1) (u:=t.1.2.2) g1
 obtain ⟨hE,hR⟩:=Dj (n:=t.1.1) (l:=t.1.2.1) (u:=t.1.2.2) g1
 have hN:t.1.1=(t.1.1.toNat:Int):=by omega
 rw [hN] at hE
 obtain ⟨m1,m2⟩:=WL (c:=c) (p:=t.2.1) (by omega) (by omega)
 obtain ⟨o1,o2⟩:=Kj hE hR (c.tmod t.2.1)
 have hp:(t.2.1 != 0)=true:=by simp;omega
 have hlen:(Bt t).length=t.2.1.toNat:=by simp [Bt]
 refine ⟨hN,by omega,by omega,hp,?_,?_,o1⟩
 ·rw [hlen]
  unfold Af
  simp
  omega
 ·have hlt:(c.tmod t.2.1).toNat<(Bt t).length:=by rw [hlen];omega
  rw [AM (e:=AA) hlt]
  simp only [Bt,List.get_eq_getElem,List.getElem_map,List.getElem_range]
  rw [show (((c.tmod t.2.1).toNat:Nat):Int)=c.tmod t.2.1 by omega]
theorem Aj7 (g:Gr) (x:Int) (u:Unit) (hg:0<g.1) (h8:g.1<=8):Jt (g,x,u)=(inB 0 (g.1-1) x,()):=by
 unfold Jt
 have hw:IntKind.wrap .i64 (g.1-1)=g.1-1:=Bj _ (by omega) (by omega)
 simp only [hw,Gg]
open Go.Proofs
theorem Alr (t:Tt) (x y c:Int) (w:Unit) (ho:okT t=true):TL 0 (t,c,[x,y],w)=some (JA t x y&&inB 0 1000 c,()):=by
 unfold TL JA
 simp only [U5 t _ ho,Option.bind_some,L1]
 cases ht:AV t with
 | false=>rfl
 | true=>
  obtain ⟨n1,n2,n3,n4,n5,n6,n7⟩:=Ui ht (Int.le_refl 0)
  have hw:IntKind.wrap .i64 (t.1.1-1)=t.1.1-1:=Bj _ (by omega) (by omega)
  have:okL [x,y]=true:=Fp (by simp)
  cases hc:inB 0 1000 c with
  | false=>cases inB 0 (t.1.1-1) x<;>cases inB 0 (t.1.1-1) y<;>rfl
  | true=>simp only [hw,CO,this,if_true,Option.bind_some,List.all_cons,List.all_nil,Bool.and_true,Bool.true_and]
theorem MC {t:Tt} {x y:Int} (h:JA t x y=true):AV t=true/\x=(x.toNat:Int)/\y=(y.toNat:Int)/\x.toNat<t.1.1.toNat/\y.toNat<t.1.1.toNat:=by
 unfold JA at h
 simp only [AGc] at h
 obtain ⟨⟨h1,h2⟩,h3⟩:=h
 obtain ⟨n1,n2,n3,n4,n5,n6,n7⟩:=Ui h1 (Int.le_refl 0)
 have h2:=AX.1 h2
 have h3:=AX.1 h3
 exact ⟨h1,by omega,by omega,by omega,by omega⟩
theorem Fz {t:Tt} (ht:AV t=true) (ho:okT t=true):Co (t,())=some (Bt t,()):=by
 unfold Co
 rw [if_pos (by rw [ht,ho];rfl)]
open Go.Proofs
theorem Axl (g:Gr) (n:Nat) (hg:g.1=(n:Int)) (hn:n<=8) (ho:okL g.2.1=true) (z:Int):IG 0 (g,z,())=some (Ag3 n g.2.1 z,()):=by
 first
  | unfold IG DD Ki
  | unfold IG DD Axb
 have a2:Aat (BE (fun y=>DR g.2.1 z (y:Int)) n 0)=true:=by
  have:=Kn (p:=fun y=>DR g.2.1 z (y:Int)) (k:=n) (x:=0)
  exact decide_eq_true (by omega)
 have a3:(okL g.2.1&&decide (0<=(n:Int))&&decide ((n:Int)<=8))=true:=by
  rw [ho]
  simp
  omega
 simp only [hg,a3,if_true,Int.toNat_natCast,Option.bind_some,a2,Ag3]
theorem Aoe {t:Tt} (ht:AV t=true) (ho:okT t=true) {c:Int} (h0:0<=c) (h1:c<=5000):GA (t,c,())=some ((t.1.1,Bv t (c.tmod t.2.1),()),()):=by
 unfold GA
 have e1:decide (0<=c)=true:=by simp;omega
 have e2:decide (c<=5000)=true:=by simp;omega
 rw [if_pos (by simp only [ht,ho,e1,e2,Bool.and_self])]
theorem UX {t:Tt} (ho:okT t=true) (r:Int):okL (Bv t r)=true:=by
 have hlen:=Atw t.1.2.1 t.2.2.1 r
 have:=Ci (KY ho).1
 exact decide_eq_true (Nat.le_trans hlen this)
theorem Cr (n:Nat) (f:Nat->Nat->Int):(AO n f).length=n:=by simp [AO]
theorem SM {n c:Nat} (f:Nat->Nat->Int) (h:c<n):(AO n f)[c]? = some ((List.range n).map fun r=>f c r):=by
 unfold AO
 rw [List.getElem?_map,List.getElem?_range h]
 rfl
theorem YN {n r:Nat} (g:Nat->Int) (h:r<n):((List.range n).map g)[r]? = some (g r):=by
 rw [List.getElem?_map,List.getElem?_range h]
 rfl
theorem Bk {n c r:Nat} (f:Nat->Nat->Int) (hc:c<n) (hr:r<n):AS (AO n f) (c:Int) (r:Int)=f c r:=by
 unfold AS
 simp only [Int.toNat_natCast,AGm,SM f hc,Option.getD_some,YN _ hr]
theorem Fj {n:Nat} {f g:Nat->Nat->Int} (h:∀c r,c<n->r<n->f c r=g c r):AO n f=AO n g:=by
 unfold AO
 refine List.map_congr_left fun c hc=>List.map_congr_left fun r hr=>h c r (List.mem_range.1 hc) (List.mem_range.1 hr)
theorem EI {f g:Int->Int}:∀{l:List Int} {m:Int},(∀x∈l,f x=g x)->AW f l m=AW g l m:=by
 intro l
 induction l with
 | nil=>intro m _;rfl
 | cons b bs ih=>
  intro m h
  simp only [AW,h b (by simp)]
  rw [ih fun x hx=>h x (by simp [hx])]
theorem B8 (f:Int->Int):∀(l:List Int) (m:Int),(∃x∈l,f x<0)/\AW f l m = -1\/(∀x∈l,0<=f x/\f x<=AW f l m)/\m<=AW f l m/\(AW f l m=m \/ ∃x∈l,AW f l m=f x):=by
 intro l
 induction l with
 | nil=>intro m;exact .inr ⟨fun x hx=>by simp at hx,Int.le_refl _,.inl rfl⟩
 | cons b bs ih=>
  intro m
  simp only [AW]
  by_cases hb:f b<0
  ·rw [if_pos hb]
   exact .inl ⟨⟨b,by simp,hb⟩,rfl⟩
  ·rw [if_neg hb]
   rcases ih (if m<f b then f b else m) with ⟨⟨x,hx,h1⟩,h2⟩ | ⟨h1,h2,h3⟩
   ·exact .inl ⟨⟨x,by simp [hx],h1⟩,h2⟩
   ·have hge:m<=(if m<f b then f b else m)/\f b<=(if m<f b then f b else m):=by split<;>omega
    refine .inr ⟨fun x hx => ?_,by omega,?_⟩
    ·rcases List.mem_cons.1 hx with rfl | hx
     ·omega
     ·exact h1 x hx
    ·rcases h3 with h3 | ⟨x,hx,h3⟩
     ·by_cases hm:m<f b
      ·rw [if_pos hm] at h3 |-
       exact .inr ⟨b,by simp,h3⟩
      ·rw [if_neg hm] at h3 |-
       exact .inl h3
     ·exact .inr ⟨x,by simp [hx],h3⟩
def EZ (n:Nat) (ball:Int->List Int):Prop := ∀x:Nat,x<n -> ∀z∈ball (x:Int),∃y:Nat,y<n/\z=(y:Int)
structure InvT (n:Nat) (ball:Int->List Int) (t:Nat) (f:Nat->Nat->Int):Prop where
 pos:1<=t
 low:∀c r,c<n->r<n -> -1<=f c r
 high:∀c r,c<n->r<n->f c r<(t:Int)
 none:∀c r,c<n->r<n->f c r<0 -> ∀b∈ball (c:Int),¬(0<=Aw ball (AO n f) b (r:Int)/\Aw ball (AO n f) b (r:Int)<(t:Int)-1)
theorem Aah {n:Nat} {ball:Int->List Int} (hb:EZ n ball) {t:Nat} {f:Nat->Nat->Int} (hI:InvT n ball t f) {c r:Nat} (hc:c<n) (hr:r<n) {b:Int} (hbm:b∈ball (c:Int)):Aw ball (AO n f) b (r:Int)<=(t:Int)-1:=by
 have hp:=hI.pos
 unfold Aw
 split
 ·omega
 ·obtain ⟨b',hb1,rfl⟩:=hb c hc b hbm
  rcases B8 (AS (AO n f) (b':Int)) (ball (r:Int)) 0 with ⟨_,h⟩ | ⟨_,_,h | ⟨x,hx,h⟩⟩
  ·omega
  ·omega
  ·obtain ⟨y,hy,rfl⟩:=hb r hr x hx
   rw [Bk f hb1 hy] at h
   have:=hI.high b' y hb1 hy
   omega
theorem InvT.next {n:Nat} {ball:Int->List Int} (hb:EZ n ball) {t:Nat} {f:Nat->Nat->Int} (hI:InvT n ball t f):InvT n ball (t+1) (ED n ball (t:Int) f):=by
 have hp:=hI.pos
 refine ⟨by omega,fun c r hc hr => ?_,fun c r hc hr => ?_,fun c r hc hr hf b hbm => ?_⟩
 ·unfold ED
  split
  ·omega
  ·exact hI.low c r hc hr
 ·unfold ED
  split
  ·omega
  ·have:=hI.high c r hc hr;omega
 ·rintro ⟨h1,h2⟩
  have hst:ED n ball (t:Int) f c r=f c r/\JF n ball f c r=false:=by
   unfold ED at hf |-
   by_cases hcan:JF n ball f c r=true
   ·rw [if_pos hcan] at hf;omega
   ·rw [if_neg hcan]
    exact ⟨rfl,by simpa using hcan⟩
  rw [hst.1] at hf
  have hno:∀b∈ball (c:Int),¬0<=Aw ball (AO n f) b (r:Int):=by
   intro b hbm h
   have:=hst.2
   unfold JF at this
   simp only [hf,decide_true,Bool.true_and] at this
   have ht:((ball (c:Int)).any fun b=>decide (0<=Aw ball (AO n f) b (r:Int)))=true:=List.any_eq_true.2 ⟨b,hbm,decide_eq_true h⟩
   rw [ht] at this
   cases this
  refine hno b hbm ?_
  unfold Aw at h1 h2 |-
  by_cases hbr:b=(r:Int)
  ·rw [if_pos hbr]
   exact Int.le_refl _
  ·rw [if_neg hbr] at h1 h2 |-
   obtain ⟨b',hb1,rfl⟩:=hb c hc b hbm
   rcases B8 (AS (AO n (ED n ball (t:Int) f)) (b':Int)) (ball (r:Int)) 0 with ⟨_,h⟩ | ⟨hall,_,_⟩
   ·omega
   ·have e:AW (AS (AO n f) (b':Int)) (ball (r:Int)) 0=AW (AS (AO n (ED n ball (t:Int) f)) (b':Int)) (ball (r:Int)) 0:=by
     refine EI fun x hx => ?_
     obtain ⟨y,hy,rfl⟩:=hb r hr x hx
     have:=hall (y:Int) hx
     rw [Bk _ hb1 hy] at this
     rw [Bk _ hb1 hy,Bk _ hb1 hy]
     by_cases hcan:JF n ball f b' y=true
     ·have e:ED n ball (t:Int) f b' y=(t:Int):=if_pos hcan
      rw [e] at this
      omega
     ·exact (if_neg hcan).symm
    rw [e]
    exact h1
theorem InvT.start (n:Nat) (ball:Int->List Int):InvT n ball 1 Br:=by
 refine ⟨AGf _,fun c r _ _ => ?_,fun c r _ _ => ?_,fun c r _ _ _ b _ h => ?_⟩
 ·unfold Br;split<;>omega
 ·unfold Br;split<;>omega
 ·omega
def LC (n:Nat) (f:Nat->Nat->Int):Nat:=(List.range (n*n)).countP fun i=>decide (f (i / n) (i % n)<0)
theorem QY {α:Type} {p q:α->Bool}:∀{l:List α},(∀x∈l,q x=true->p x=true)->l.countP q<=l.countP p/\((∃x∈l,p x=true/\q x=false)->l.countP q<l.countP p):=by
 intro l
 induction l with
 | nil=>intro _;exact ⟨AGf _,fun ⟨x,hx,_⟩=>by simp at hx⟩
 | cons a l ih=>
  intro h
  obtain ⟨h1,h2⟩:=ih fun x hx=>h x (by simp [hx])
  have ha:=h a (by simp)
  simp only [List.countP_cons]
  cases hq:q a with
  | true=>
   rw [ha hq]
   refine ⟨by simp;exact h1,fun ⟨x,hx,h3,h4⟩ => ?_⟩
   rcases List.mem_cons.1 hx with rfl | hx
   ·rw [hq] at h4;cases h4
   ·have:=h2 ⟨x,hx,h3,h4⟩
    simp
    exact this
  | false=>
   cases hp:p a with
   | true=>refine ⟨by simp;omega,fun _=>by simp;omega⟩
   | false=>
    refine ⟨by simpa using h1,fun ⟨x,hx,h3,h4⟩ => ?_⟩
    rcases List.mem_cons.1 hx with rfl | hx
    ·rw [hp] at h3;cases h3
    ·simpa using h2 ⟨x,hx,h3,h4⟩
theorem Aj3 {n:Nat} {p:Nat->Nat->Bool}:UD n p=true ↔ ∃c r,c<n/\r<n/\p c r=true:=by
 unfold UD
 simp only [List.any_eq_true,List.mem_range]
 constructor
 ·rintro ⟨c,hc,r,hr,h⟩
  exact ⟨c,r,hc,hr,h⟩
 ·rintro ⟨c,r,hc,hr,h⟩
  exact ⟨c,hc,r,hr,h⟩
theorem Vo {n:Nat} {ball:Int->List Int} {t:Int} (ht:0<=t) {f:Nat->Nat->Int} (h:UD n (JF n ball f)=true):LC n (ED n ball t f)<LC n f:=by
 obtain ⟨c,r,hc,hr,hcan⟩:=Aj3.1 h
 have hsub:=QY (p:=fun i=>decide (f (i / n) (i % n)<0)) (q:=fun i=>decide (ED n ball t f (i / n) (i % n)<0)) (l:=List.range (n*n)) (fun i _ hi=>by
  have hi:=of_decide_eq_true hi
  unfold ED at hi
  split at hi
  ·omega
  ·exact decide_eq_true hi)
 refine hsub.2 ⟨c*n+r,?_,?_,?_⟩
 ·rw [List.mem_range]
  have:(c+1)*n<=n*n:=Nat.mul_le_mul_right _ hc
  rw [Nat.succ_mul] at this
  omega
 all_goals
  have e1:(c*n+r) / n=c:=by
   rw [Nat.mul_comm,Nat.mul_add_div (by omega),Nat.div_eq_of_lt hr]
   omega
  have e2:(c*n+r) % n=r:=by
   rw [Nat.mul_comm,Nat.mul_add_mod,Nat.mod_eq_of_lt hr]
  rw [e1,e2]
 ·unfold JF at hcan
  simp only [AGc] at hcan
  exact hcan.1
 ·unfold ED
  rw [if_pos hcan]
  simpa using ht
theorem Wd (n:Nat) (f:Nat->Nat->Int):LC n f<=n*n:=by
 unfold LC
 have:=List.countP_le_length (p:=fun i=>decide (f (i / n) (i % n)<0)) (l:=List.range (n*n))
 simpa using this
open Go.Proofs
theorem Cj {n:Nat} {T:Tab} (h:sqL n T=true):T.length=n /\ ∀c,c<n->(at_ Ai T c).length=n:=by
 unfold sqL at h
 simp only [AGc,decide_eq_true_eq,List.all_eq_true] at h
 refine ⟨h.1,fun c hc => ?_⟩
 have hlt:c<T.length:=by omega
 have e:at_ Ai T c=T[c]:=AM (e:=Ai) hlt
 rw [e]
 exact h.2 _ (AGk hlt)
theorem WY {n:Nat} {T:Tab} (h:sqL n T=true) {c r:Nat} (hc:c<n) (hr:r<n):at_ I (at_ Ai T c) r=AS T (c:Int) (r:Int):=by
 obtain ⟨h1,h2⟩:=Cj h
 have hlt:c<T.length:=by omega
 have e:at_ Ai T c=T[c]:=AM (e:=Ai) hlt
 have h3:=h2 c hc
 rw [e] at h3 |-
 have e2:at_ I T[c] r=T[c][r]:=AM (e:=I) (by omega)
 rw [e2]
 unfold AS
 simp only [Int.toNat_natCast,AGm,AGn hlt,Option.getD_some]
 rw [AGn (by omega)]
 rfl
theorem MU (n:Nat) (f:Nat->Nat->Int):sqL n (AO n f)=true:=by
 unfold sqL AO
 simp
theorem Ahy (m v:Int):Hc (m,v,())=((if m<v then v else m),()):=by
 unfold Hc
 by_cases h:m>v
 ·have h2:¬m<v:=by omega
  simp [h,h2]
 ·simp only [h,decide_false,AGb,if_false]
  by_cases h2:m<v
  ·rw [if_pos h2]
  ·have e:m=v:=by omega
   rw [if_neg h2,e]
theorem Vg {g:Gr} (h:grB g=true):okL g.2.1=true/\g.1=(g.1.toNat:Int)/\g.1.toNat<=8/\g.2.1.all (BD (g.1.toNat:Int))=true:=by
 unfold grB at h
 simp only [AGc,decide_eq_true_eq] at h
 obtain ⟨⟨⟨h1,h2⟩,h3⟩,h4⟩:=h
 have e:g.1=(g.1.toNat:Int):=by omega
 exact ⟨h1,e,by omega,by rw [<- e];exact h4⟩
theorem Kt (n:Nat) (es:List E):EZ n (Bx n es):=fun x _ z hz=>Z3 z hz
theorem OO (n:Nat) (es:List E) (x:Int):(Bx n es x).length<=n:=Kn
theorem Ai7 {g:Gr} (h:grB g=true) {x:Nat} (hx:x<g.1.toNat):IG 0 (g,(x:Int),())=some (Bx g.1.toNat g.2.1 (x:Int),()):=by
 obtain ⟨h1,h2,h3,h4⟩:=Vg h
 rw [Axl g g.1.toNat h2 h3 h1,Ajc hx]
 show some (BE _ _ _,())=some (BE _ _ _,())
 congr 2
 exact GM fun y _ _=>by
  congr 1
  exact decide_eq_decide.2 (by omega)
theorem Dw {i n:Nat} (h:i<n) (hn:n<=8):IntKind.wrap .i64 ((i:Int)+1)=((i+1:Nat):Int):=by
 rw [Bj _ (by omega) (by omega)]
 rfl
theorem map_set (n r:Nat) (g:Nat->Int) (v:Int):((List.range n).map g).set r v=(List.range n).map fun j=>if j=r then v else g j:=by
 apply List.ext_getElem
 ·simp
 ·intro i h1 h2
  simp only [List.length_set,List.length_map,List.length_range] at h1
  rw [List.getElem_set]
  by_cases e:r=i
  ·subst e;simp
  ·have e':¬i=r:=fun h=>e h.symm
   simp [e,e']
open Go.Proofs
theorem CR {l:List Int} (h:Eo l=true):l=toI (DS l)/\okN l.length (DS l)/\l.length<=8 /\ ∀x,x<l.length->(DS l).getD x 0<2 ^ l.length:=by
 unfold Eo at h
 simp only [AGc,List.all_eq_true,decide_eq_true_eq] at h
 obtain ⟨h1,h2⟩:=h
 obtain ⟨e,hm,h8⟩:=TK h1
 refine ⟨e,hm,h8,fun x hx => ?_⟩
 have hx':x<(DS l).length:=by rw [hm.1];exact hx
 have h3:=h2 l[x] (AGk hx)
 simp only [AGm,AGn hx',Option.getD_some]
 have e2:(DS l)[x]=l[x].toNat:=by simp [DS]
 rw [e2]
 have:0<2 ^ l.length:=Nat.two_pow_pos _
 omega
theorem Az7 {x n:Nat} (h:x<n):2 ^ x<2 ^ n:=Nat.pow_lt_pow_right (by omega) h
theorem Azu {l:List Int} (h:Eo l=true) {x:Nat} (hx:x<l.length):(DS l).getD x 0|||2 ^ x<256/\(DS l).getD x 0|||2 ^ x<2 ^ l.length:=by
 obtain ⟨e,hm,h8,hb⟩:=CR h
 exact ⟨Nat.or_lt_two_pow (n:=8) (hm.2 x) (Ey (by omega)),Nat.or_lt_two_pow (hb x hx) (Az7 hx)⟩
theorem MQ {l:List Int} (h:Eo l=true):EZ l.length (AH l):=by
 intro x hx z hz
 unfold AH at hz
 obtain ⟨y,_,_,h3,h4⟩:=GQ.1 hz
 refine ⟨y,?_,h4⟩
 rcases Nat.lt_or_ge y l.length with h5 | h5
 ·exact h5
 ·rw [Int.toNat_natCast] at h3
  rw [Nat.testBit_lt_two_pow (Nat.lt_of_lt_of_le (Azu h hx).2 (Nat.pow_le_pow_right (by omega) h5))] at h3
  cases h3
theorem D1 (l:List Int) (x:Int):(AH l x).length<=8:=Kn
theorem MN {l:List Int} (h:Eo l=true) (u:Unit) {x:Nat} (hx:x<l.length):IS 0 ((l,u),(x:Int),())=some ((((DS l).getD x 0|||2 ^ x:Nat):Int),()):=by
 obtain ⟨e,hm,h8,hb⟩:=CR h
 unfold IS
 have i1:Af (x:Int) l.length=true:=Ad hx
 have e1:at_ I l x=(((DS l).getD x 0:Nat):Int):=by
  have:=VI (DS l) x
  rw [<- e] at this
  exact this
 simp only [i1,if_true,CP,Int.toNat_natCast,e1,Nz (show x<8 by omega),MZ (hm.2 x) (Ey (show x<8 by omega))]
theorem Tb {l:List Int} (h:Eo l=true) {x:Nat} (hx:x<l.length):D8 ((((DS l).getD x 0|||2 ^ x:Nat):Int),())=some (AH l (x:Int),()):=by
 have hm:=(Azu h hx).1
 unfold D8
 have b2:decide ((((DS l).getD x 0|||2 ^ x:Nat):Int)<256)=true:=by
  simp only [decide_eq_true_eq]
  omega
 simp only [CP,b2,Bool.and_self,if_true,Int.toNat_natCast]
 rfl
theorem Dk {n:Nat} {x:Int} (h:inB 0 ((n:Int)-1) x=true):x=(x.toNat:Int)/\x.toNat<n:=by
 have:=AX.1 h
 omega
theorem Aui (N n:Nat) (row:List Int) (hrow:row.length=n) (ball:List Int) (hb:∀z∈ball,∃y:Nat,y<n/\z=(y:Int)) (hl:ball.length<=1000):∀(k i f:Nat) (m:Int),i+k=ball.length->k<f ->
  Gw N f (row,m,ball,(ball.length:Int),(i:Int),())=some (.inl (AW (fun z=>row.getD z.toNat 0) (ball.drop i) m,()))\/Gw N f (row,m,ball,(ball.length:Int),(i:Int),())=some (.inr (.inl (AW (fun z=>row.getD z.toNat 0) (ball.drop i) m,()))):=by
 have hmx:ball.length<=maxLen:=by unfold maxLen;omega
 intro k
 induction k with
 | zero=>
  intro i f m h1 h2
  obtain ⟨f,rfl⟩:∃m,f=m+1:=⟨f-1,by omega⟩
  have e:i=ball.length:=by omega
  subst e
  rw [AGi (AGf _)]
  right
  simp [Gw,Ly,AW]
 | succ k ih=>
  intro i f m h1 h2
  obtain ⟨f,rfl⟩:∃m,f=m+1:=⟨f-1,by omega⟩
  have hi:i<ball.length:=by omega
  obtain ⟨y,hy,ey⟩:=hb ball[i] (AGk hi)
  have e:at_ I ball i=(y:Int):=(AM (e:=I) hi).trans ey
  have i2:Af (y:Int) row.length=true:=Ad (by omega)
  have hy':y<row.length:=by omega
  have hv:at_ I row y=row.getD y 0:=by
   rw [AM (e:=I) hy']
   simp [AGm,hy']
  have hd:ball.drop i=(y:Int)::ball.drop (i+1):=by rw [AGj hi,ey]
  have step:Gw N (f+1) (row,m,ball,(ball.length:Int),(i:Int),())=if row.getD y 0<0 then some (.inl (-1,())) else Gw N f (row,(if m<row.getD y 0 then row.getD y 0 else m),ball,(ball.length:Int),((i+1:Nat):Int),()):=by
   show Ly N (Gw N f) (row,m,ball,(ball.length:Int),(i:Int),())=_
   unfold Ly
   simp only [Az hi,if_true,Ad hi,Int.toNat_natCast,e,i2,hv,A1 hi hmx]
   by_cases h:row.getD y 0<0
   ·simp only [h,decide_true,if_true]
   ·simp only [h,decide_false,AGb,if_false]
  rw [step,hd]
  simp only [AW,Int.toNat_natCast]
  by_cases h:row.getD y 0<0
  ·rw [if_pos h,if_pos h]
   exact .inl rfl
  ·rw [if_neg h,if_neg h]
   exact ih (i+1) f _ (by omega) (by omega)
theorem UO (d) (r) (h:BG d=some r):∃N,VM N d=some r:=by
 obtain ⟨⟨l,u⟩,row,q,_⟩:=d
 unfold BG at h
 split at h
 ·rename_i hc
  simp only [AGc,decide_eq_true_eq] at hc
  obtain ⟨⟨hn,hrow⟩,hq⟩:=hc
  obtain ⟨q1,q2⟩:=Dk hq
  have h:=AGg h
  subst h
  refine ⟨20,?_⟩
  unfold VM
  have hbl:=D1 l (q.toNat:Int)
  have hc:=MN hn u q2
  have hs:=Tb hn q2
  have:=Aui 20 l.length row hrow (AH l (q.toNat:Int)) (MQ hn q.toNat q2) (by omega) (AH l (q.toNat:Int)).length 0 20 0 (by omega) (by omega)
  simp only [Int.natCast_zero,List.drop_zero] at this
  rw [<- q1] at hc hs this
  simp only [hc,Option.bind_some,hs]
  rcases this with h | h
  ·simp only [h,Option.bind_some]
  ·simp only [h,Option.bind_some]
 ·cases h
theorem Ai2 (n c:Nat) (hc:c<n):(List.replicate n (-1:Int)).set c 0=(List.range n).map (Br c):=by
 apply List.ext_getElem
 ·simp
 ·intro i h1 h2
  rw [List.getElem_set]
  simp only [List.getElem_replicate,List.getElem_map,List.getElem_range,Br]
theorem Aw5 (pre:Tab) (x:List Int) (post:Tab):at_ Ai (pre++x::post) pre.length=x:=by
 rw [AM (e:=Ai) (by simp)]
 simp
theorem Arm (pre:Tab) (x y:List Int) (post:Tab):List.set (pre++x::post) pre.length y=pre++y::post:=by simp
def LX (p:Nat->Nat->Bool) (n:Nat):Nat->Nat->List E
 | 0,_=>[]
 | k+1,c=>Ho p c n 0++LX p n k (c+1)
theorem Alv {p:Nat->Nat->Bool} {x:Nat}:∀{m y:Nat} {e:E},e∈Ho p x m y ↔ ∃z:Nat,y<=z/\z<y+m/\p x z=true/\e=((x:Int),(z:Int),()):=by
 intro m
 induction m with
 | zero=>intro y e;simp only [Ho,List.not_mem_nil,false_iff];rintro ⟨z,h1,h2,_⟩;omega
 | succ m ih=>
  intro y e
  unfold Ho
  by_cases h:p x y=true
  ·rw [if_pos h,List.mem_cons,ih]
   constructor
   ·rintro (rfl | ⟨z,h1,h2,h3⟩)
    ·exact ⟨y,AGf _,by omega,h,rfl⟩
    ·exact ⟨z,by omega,by omega,h3⟩
   ·rintro ⟨z,h1,h2,h3,h4⟩
    by_cases ez:z=y
    ·subst ez;exact .inl h4
    ·exact .inr ⟨z,by omega,by omega,h3,h4⟩
  ·rw [if_neg h,ih]
   constructor
   ·rintro ⟨z,h1,h2,h3⟩
    exact ⟨z,by omega,by omega,h3⟩
   ·rintro ⟨z,h1,h2,h3,h4⟩
    by_cases ez:z=y
    ·subst ez;exact absurd h3 h
    ·exact ⟨z,by omega,by omega,h3,h4⟩
theorem JN {p:Nat->Nat->Bool} {n:Nat}:∀{k c:Nat} {e:E},e∈LX p n k c ↔ ∃x z:Nat,c<=x/\x<c+k/\z<n/\p x z=true/\e=((x:Int),(z:Int),()):=by
 intro k
 induction k with
 | zero=>intro c e;simp only [LX,List.not_mem_nil,false_iff];rintro ⟨x,z,h1,h2,_⟩;omega
 | succ k ih=>
  intro c e
  simp only [LX,List.mem_append,Alv,ih]
  constructor
  ·rintro (⟨z,h1,h2,h3,h4⟩ | ⟨x,z,h1,h2,h3,h4,h5⟩)
   ·exact ⟨c,z,AGf _,by omega,by omega,h3,h4⟩
   ·exact ⟨x,z,by omega,by omega,h3,h4,h5⟩
  ·rintro ⟨x,z,h1,h2,h3,h4,h5⟩
   by_cases ex:x=c
   ·subst ex;exact .inl ⟨z,by omega,by omega,h4,h5⟩
   ·exact .inr ⟨x,z,by omega,by omega,h3,h4,h5⟩
def isP (c r:Nat) (e:E):Bool:=e.1==(c:Int)&&e.2.1==(r:Int)
theorem As9 {n:Nat} {g:Nat->Nat->Int} {x z:Nat} (hx:x<n) (hz:z<n) (t:Int):List.set (AO n g) x (List.set (at_ Ai (AO n g) x) z t)=AO n fun c r=>if c=x/\r=z then t else g c r:=by
 have hl:x<(AO n g).length:=by rw [Cr];exact hx
 have e:at_ Ai (AO n g) x=(AO n g)[x]:=AM (e:=Ai) hl
 have hrow:=SM g hx
 rw [AGn hl] at hrow
 rw [e,AGg hrow,map_set]
 apply List.ext_getElem
 ·simp [AO]
 ·intro i h1 h2
  rw [List.getElem_set]
  by_cases ei:x=i
  ·subst ei
   simp only [if_true,AO,List.getElem_map,List.getElem_range,true_and]
  ·have ei':¬i=x:=fun h=>ei h.symm
   simp only [ei,if_false,AO,List.getElem_map,List.getElem_range,ei',false_and]
theorem Au1 {p:Nat->Nat->Bool} {n:Nat}:∀{k c:Nat},(LX p n k c).length<=n*k:=by
 intro k
 induction k with
 | zero=>intro c;simp [LX]
 | succ k ih=>
  intro c
  have h1:=Ue (p:=p) (x:=c) (m:=n) (y:=0)
  have h2:=ih (c:=c+1)
  simp only [LX,List.length_append,Nat.mul_succ]
  omega
theorem T9 {n:Nat} (hn:n<=8) {es:List E} (h:es.all (BD (n:Int))=true):Eo (toI (Er n es))=true/\(toI (Er n es)).length=n:=by
 have hok:=SF hn h
 have hl:(toI (Er n es)).length=n:=by rw [Ha,hok.1]
 refine ⟨?_,hl⟩
 unfold Eo
 rw [Aja hok hn,Bool.true_and,List.all_eq_true,hl]
 intro m hm
 unfold toI at hm
 obtain ⟨a,ha,rfl⟩:=List.mem_map.1 hm
 obtain ⟨i,hi,rfl⟩:=List.getElem_of_mem ha
 have hlt:(Er n es)[i]<2 ^ n:=by
  refine Nat.lt_pow_two_of_testBit _ fun j hj => ?_
  have hb:=Kr hn h i j
  unfold Rk at hb
  simp only [AGm,AGn hi,Option.getD_some] at hb
  rw [hb,SQ es h]
  cases hnr:DR es (i:Int) (j:Int) with
  | false=>rfl
  | true=>have:=XE h hnr;omega
 simp only [decide_eq_true_eq]
 omega
theorem Pd {n:Nat} (hn:n<=8) {es:List E} (h:es.all (BD (n:Int))=true) {x:Nat} (hx:x<n):AH (toI (Er n es)) (x:Int)=Bx n es (x:Int):=by
 unfold AH Bx
 have hok:=SF hn h
 have hM:isM n ((Er n es).getD x 0|||2 ^ x) (fun y=>DR es (x:Int) (y:Int)||decide ((y:Int)=(x:Int))):=by
  refine ⟨Nat.or_lt_two_pow (n:=8) (hok.2 x) (Ey (by omega)),fun w => ?_⟩
  rw [Nat.testBit_or,Nat.testBit_two_pow]
  have hb:=Kr hn h x w
  unfold Rk at hb
  rw [hb,SQ es h]
  apply Bool.eq_iff_iff.2
  simp only [Bool.or_eq_true,AGc,decide_eq_true_eq]
  constructor
  ·rintro (h' | h')
   ·exact ⟨XE h h',.inl h'⟩
   ·subst h'
    exact ⟨hx,.inr rfl⟩
  ·rintro ⟨h1,h2 | h2⟩
   ·exact .inl h2
   ·exact .inr (by omega)
 simp only [YR,Int.toNat_natCast]
 exact U1 hn hM
open Go.Proofs
theorem Aop {H O γ α:Type} {L:Nat->H->Option O} {r:(H->Option O)->H->Option O} (hL:∀k d,L (k+1) d=r (L k) d) (l:List γ) {mk:Nat->List α->H} {f:γ->List α} (hf1:∀x,(f x).length<=1) {o:List α->O}
  (hr:∀back i (hi:i<l.length) A,A.length<=i->r back (mk i A)=back (mk (i+1) (A++f l[i]))) (hf:∀back A,A.length<=l.length->r back (mk l.length A)=some (o A)) :
  ∀k,l.length<=k->L (k+1) (mk 0 [])=some (o (l.flatMap f)):=by
 have key:∀k i A,i<=l.length->l.length<=i+k->A.length<=i->L (k+1) (mk i A)=some (o (A++(l.drop i).flatMap f)):=by
  intro k
  induction k with
  | zero=>
   intro i A h1 h2 h3
   have e:i=l.length:=by omega
   subst e
   rw [hL,hf _ _ h3,AGi (AGf _)]
   simp
  | succ k ih=>
   intro i A h1 h2 h3
   by_cases h:i<l.length
   ·have hh:=hf1 l[i]
    rw [hL,hr _ i h A h3,ih (i+1) _ (by omega) (by omega) (by simp;omega),AGj h,List.flatMap_cons,List.append_assoc]
   ·have e:i=l.length:=by omega
    subst e
    rw [hL,hf _ _ h3,AGi (AGf _)]
    simp
 intro k h
 have:=key k 0 [] (Nat.zero_le _) (by omega) (AGf _)
 simpa using this
theorem An0 (p:Nat->Bool):∀k x,((List.range' x k).flatMap fun y=>if p y=true then [(y:Int)] else [])=BE p k x:=by
 intro k
 induction k with
 | zero=>intro x;rfl
 | succ k ih=>
  intro x
  rw [List.range'_succ,List.flatMap_cons,ih]
  show _=if p x=true then (x:Int)::BE p k (x+1) else BE p k (x+1)
  split<;>simp
theorem Awd {α:Type} {c:Prop} [Decidable c] {x:α}:(if c then [x] else []).length<=1:=by split<;>simp
theorem Apv {n:Int} (h:0<=n):∃a:Nat,n=(a:Int):=⟨n.toNat,by omega⟩
theorem Ae4 (d) (r) (h:Is d=some r):∃N,R8 N d=some r:=by
 obtain ⟨n,m,_⟩:=d
 unfold Is at h
 split at h
 ·rename_i hc
  simp only [AGc] at hc
  obtain ⟨hn,hm⟩:=hc
  have hn:=AX.1 hn
  have hm:=AX.1 hm
  obtain ⟨a,rfl⟩:=Apv hn.1
  obtain ⟨b,rfl⟩:=Apv hm.1
  have h:=AGg h
  subst h
  refine ⟨20,?_⟩
  unfold R8
  have:=Aop (L:=Na 20) (r:=Jj 20) (fun _ _=>rfl) (List.range' 0 a) (mk:=fun i A=>((a:Int),(b:Int),A,(i:Int),())) (f:=fun y=>if b.testBit y=true then [(y:Int)] else []) (o:=fun A=>.inl (A,())) (fun x=>Awd) (by
    intro back i hi A hA
    simp only [List.length_range'] at hi
    unfold Jj
    have hle:decide (A.length+List.length [(i:Int)]<=lim)=true:=by unfold lim;simp;omega
    simp only [Az hi,if_true,CP,VV (show b<256 by omega) (show i<8 by omega),hle,Dw hi (by omega),List.getElem_range',Nat.one_mul,Nat.zero_add]
    by_cases hb:b.testBit i=true
    ·simp only [hb,if_true]
    ·simp only [hb,if_false,List.append_nil,AGb])
   (by
    intro back A hA
    unfold Jj
    simp only [List.length_range',AL,AGb,if_false]) 19 (by simp;omega)
  rw [An0] at this
  simp only [Int.natCast_zero] at this
  simp only [this,Option.bind_some,Int.toNat_natCast]
 ·cases h
theorem U2 (a b:E) (u:Unit):IA (a,b,u)=(Ch a b,()):=by
 unfold IA Ch
 by_cases h:a.1<b.1
 ·simp [h]
 ·by_cases h2:a.1=b.1
  ·simp [h2]
  ·simp [h,h2]
theorem Ass (e:E):∀l:List E,∃k,k<=l.length/\(∀j (hj:j<l.length),j<k->Ch l[j] e=true)/\(∀hk:k<l.length,Ch l[k] e=false)/\Agg e l=l.take k++[e]++l.drop k:=by
 intro l
 induction l with
 | nil=>exact ⟨0,AGf _,fun j hj=>absurd hj (by simp),fun hk=>absurd hk (by simp),rfl⟩
 | cons a l ih=>
  by_cases h:Ch a e=true
  ·obtain ⟨k,h1,h2,h3,h4⟩:=ih
   refine ⟨k+1,by simp;exact h1,fun j hj hjk => ?_,fun hk => ?_,?_⟩
   ·cases j with
    | zero=>exact h
    | succ j=>exact h2 j (by simpa using hj) (by omega)
   ·exact h3 (by simpa using hk)
   ·simp only [Agg,h,if_true,h4,List.take_succ_cons,List.drop_succ_cons,List.cons_append]
  ·refine ⟨0,Nat.zero_le _,fun j hj hjk=>absurd hjk (by omega),fun hk=>by simpa using h,?_⟩
   simp only [Agg,h,if_false,List.take_zero,List.drop_zero,List.nil_append,List.singleton_append,AGb]
theorem Akg (d) (r) (h:Hf d=some r):∃N,Gq N d=some r:=by
 obtain ⟨l,e,_⟩:=d
 unfold Hf at h
 split at h
 ·rename_i hc
  have hl:l.length<=1000:=of_decide_eq_true hc
  have hmx:l.length<=maxLen:=by unfold maxLen;omega
  have h:=AGg h
  subst h
  obtain ⟨k,h1,h2,h3,h4⟩:=Ass e l
  refine ⟨l.length+2,?_⟩
  have key:∀q i f,i+q=k->q<f->Fs (l.length+2) f (l,e,(i:Int),())=some (.inl (l,e,(k:Int),())):=by
   intro q
   induction q with
   | zero=>
    intro i f e1 e2
    obtain ⟨f,rfl⟩:∃m,f=m+1:=⟨f-1,by omega⟩
    have ei:i=k:=by omega
    subst ei
    show Du _ _ _=_
    unfold Du
    by_cases hi:i<l.length
    ·have ea:at_ Am l i=l[i]:=AM (e:=Am) hi
     simp only [Az hi,if_true,Ad hi,Int.toNat_natCast,ea,U2,h3 hi,AGb,if_false]
    ·have ei:i=l.length:=by omega
     subst ei
     simp only [AL,AGb,if_false]
   | succ q ih=>
    intro i f e1 e2
    obtain ⟨f,rfl⟩:∃m,f=m+1:=⟨f-1,by omega⟩
    have hi:i<l.length:=by omega
    show Du _ _ _=_
    unfold Du
    have ea:at_ Am l i=l[i]:=AM (e:=Am) hi
    simp only [Az hi,if_true,Ad hi,Int.toNat_natCast,ea,U2,h2 i hi (by omega),A1 hi hmx]
    exact ih (i+1) f (by omega) (by omega)
  have:=key k 0 (l.length+2) (by omega) (by omega)
  simp only [Int.natCast_zero] at this
  unfold Gq
  have c1:(decide (0<=(0:Int))&&decide ((0:Int)<=(k:Int))&&decide ((k:Int)<=(l.length:Int)))=true:=by simp;omega
  have s1:CY l 0 (k:Int)=l.take k:=by unfold CY;simp
  have s2:CY l (k:Int) (l.length:Int)=l.drop k:=by unfold CY;simp
  have c2:decide (List.length ([]:List E)+(l.take k).length<=lim)=true:=by unfold lim;simp;omega
  have c3:decide ((([]:List E)++l.take k).length+List.length [e]<=lim)=true:=by unfold lim;simp;omega
  have c4:(decide (0<=(k:Int))&&decide ((k:Int)<=(l.length:Int))&&decide ((l.length:Int)<=(l.length:Int)))=true:=by simp;omega
  have c5:decide ((([]:List E)++l.take k++[e]).length+(l.drop k).length<=lim)=true:=by unfold lim;simp;omega
  simp only [this,Option.bind_some,c1,if_true,s1,c2,c3,c4,s2,c5]
  rw [h4]
  simp
 ·cases h
theorem Afb (d) (r) (h:FE d=some r):∃N,XM N d=some r:=by
 obtain ⟨l,_⟩:=d
 unfold FE at h
 split at h
 ·rename_i hl
  have hl:l.length<=lim:=of_decide_eq_true hl
  have h:=AGg h
  subst h
  refine ⟨0,?_⟩
  unfold XM
  have h1:decide (List.length ([]:List Int)+l.length<=lim)=true:=by simp [hl]
  simp only [h1,if_true,List.nil_append]
  split
  ·rename_i h0
   have:l=[]:=List.length_eq_zero_iff.1 (of_decide_eq_true h0)
   subst this
   simp [Ab8]
  ·rfl
 ·cases h
open Go.Proofs
theorem Yf {α:Type} (p:α->Bool):∀l:List α,l.any p=true -> ∃j,∃hj:j<l.length,p l[j]=true/\(∀i (hi:i<l.length),i<j->p l[i]=false)/\l.find? p=some l[j]:=by
 intro l
 induction l with
 | nil=>intro h;cases h
 | cons a l ih=>
  intro h
  cases hp:p a with
  | true=>exact ⟨0,by simp,hp,fun i hi hij=>absurd hij (by omega),by simp [List.find?_cons,hp]⟩
  | false=>
   rw [List.any_cons,hp,Bool.false_or] at h
   obtain ⟨j,hj,h1,h2,h3⟩:=ih h
   refine ⟨j+1,by simp;exact hj,h1,fun i hi hij => ?_,?_⟩
   ·cases i with
    | zero=>exact hp
    | succ i=>exact h2 i (by simpa using hi) (by omega)
   ·rw [List.find?_cons,hp]
    exact h3
theorem Ane {n:Nat} (es:List E) {x:Nat} (hx:x<n):(x:Int)∈Bx n es (x:Int):=GQ.2 ⟨x,Nat.zero_le _,by omega,by simp,rfl⟩
open Go.Proofs
theorem Aot (n:Int) (es:List E) (v u:Unit) (l:List Int) (ho:okL es=true) (hl:okL l=true):T5 0 ((n,es,v),l,u)=some (BI (n,es,v)&&l.all (inB 0 (n-1)),()):=by
 unfold T5 C2 CO
 simp only [ho,hl,if_true,Option.bind_some]
 cases hg:BI (n,es,v) with
 | false=>rfl
 | true=>
  have:=DZ hg
  have hw:IntKind.wrap .i64 (n-1)=n-1:=Bj _ (by omega) (by omega)
  simp only [if_true,hw,Bool.true_and,Option.bind_some]
theorem YJ {n:Nat} {es:List E} {v u:Unit} (hg:BI ((n:Int),es,v)=true) (ho:okL es=true):Ft (((n:Int),es,v),u)=some ((toI (Er n es),()),()):=by
 obtain ⟨h0,h8⟩:=DZ hg
 obtain ⟨g1,g2⟩:=Dj hg
 unfold Ft
 have a1:(decide (0<=(n:Int))&&decide ((n:Int)<=8)&&okL es&&es.all (BD (n:Int)))=true:=by simp only [h0,h8,ho,g1,decide_true,Bool.and_self]
 simp only [a1,if_true,Int.toNat_natCast]
open Go.Proofs
def ACy (n:Nat) (ball:Int->List Int) (f:Nat->Nat->Int):Prop := ∀c r,c<n->r<n->1<=f c r -> ∃b∈ball (c:Int),0<=Aw ball (AO n f) b (r:Int)/\Aw ball (AO n f) b (r:Int)+1=f c r
theorem TM {n:Nat} {ball:Int->List Int} (hb:EZ n ball) {t:Nat} {f:Nat->Nat->Int} {b r:Nat} (hbn:b<n) (hr:r<n) (h:0<=Aw ball (AO n f) (b:Int) (r:Int)) :
  Aw ball (AO n (ED n ball (t:Int) f)) (b:Int) (r:Int)=Aw ball (AO n f) (b:Int) (r:Int):=by
 unfold Aw at h |-
 by_cases hbr:(b:Int)=(r:Int)
 ·rw [if_pos hbr,if_pos hbr]
 ·rw [if_neg hbr] at h |-
  rw [if_neg hbr]
  rcases B8 (AS (AO n f) (b:Int)) (ball (r:Int)) 0 with ⟨_,h'⟩ | ⟨hall,_,_⟩
  ·omega
  ·refine EI fun x hx => ?_
   obtain ⟨y,hy,rfl⟩:=hb r hr x hx
   have:=(hall (y:Int) hx).1
   rw [Bk _ hbn hy] at this
   rw [Bk _ hbn hy,Bk _ hbn hy]
   refine if_neg fun hcan => ?_
   unfold JF at hcan
   simp only [AGc,decide_eq_true_eq] at hcan
   omega
theorem ACy.next {n:Nat} {ball:Int->List Int} (hb:EZ n ball) {t:Nat} {f:Nat->Nat->Int} (hI:InvT n ball t f) (hC:ACy n ball f):ACy n ball (ED n ball (t:Int) f):=by
 intro c r hc hr h
 by_cases hcan:JF n ball f c r=true
 ·have e:ED n ball (t:Int) f c r=(t:Int):=if_pos hcan
  rw [e]
  unfold JF at hcan
  simp only [AGc,decide_eq_true_eq,List.any_eq_true] at hcan
  obtain ⟨hf,b,hbm,h0⟩:=hcan
  have h1:=hI.none c r hc hr hf b hbm
  have h2:=Aah hb hI hc hr hbm
  obtain ⟨b',hb1,rfl⟩:=hb c hc b hbm
  refine ⟨_,hbm,?_⟩
  rw [TM hb hb1 hr h0]
  omega
 ·have e:ED n ball (t:Int) f c r=f c r:=if_neg hcan
  rw [e] at h |-
  obtain ⟨b,hbm,h0,h1⟩:=hC c r hc hr h
  obtain ⟨b',hb1,rfl⟩:=hb c hc b hbm
  refine ⟨_,hbm,?_⟩
  rw [TM hb hb1 hr h0]
  exact ⟨h0,h1⟩
open Go.Proofs
theorem WO (l:List Int):(CX l).Pairwise (· <= ·):=by
 have:=List.pairwise_mergeSort (le:=fun x y:Int=>decide (x<=y)) (fun a b c h1 h2=>by simp at h1 h2 |-;omega) (fun a b=>by simp;omega) l
 unfold CX
 exact this.imp fun h=>by simpa using h
theorem Tz (l:List Int):(CX l).Perm l:=by
 unfold CX
 exact List.mergeSort_perm l _
open Go.Proofs
theorem ZY (ball:List Int):∀now:List (List Int),(now.flatMap fun l=>ball.map fun x=>l++[x]).length=now.length*ball.length:=by
 intro now
 induction now with
 | nil=>simp
 | cons l now ih=>
  rw [List.flatMap_cons,List.length_append,ih,List.length_map,List.length_cons,Nat.succ_mul]
  omega
theorem U3 {ball:List Int} {now:List (List Int)} {i:Nat} (h:∀l∈now,l.length=i):∀l∈now.flatMap (fun l=>ball.map fun x=>l++[x]),l.length=i+1:=by
 intro l hl
 obtain ⟨a,ha,h2⟩:=List.mem_flatMap.1 hl
 obtain ⟨x,_,rfl⟩:=List.mem_map.1 h2
 simp [h a ha]
theorem QS {ball:Int->List Int}:∀{cs:List Int} {now:List (List Int)} {i:Nat},(∀c∈cs,(ball c).length<=8)->(∀l∈now,l.length=i)->(chL ball cs now).length<=now.length*8 ^ cs.length /\ ∀l∈chL ball cs now,l.length=i+cs.length:=by
 intro cs
 induction cs with
 | nil=>intro now i _ h;exact ⟨by simp [chL],fun l hl=>by simpa using h l hl⟩
 | cons c cs ih=>
  intro now i hb h
  obtain ⟨h1,h2⟩:=ih (fun c hc=>hb c (by simp [hc])) (U3 (ball:=ball c) h)
  refine ⟨?_,fun l hl=>by rw [h2 l hl];simp;omega⟩
  refine Nat.le_trans h1 ?_
  rw [ZY,List.length_cons,Nat.pow_succ,Nat.mul_comm (8 ^ cs.length) 8,<- Nat.mul_assoc]
  exact Nat.mul_le_mul_right _ (Nat.mul_le_mul_left _ (hb c (by simp)))
theorem QZ {n:Int} {cops:List Int} (h:Qy n cops=true):cops.length<=3 /\ ∀c∈cops,inB 0 (n-1) c=true:=by
 unfold Qy at h
 simp only [AGc,decide_eq_true_eq] at h
 exact ⟨h.1,fun c hc=>List.all_eq_true.1 h.2 c hc⟩
open Go.Proofs
theorem AEo (N:Nat) (net:Nt) (cop:Int) (list cops:List Int) (n17 i:Int) (moves:List (List Int)) (n23 j:Int) (ball:List Int) (hb:ball.length<=8) (hlen:list.length<=1000):∀q k f (next:List (List Int)),k+q=ball.length->q<f->next.length+q<=1000 ->
  Sq N f (net,cop,next,list,cops,n17,i,moves,n23,j,ball,(ball.length:Int),(k:Int),())=some (.inl (net,cop,next++(ball.drop k).map (fun x=>list++[x]),cops,n17,i,moves,n23,j,())):=by
 intro q
 induction q with
 | zero=>
  intro k f next e1 e2 e3
  obtain ⟨f,rfl⟩:∃m,f=m+1:=⟨f-1,by omega⟩
  have e:k=ball.length:=by omega
  subst e
  rw [AGi (AGf _)]
  show Hu _ _ _=_
  unfold Hu
  simp only [AL,AGb,if_false,List.map_nil,List.append_nil]
 | succ q ih=>
  intro k f next e1 e2 e3
  obtain ⟨f,rfl⟩:∃m,f=m+1:=⟨f-1,by omega⟩
  have hk:k<ball.length:=by omega
  have ek:at_ I ball k=ball[k]:=AM (e:=I) hk
  have ht:FE (list,())=some (list,()):=by
   unfold FE
   rw [if_pos (show okL list=true from decide_eq_true (by unfold lim;omega))]
  have c1:decide (list.length+List.length [ball[k]]<=lim)=true:=by unfold lim;simp;omega
  have c2:decide (next.length+List.length [list++[ball[k]]]<=lim)=true:=by unfold lim;simp;omega
  show Hu _ _ _=_
  unfold Hu
  simp only [Az hk,if_true,Ad hk,Int.toNat_natCast,ek,ht,Option.bind_some,c1,c2,Dw hk hb]
  rw [ih (k+1) f _ (by omega) (by omega) (by simp;omega),AGj hk,List.map_cons,List.append_assoc,List.singleton_append]
theorem AE5 (N:Nat) (hN:10<=N) {l:List Int} (hn:Eo l=true) (u:Unit) (c:Nat) (hc:c<l.length) (cops:List Int) (n17 i:Int) (now:List (List Int)) (hnow:now.length<=64) (hle:∀l∈now,l.length<=1000):∀q j f (next:List (List Int)),j+q=now.length->q<f->next.length+8*q<=900 ->
  Sy N f ((l,u),(c:Int),next,cops,n17,i,now,(now.length:Int),(j:Int),())=some (.inl ((l,u),next++(now.drop j).flatMap (fun l'=>(AH l (c:Int)).map fun x=>l'++[x]),cops,n17,i,())):=by
 intro q
 have hb:=D1 l (c:Int)
 induction q with
 | zero=>
  intro j f next e1 e2 e3
  obtain ⟨f,rfl⟩:∃m,f=m+1:=⟨f-1,by omega⟩
  have e:j=now.length:=by omega
  subst e
  rw [AGi (AGf _)]
  show H0 _ _ _=_
  unfold H0
  simp only [AL,AGb,if_false,List.flatMap_nil,List.append_nil]
 | succ q ih=>
  intro j f next e1 e2 e3
  obtain ⟨f,rfl⟩:∃m,f=m+1:=⟨f-1,by omega⟩
  have hj:j<now.length:=by omega
  have ej:at_ Ai now j=now[j]:=AM (e:=Ai) hj
  have hin:=AEo N (l,u) (c:Int) now[j] cops n17 i now (now.length:Int) (j:Int) (AH l (c:Int)) hb (hle _ (AGk hj)) (AH l (c:Int)).length 0 N next (by omega) (by omega) (by omega)
  simp only [Int.natCast_zero,List.drop_zero] at hin
  have hw:IntKind.wrap .i64 ((j:Int)+1)=((j+1:Nat):Int):=by
   rw [Bj _ (by omega) (by omega)]
   rfl
  show H0 _ _ _=_
  unfold H0
  simp only [Az hj,if_true,Ad hj,Int.toNat_natCast,ej,MN hn u hc,Tb hn hc,Option.bind_some,hin,hw]
  rw [ih (j+1) f _ (by omega) (by omega) (by simp;omega),AGj hj,List.flatMap_cons,List.append_assoc]
theorem AEp (N:Nat) (hN:100<=N) {l:List Int} (hn:Eo l=true) (u:Unit) (cops:List Int) (h3:cops.length<=3) (hc:∀c∈cops,inB 0 ((l.length:Int)-1) c=true):∀q i f (now:List (List Int)),i+q=cops.length->q<f->now.length<=8 ^ i->(∀l∈now,l.length=i) ->
  SB N f ((l,u),now,cops,(cops.length:Int),(i:Int),())=some (.inl (chL (AH l) (cops.drop i) now,())):=by
 intro q
 induction q with
 | zero=>
  intro i f now e1 e2 e3 e4
  obtain ⟨f,rfl⟩:∃m,f=m+1:=⟨f-1,by omega⟩
  have e:i=cops.length:=by omega
  subst e
  rw [AGi (AGf _)]
  show Iv _ _ _=_
  unfold Iv
  simp only [AL,AGb,if_false,chL]
 | succ q ih=>
  intro i f now e1 e2 e3 e4
  obtain ⟨f,rfl⟩:∃m,f=m+1:=⟨f-1,by omega⟩
  have hi:i<cops.length:=by omega
  have ei:at_ I cops i=cops[i]:=AM (e:=I) hi
  obtain ⟨b1,b2⟩:=Dk (hc _ (AGk hi))
  have hbl:=D1 l cops[i]
  have h64:now.length<=64:=by
   have:8 ^ i<=8 ^ 2:=Nat.pow_le_pow_right (by omega) (by omega)
   omega
  have hin:=AE5 N (by omega) hn u cops[i].toNat b2 cops (cops.length:Int) (i:Int) now h64 (fun l hl=>by rw [e4 l hl];omega) now.length 0 N [] (by omega) (by omega) (by simp;omega)
  rw [<- b1] at hin
  simp only [Int.natCast_zero,List.drop_zero,List.nil_append] at hin
  have hw:IntKind.wrap .i64 ((i:Int)+1)=((i+1:Nat):Int):=by
   rw [Bj _ (by omega) (by omega)]
   rfl
  show Iv _ _ _=_
  unfold Iv
  simp only [Az hi,if_true,Ad hi,Int.toNat_natCast,ei,hin,Option.bind_some,hw]
  rw [AGj hi]
  refine ih (i+1) f _ (by omega) (by omega) ?_ (U3 e4)
  rw [ZY,Nat.pow_succ]
  exact Nat.mul_le_mul e3 hbl
theorem AEd (N:Nat):∀(rest pre:List (List Int)) f,rest.length<f->pre.length+rest.length<=900->(∀l∈rest,l.length<=900) ->
  Sd N f (pre++rest,(),((pre.length+rest.length:Nat):Int),(pre.length:Int),())=some (.inl (pre++rest.map CX,())):=by
 intro rest
 induction rest with
 | nil=>
  intro pre f e1 e2 e3
  obtain ⟨f,rfl⟩:∃m,f=m+1:=⟨f-1,by omega⟩
  show Id _ _ _=_
  unfold Id
  simp only [List.length_nil,Nat.add_zero,AL,AGb,if_false,List.map_nil]
 | cons x rest ih=>
  intro pre f e1 e2 e3
  obtain ⟨f,rfl⟩:∃m,f=m+1:=⟨f-1,by omega⟩
  have e2':pre.length+(rest.length+1)<=900:=by simpa using e2
  have hlt:decide ((pre.length:Int)<((pre.length+(x::rest).length:Nat):Int))=true:=decide_eq_true (by simp;omega)
  have hix:Af (pre.length:Int) (pre++x::rest).length=true:=Ad (by simp)
  have hs:Jm (x,())=some (CX x,()):=by
   unfold Jm
   rw [if_pos (decide_eq_true (by have:=e3 x (by simp);unfold lim;show x.length<=_;omega))]
  have hw:IntKind.wrap .i64 ((pre.length:Int)+1)=((pre.length+1:Nat):Int):=by
   rw [Bj _ (by omega) (by omega)]
   rfl
  show Id _ _ _=_
  unfold Id
  simp only [hlt,hix,if_true,Int.toNat_natCast,Aw5,hs,Option.bind_some,Arm,hw]
  have:=ih (pre++[CX x]) f (by simp at e1;omega) (by simp;omega) (fun l hl=>e3 l (by simp [hl]))
  simp only [List.length_append,List.length_singleton,List.append_assoc,List.singleton_append] at this
  rw [show ((pre.length+(x::rest).length:Nat):Int)=((pre.length+1+rest.length:Nat):Int) by simp;omega]
  rw [this,List.map_cons]
theorem SY (d) (r) (h:Fi d=some r):∃N,Xx N d=some r:=by
 obtain ⟨⟨l,u⟩,cops,_⟩:=d
 unfold Fi at h
 split at h
 ·rename_i hc
  simp only [AGc] at hc
  obtain ⟨hn,hc⟩:=hc
  have hn:Eo l=true:=hn
  obtain ⟨h3,hin⟩:=QZ hc
  have h:=AGg h
  subst h
  refine ⟨1000,?_⟩
  unfold Xx
  have h0:=AEp 1000 (by omega) hn u cops h3 hin cops.length 0 1000 [[]] (by omega) (by omega) (by simp) (by simp)
  simp only [Int.natCast_zero,List.drop_zero] at h0
  obtain ⟨f1,f2⟩:=QS (ball:=AH l) (cs:=cops) (now:=[[]]) (i:=0) (fun c _=>D1 l c) (by simp)
  have hlen:(chL (AH l) cops [[]]).length<=512:=by
   have:8 ^ cops.length<=8 ^ 3:=Nat.pow_le_pow_right (by omega) h3
   have e:([[]]:List (List Int)).length=1:=rfl
   rw [e] at f1
   omega
  have h6:=AEd 1000 (chL (AH l) cops [[]]) [] 1000 (by omega) (by simp;omega) (fun l hl=>by rw [f2 l hl];omega)
  simp only [List.nil_append,List.length_nil,Nat.zero_add,Int.natCast_zero] at h6
  have hok:DV ((chL (AH l) cops [[]]).map CX)=true:=by
   unfold DV
   rw [AGc]
   refine ⟨decide_eq_true (by rw [List.length_map];unfold lim;omega),List.all_eq_true.2 fun y hy => ?_⟩
   obtain ⟨x,hx,rfl⟩:=List.mem_map.1 hy
   exact decide_eq_true (by rw [Km,f2 x hx];unfold lim;omega)
  have hok2:DV (Iw ((chL (AH l) cops [[]]).map CX))=true:=by
   unfold DV at hok |-
   rw [AGc] at hok |-
   refine ⟨decide_eq_true (by rw [NV];exact Ci hok.1),List.all_eq_true.2 fun y hy => ?_⟩
   exact List.all_eq_true.1 hok.2 y ((GV _).mem_iff.1 hy)
  simp only [h0,Option.bind_some,h6,Jl,hok,if_true,Fo,hok2]
  rfl
 ·cases h
open Go.Proofs
theorem Agi {n:Int} {c:List Int} (h:Ns n c=true) (h3:c.length<=3):Qy n c=true:=by
 unfold Ns at h
 rw [AGc] at h
 unfold Qy
 rw [AGc]
 exact ⟨decide_eq_true h3,h.1⟩
open Go.Proofs
theorem ABz {S:List Int} {y:Int} (h:okL S=true) (u:Unit):Jn 0 (S,y,u)=some (FT S y,()):=by
 unfold Jn Lo
 have hge:=FA (fun z=>y==z) S 0
 simp only [h,if_true,Option.bind_some,ge_iff_le,hge]
 unfold FT
 have:(fun z=>y==z)=fun z:Int=>z==y:=by
  funext z
  rw [Bool.beq_comm]
 rw [this]
theorem Ah6 {m:Nat} {z:Int} (h:inB 0 ((m:Int)-1) z=true):∃x:Nat,z=(x:Int)/\x<m:=by
 have:=AX.1 h
 exact ⟨z.toNat,by omega,by omega⟩
open Go.Proofs
theorem Adi {m:Nat} (h:m<256) (u:Unit):D8 ((m:Int),u)=some (BE (fun y=>m.testBit y) 8 0,()):=by
 unfold D8
 simp only [CP,Bool.true_and,decide_eq_true (show (m:Int)<256 by omega),if_true,Int.toNat_natCast]
open Go.Proofs
theorem As4:∀{a b:List Int} {x y:Int},a.length=b.length->B6 a b<0->B6 (a++[x]) (b++[y])<0:=by
 intro a
 induction a with
 | nil=>
  intro b x y h1 h2
  cases b with
  | nil=>simp [B6] at h2
  | cons c b=>simp at h1
 | cons c a ih=>
  intro b x y h1 h2
  cases b with
  | nil=>simp at h1
  | cons e b=>
   simp only [B6,List.cons_append] at h2 |-
   by_cases h3:c<e
   ·rw [if_pos h3];omega
   ·rw [if_neg h3] at h2 |-
    by_cases h4:e<c
    ·rw [if_pos h4] at h2;omega
    ·rw [if_neg h4] at h2 |-
     exact ih (by simpa using h1) h2
theorem Ap0:∀{a:List Int} {x y:Int},x<y->B6 (a++[x]) (a++[y])<0:=by
 intro a
 induction a with
 | nil=>intro x y h;simp [B6,h]
 | cons c a ih=>
  intro x y h
  simp only [B6,List.cons_append,Int.lt_irrefl,if_false]
  exact ih h
theorem Yn {a n:Nat} {x:Int}:x∈Nb a n ↔ ∃y:Nat,a<=y/\y<n/\x=(y:Int):=by
 unfold Nb
 simp only [List.mem_map,List.mem_range'_1]
 constructor
 ·rintro ⟨y,hy,rfl⟩
  exact ⟨y,by omega,by omega,rfl⟩
 ·rintro ⟨y,h1,h2,rfl⟩
  exact ⟨y,by omega,rfl⟩
theorem Lj {n:Nat}:∀{k:Nat} {l:List Int},l∈AG n k->l.length=k:=by
 intro k
 induction k with
 | zero=>intro l h;simp [AG] at h;simp [h]
 | succ k ih=>
  intro l h
  unfold AG at h
  obtain ⟨a,ha,h2⟩:=List.mem_flatMap.1 h
  obtain ⟨x,_,rfl⟩:=List.mem_map.1 h2
  simp [ih ha]
theorem Agd (n:Nat):∀k:Nat,(AG n k).Pairwise ltL:=by
 intro k
 induction k with
 | zero=>simp [AG]
 | succ k ih=>
  unfold AG
  rw [List.pairwise_flatMap]
  refine ⟨fun a _ => ?_,?_⟩
  ·rw [List.pairwise_map]
   unfold Nb
   rw [List.pairwise_map]
   refine List.Pairwise.imp (fun {i j} h => ?_) (List.pairwise_lt_range' (s:=(a.getLastD 0).toNat) (n:=n-(a.getLastD 0).toNat))
   exact Ap0 (by omega)
  ·refine List.Pairwise.imp_of_mem (fun {a b} ha hb h x hx y hy => ?_) ih
   obtain ⟨p,_,rfl⟩:=List.mem_map.1 hx
   obtain ⟨q,_,rfl⟩:=List.mem_map.1 hy
   exact As4 (by rw [Lj ha,Lj hb]) h
theorem TX:∀{l:List Int} {x:Int},ndB (l++[x])=(ndB l&&(match l.getLast? with | none=>true | some y=>decide (y<=x))):=by
 intro l
 induction l with
 | nil=>intro x;rfl
 | cons a l ih=>
  intro x
  cases l with
  | nil=>simp [ndB]
  | cons b l=>
   have:=ih (x:=x)
   simp only [List.cons_append,ndB] at this |-
   rw [this,List.getLast?_cons_cons,Bool.and_assoc]
theorem Fa {n:Nat}:∀{k:Nat} {l:List Int},l∈AG n k↔l.length=k/\Ns (n:Int) l=true:=by
 intro k
 induction k with
 | zero=>
  intro l
  simp only [AG,List.mem_singleton,List.length_eq_zero_iff]
  constructor
  ·rintro rfl;exact ⟨rfl,rfl⟩
  ·intro h;exact h.1
 | succ k ih=>
  intro l
  unfold AG
  rw [List.mem_flatMap]
  constructor
  ·rintro ⟨a,ha,h2⟩
   obtain ⟨x,hx,rfl⟩:=List.mem_map.1 h2
   obtain ⟨y,h3,h4,rfl⟩:=Yn.1 hx
   obtain ⟨h5,h6⟩:=ih.1 ha
   refine ⟨by simp [h5],?_⟩
   unfold Ns at h6 |-
   rw [AGc] at h6
   rw [List.all_append,TX,h6.1,h6.2]
   simp only [List.all_cons,List.all_nil,Bool.true_and,Bool.and_true,AGc]
   refine ⟨AX.2 (by omega),?_⟩
   cases hg:a.getLast? with
   | none=>rfl
   | some z=>
    rw [List.getLastD_eq_getLast?,hg] at h3
    simp only [Option.getD_some] at h3
    exact decide_eq_true (by omega)
  ·rintro ⟨h1,h2⟩
   have hne:l≠[]:=fun h=>by simp [h] at h1
   refine ⟨l.dropLast,ih.2 ⟨by simp [h1],?_⟩,List.mem_map.2 ⟨l.getLast hne,?_,List.dropLast_concat_getLast hne⟩⟩
   ·have e:=List.dropLast_concat_getLast hne
    rw [<- e] at h2
    unfold Ns at h2 |-
    rw [List.all_append,TX] at h2
    simp only [AGc] at h2
    rw [AGc]
    exact ⟨h2.1.1,h2.2.1⟩
   ·have e:=List.dropLast_concat_getLast hne
    rw [<- e] at h2
    unfold Ns at h2
    rw [List.all_append,TX] at h2
    simp only [AGc,List.all_cons,List.all_nil,and_true] at h2
    have h3:=AX.1 h2.1.2
    refine Yn.2 ⟨(l.getLast hne).toNat,?_,by omega,by omega⟩
    rw [List.getLastD_eq_getLast?]
    have h4:=h2.2.2
    cases hg:l.dropLast.getLast? with
    | none=>simp
    | some z=>
     rw [hg] at h4
     have h4:=of_decide_eq_true h4
     simp only [Option.getD_some]
     omega
theorem Io {n k:Nat} (hn:n<=8) (hk:k<=3):(AG n k).length<=120:=by
 have key:∀n:Fin 9,∀k:Fin 4,(AG n.1 k.1).length<=120:=by decide +kernel
 exact key ⟨n,by omega⟩ ⟨k,by omega⟩
theorem UZ:∀{l:List (List Int)},Vy l=true↔l.Pairwise ltL:=by
 intro l
 induction l with
 | nil=>simp [Vy]
 | cons a l ih=>
  cases l with
  | nil=>simp [Vy]
  | cons b l=>
   unfold Vy
   rw [AGc,ih,decide_eq_true_eq]
   constructor
   ·rintro ⟨h1,h2⟩
    refine List.pairwise_cons.2 ⟨fun c hc => ?_,h2⟩
    rcases List.mem_cons.1 hc with rfl | hc
    ·exact h1
    ·exact U0 h1 ((List.pairwise_cons.1 h2).1 c hc)
   ·intro h
    obtain ⟨h1,h2⟩:=List.pairwise_cons.1 h
    exact ⟨h1 b (by simp),h2⟩
theorem Aae {cf:List (List Int)} {c:List Int}:AC1 cf c=true↔c∈cf:=by
 unfold AC1
 rw [List.any_eq_true]
 constructor
 ·rintro ⟨x,h1,h2⟩
  rw [<- of_decide_eq_true h2]
  exact h1
 ·intro h
  exact ⟨c,h,decide_eq_true rfl⟩
theorem Av3 {α:Type} {q:α->Bool}:∀{l:List α} {i:Nat},(∃x∈l,q x=true) -> ∃j,j<l.length/\Gs q l i=some (i+j) /\ ∃h:j<l.length,q l[j]=true:=by
 intro l
 induction l with
 | nil=>intro i ⟨x,hx,_⟩;simp at hx
 | cons a l ih=>
  intro i ⟨x,hx,hq⟩
  unfold Gs
  by_cases ha:q a=true
  ·rw [if_pos ha]
   exact ⟨0,by simp,by simp,by simp,by simpa using ha⟩
  ·rw [if_neg ha]
   have:∃x∈l,q x=true:=by
    rcases List.mem_cons.1 hx with rfl | hx
    ·exact absurd hq ha
    ·exact ⟨x,hx,hq⟩
   obtain ⟨j,h1,h2,h3,h4⟩:=ih (i:=i+1) this
   exact ⟨j+1,by simp;omega,by rw [h2];congr 1;omega,by simp;omega,by simpa using h4⟩
theorem T7 {cf:List (List Int)} {c:List Int} (h:c∈cf):∃i,i<cf.length/\G3 cf c=(i:Int)/\cf.getD i []=c:=by
 obtain ⟨j,h1,h2,h3,h4⟩:=Av3 (q:=fun y=>decide (y=c)) (i:=0) ⟨c,h,decide_eq_true rfl⟩
 refine ⟨j,h1,?_,?_⟩
 ·unfold G3
  rw [h2]
  simp [Qt]
 ·rw [AGm,AGn h3]
  simpa using h4
theorem Ai0 {cf:List (List Int)} {c:List Int} (h:c∈cf):inB 0 ((cf.length:Int)-1) (G3 cf c)=true:=by
 obtain ⟨i,h1,h2,_⟩:=T7 h
 exact AX.2 (by omega)
theorem ACb {l:List Int} (h:l.Pairwise (· <= ·)):ndB l=true:=by
 induction l with
 | nil=>rfl
 | cons a l ih=>
  rw [List.pairwise_cons] at h
  cases l with
  | nil=>rfl
  | cons b l=>
   unfold ndB
   rw [AGc]
   exact ⟨decide_eq_true (h.1 b (by simp)),ih h.2⟩
theorem Ax2 {p:Int->Bool} {ball:Int->List Int}:∀{cs:List Int} {now:List (List Int)},(∀c∈cs,∀x∈ball c,p x=true)->(∀l∈now,l.all p=true) -> ∀l∈chL ball cs now,l.all p=true:=by
 intro cs
 induction cs with
 | nil=>intro now _ h;exact h
 | cons c cs ih=>
  intro now hb h
  refine ih (fun c hc=>hb c (by simp [hc])) fun l hl => ?_
  obtain ⟨a,ha,h2⟩:=List.mem_flatMap.1 hl
  obtain ⟨x,hx,rfl⟩:=List.mem_map.1 h2
  rw [List.all_append,h a ha]
  simp [hb c (by simp) x hx]
theorem UU {n:Nat} {ball:Int->List Int} {c:List Int} (hb:∀x∈c,(ball x).length<=8) (hb2:∀x∈c,∀y∈ball x,inB 0 ((n:Int)-1) y=true) {m:List Int} (h:m∈Ec ball c):m∈AG n c.length:=by
 have h2:=(GV _).mem_iff.1 ((Y3 m).1 h)
 obtain ⟨x,hx,rfl⟩:=List.mem_map.1 h2
 obtain ⟨f1,f2⟩:=QS (ball:=ball) (cs:=c) (now:=[[]]) (i:=0) hb (by simp)
 have f3:=Ax2 (p:=inB 0 ((n:Int)-1)) (ball:=ball) (cs:=c) (now:=[[]]) hb2 (by simp) x hx
 refine Fa.2 ⟨by rw [Km,f2 x hx];simp,?_⟩
 unfold Ns
 rw [AGc]
 refine ⟨List.all_eq_true.2 fun y hy=>List.all_eq_true.1 f3 y ((Tz x).mem_iff.1 hy),ACb (WO x)⟩
theorem U9 {ball:Int->List Int} {cs:List Int} (h3:cs.length<=3) (hb:∀c∈cs,(ball c).length<=8):(Ec ball cs).length<=512:=by
 obtain ⟨f1,f2⟩:=QS (ball:=ball) (cs:=cs) (now:=[[]]) (i:=0) hb (by simp)
 have hlen:(chL ball cs [[]]).length<=512:=by
  have:8 ^ cs.length<=8 ^ 3:=Nat.pow_le_pow_right (by omega) h3
  have e:([[]]:List (List Int)).length=1:=rfl
  rw [e] at f1
  omega
 unfold Ec Hd
 rw [List.length_map]
 refine Nat.le_trans (Zs _ _) ?_
 rw [NV,List.length_map]
 exact hlen
theorem Kh {n:Int} {l:List Int} (h:Ns n l=true):∀x∈l,inB 0 (n-1) x=true:=by
 unfold Ns at h
 rw [AGc] at h
 exact List.all_eq_true.1 h.1
theorem ZT {n:Nat} (hn:n<=8) {k:Nat} (hk:k<=3) {ball:Int->List Int} (hb:∀x:Nat,x<n->(ball (x:Int)).length<=8) (hb2:∀x:Nat,x<n -> ∀y∈ball (x:Int),inB 0 ((n:Int)-1) y=true):gmB n (AG n k) (C9 ball (AG n k))=true:=by
 unfold gmB
 simp only [AGc,decide_eq_true_eq,List.all_eq_true]
 refine ⟨⟨⟨Io hn hk,by simp [C9]⟩,fun c hc => ?_⟩,fun l hl => ?_⟩
 ·obtain ⟨h1,h2⟩:=Fa.1 hc
  exact ⟨by omega,Kh h2⟩
 ·obtain ⟨c,hc,rfl⟩:=List.mem_map.1 hl
  obtain ⟨h1,h2⟩:=Fa.1 hc
  have h3:=Kh h2
  have g1:∀x∈c,(ball x).length<=8:=fun x hx=>by
   have:=AX.1 (h3 x hx)
   have e:x=((x.toNat:Nat):Int):=by omega
   rw [e]
   exact hb _ (by omega)
  have g2:∀x∈c,∀y∈ball x,inB 0 ((n:Int)-1) y=true:=fun x hx=>by
   have:=AX.1 (h3 x hx)
   have e:x=((x.toNat:Nat):Int):=by omega
   rw [e]
   exact hb2 _ (by omega)
  refine ⟨?_,fun p hp => ?_⟩
  ·rw [List.length_map]
   have:=U9 (ball:=ball) (cs:=c) (by omega) g1
   omega
  ·obtain ⟨m,hm,rfl⟩:=List.mem_map.1 hp
   have:=UU g1 g2 hm
   rw [h1] at this
   exact Ai0 this
theorem Ajb {n k:Nat} (hn:n<=8) (hk:k<=3):DV (AG n k)=true:=by
 have h:=Io hn hk
 unfold DV
 rw [AGc]
 refine ⟨decide_eq_true (by unfold lim;omega),List.all_eq_true.2 fun l hl=>decide_eq_true ?_⟩
 rw [Lj hl]
 unfold lim
 omega
open Go.Proofs
def Vu (n:Nat) (l:List Int):List (List Int):=(Nb (l.getLastD 0).toNat n).map fun x=>l++[x]
theorem Abf (n k:Nat):AG n (k+1)=(AG n k).flatMap (Vu n):=rfl
theorem Aje {a n:Nat} (h:a<n):Nb a n=(a:Int)::Nb (a+1) n:=by
 unfold Nb
 rw [show n-a=(n-(a+1))+1 by omega,List.range'_succ]
 rfl
theorem Apx (n:Nat):Nb n n=[]:=by simp [Nb]
theorem Ao4 (n:Nat) (l:List Int):(Vu n l).length<=n:=by simp [Vu,Nb]
theorem Am0 {n k:Nat} {l:List Int} (h:l∈AG n k):0<=l.getLastD 0/\l.getLastD 0<=(n:Int):=by
 obtain ⟨h1,h2⟩:=Fa.1 h
 rw [List.getLastD_eq_getLast?]
 cases hg:l.getLast? with
 | none=>simp
 | some z=>
  have:=AX.1 (Kh h2 z (List.mem_of_getLast? hg))
  simp only [Option.getD_some]
  omega
theorem Avw {l:List Int} (h:0<l.length):at_ I l (l.length-1)=l.getLastD 0:=by
 have e:at_ I l (l.length-1)=l[l.length-1]:=AM (e:=I) (by omega)
 rw [e,List.getLastD_eq_getLast?,List.getLast?_eq_getElem?,AGn (by omega)]
 rfl
theorem A0 {j:Nat} (h:j<=100000):IntKind.wrap .i64 ((j:Int)+1)=((j+1:Nat):Int):=by
 rw [Bj _ (by omega) (by omega)]
 rfl
theorem Acx {d:Int×Int×Unit} {r} (h:E9 d=some r):∃n k:Nat,n<=8/\k<=3/\d=((n:Int),(k:Int),())/\r=(AG n k,()):=by
 obtain ⟨n,k,_⟩:=d
 unfold E9 at h
 split at h
 ·rename_i hc
  simp only [AGc] at hc
  have h1:=AX.1 hc.1
  have h2:=AX.1 hc.2
  have h:=AGg h
  subst h
  refine ⟨n.toNat,k.toNat,by omega,by omega,?_,rfl⟩
  rw [show ((n.toNat:Nat):Int)=n by omega,show ((k.toNat:Nat):Int)=k by omega]
 ·cases h
theorem AE7 (N n:Nat) (hn:n<=8) (l:List Int) (hlen:l.length<=1000) (a b:Int) (now:List (List Int)) (c e:Int):∀q x f (next:List (List Int)),x+q=n->q<f->next.length+q<=1000 ->
  Ng N f ((n:Int),next,l,(x:Int),a,b,now,c,e,())=some (.inl ((n:Int),next++(Nb x n).map (fun x=>l++[x]),a,b,now,c,e,())):=by
 intro q
 induction q with
 | zero=>
  intro x f next e1 e2 e3
  obtain ⟨f,rfl⟩:∃m,f=m+1:=⟨f-1,by omega⟩
  have e:x=n:=by omega
  subst e
  rw [Apx]
  show Ik _ _ _=_
  unfold Ik
  simp only [AL,AGb,if_false,List.map_nil,List.append_nil]
 | succ q ih=>
  intro x f next e1 e2 e3
  obtain ⟨f,rfl⟩:∃m,f=m+1:=⟨f-1,by omega⟩
  have hx:x<n:=by omega
  have c0:okL l=true:=Fp (by omega)
  have c1:decide (l.length+List.length [(x:Int)]<=lim)=true:=by unfold lim;simp;omega
  have c2:decide (next.length+List.length [l++[(x:Int)]]<=lim)=true:=by unfold lim;simp;omega
  show Ik _ _ _=_
  unfold Ik
  simp only [Az hx,if_true,FE,c0,Option.bind_some,c1,c2,Dw hx hn]
  rw [ih (x+1) f _ (by omega) (by omega) (by simp;omega),Aje hx,List.map_cons,List.append_assoc,List.singleton_append]
theorem AEb (N:Nat) (hN:10<=N) (n:Nat) (hn:n<=8) (a b:Int) (now:List (List Int)) (hnow:now.length<=120) (hle:∀l∈now,l.length<=3/\0<=l.getLastD 0/\l.getLastD 0<=(n:Int)):∀q j f (next:List (List Int)),j+q=now.length->q<f->next.length+8*q<=990 ->
  Sz N f ((n:Int),next,a,b,now,(now.length:Int),(j:Int),())=some (.inl ((n:Int),next++(now.drop j).flatMap (Vu n),a,b,())):=by
 intro q
 induction q with
 | zero=>
  intro j f next e1 e2 e3
  obtain ⟨f,rfl⟩:∃m,f=m+1:=⟨f-1,by omega⟩
  have e:j=now.length:=by omega
  subst e
  rw [AGi (AGf _)]
  show Hw _ _ _=_
  unfold Hw
  simp only [AL,AGb,if_false,List.flatMap_nil,List.append_nil]
 | succ q ih=>
  intro j f next e1 e2 e3
  obtain ⟨f,rfl⟩:∃m,f=m+1:=⟨f-1,by omega⟩
  have hj:j<now.length:=by omega
  obtain ⟨h1,h2,h3⟩:=hle _ (AGk hj)
  have ej:at_ Ai now j=now[j]:=AM (e:=Ai) hj
  have hin:=AE7 N n hn now[j] (by omega) a b now (now.length:Int) (j:Int) (n-(now[j].getLastD 0).toNat) (now[j].getLastD 0).toNat N next (by omega) (by omega) (by omega)
  have e4:(((now[j].getLastD 0).toNat:Nat):Int)=now[j].getLastD 0:=by omega
  rw [e4] at hin
  have hg:(Nb (now[j].getLastD 0).toNat n).map (fun x=>now[j]++[x])=Vu n now[j]:=rfl
  rw [hg] at hin
  have hgl:=Ao4 n now[j]
  have fin:=ih (j+1) f (next++Vu n now[j]) (by omega) (by omega) (by simp;omega)
  rw [List.append_assoc,<- List.flatMap_cons,<- AGj hj] at fin
  show Hw _ _ _=_
  unfold Hw
  by_cases hi:0<now[j].length
  ·have hp:decide ((now[j].length:Int)>0)=true:=by simp;omega
   have hw:IntKind.wrap .i64 ((now[j].length:Int)-1)=((now[j].length-1:Nat):Int):=Iy hi (by unfold maxLen;omega)
   have hx:Af ((now[j].length-1:Nat):Int) now[j].length=true:=Ad (by omega)
   simp only [Az hj,if_true,Ad hj,Int.toNat_natCast,ej,hp,hw,hx,Avw hi,hin,Option.bind_some,A0 (show j<=100000 by omega),fin]
  ·have hp:decide ((now[j].length:Int)>0)=false:=decide_eq_false (by omega)
   have hl:now[j].getLastD 0=0:=by
    have:now[j]=[]:=List.length_eq_zero_iff.1 (by omega)
    rw [this]
    rfl
   rw [hl] at hin
   simp only [Az hj,if_true,Ad hj,Int.toNat_natCast,ej,hp,AGb,if_false,hin,Option.bind_some,A0 (show j<=100000 by omega),fin]
theorem AEr (N:Nat) (hN:200<=N) (n:Nat) (hn:n<=8) (k:Nat) (hk:k<=3):∀q i f,i+q=k->q<f ->
  SC N f ((n:Int),AG n i,(k:Int),(i:Int),())=some (.inl (AG n k,())):=by
 intro q
 induction q with
 | zero=>
  intro i f e1 e2
  obtain ⟨f,rfl⟩:∃m,f=m+1:=⟨f-1,by omega⟩
  have e:i=k:=by omega
  subst e
  show Hr _ _ _=_
  unfold Hr
  simp only [AL,AGb,if_false]
 | succ q ih=>
  intro i f e1 e2
  obtain ⟨f,rfl⟩:∃m,f=m+1:=⟨f-1,by omega⟩
  have hi:i<k:=by omega
  have h120:=Io hn (show i<=3 by omega)
  have hin:=AEb N (by omega) n hn (k:Int) (i:Int) (AG n i) h120 (fun l hl=>⟨by rw [Lj hl];omega,Am0 hl⟩) (AG n i).length 0 N [] (by omega) (by omega) (by simp;omega)
  simp only [Int.natCast_zero,List.drop_zero,List.nil_append] at hin
  show Hr _ _ _=_
  unfold Hr
  simp only [Az hi,if_true,hin,Option.bind_some,A0 (show i<=100000 by omega),<- Abf]
  exact ih (i+1) f (by omega) (by omega)
theorem VW (d) (r) (h:E9 d=some r):∃N,WS N d=some r:=by
 obtain ⟨n,k,hn,hk,rfl,rfl⟩:=Acx h
 refine ⟨200,?_⟩
 have:=AEr 200 (by omega) n hn k hk k 0 200 (by omega) (by omega)
 unfold WS
 simp only [Int.natCast_zero] at this
 have e:AG n 0=[[]]:=rfl
 rw [e] at this
 simp only [this,Option.bind_some]
theorem ADa {i j:Nat} (h:i+j<=100000):IntKind.wrap .i64 (shr .u64 (IntKind.wrap .u64 (IntKind.wrap .i64 ((i:Int)+(j:Int)))) (1:Int))=(((i+j) / 2:Nat):Int):=by
 have e1:IntKind.wrap .i64 ((i:Int)+(j:Int))=((i+j:Nat):Int):=by
  rw [Bj _ (by omega) (by omega)]
  omega
 have e2:IntKind.wrap .u64 ((i+j:Nat):Int)=((i+j:Nat):Int):=Go.IntWalk.u64_in _ (by omega)
 have e3:shr .u64 ((i+j:Nat):Int) 1=(((i+j) / 2:Nat):Int):=by
  show ((i+j:Nat):Int).fdiv 2=_
  rw [Int.fdiv_eq_ediv_of_nonneg _ (by omega)]
  omega
 rw [e1,e2,e3]
 exact Bj _ (by omega) (by omega)
theorem AE0 (N:Nat) (cf:List (List Int)) (hr:cf.Pairwise ltL) (h1000:cf.length<=1000) (hok:DV cf=true) (c:List Int) (hc:okL c=true) (p:Nat) (hp:p<cf.length) (hpc:cf[p]=c) (n:Int) (u:Unit×Unit):∀q i j f,i+q=j->i<=p->p<=j->j<=cf.length->q<f ->
  XR N f (cf,c,u,n,(i:Int),(j:Int),())=some (.inl (cf,c,u,n,(p:Int),())):=by
 have hrise:=List.pairwise_iff_getElem.1 hr
 intro q
 induction q using Nat.strongRecOn with
 | ind q ih=>
  intro i j f e1 e2 e3 e4 e5
  obtain ⟨f,rfl⟩:∃m,f=m+1:=⟨f-1,by omega⟩
  by_cases hij:i<j
  ·have hm:(i+j) / 2<cf.length:=by omega
   have em:at_ Ai cf ((i+j) / 2)=cf[(i+j) / 2]:=AM (e:=Ai) hm
   have hokm:okL cf[(i+j) / 2]=true:=by
    unfold DV at hok
    rw [AGc] at hok
    exact List.all_eq_true.1 hok.2 _ (AGk hm)
   have hcmp:Jb (cf[(i+j) / 2],c,u,())=some (B6 cf[(i+j) / 2] c,()):=by
    unfold Jb Ew
    simp only [hokm,hc,Bool.and_self,if_true]
   have h01:decide ((0:Int)<=1)=true:=by decide
   show J5 _ _ _=_
   unfold J5
   simp only [Az hij,if_true,h01,ADa (show i+j<=100000 by omega),Ad hm,Int.toNat_natCast,em,hcmp,Option.bind_some]
   by_cases hlt:B6 cf[(i+j) / 2] c<0
   ·have hpm:(i+j) / 2<p:=by
     rcases Nat.lt_trichotomy ((i+j) / 2) p with h | h | h
     ·exact h
     ·subst h
      rw [hpc,Ln] at hlt
      omega
     ·have:=hrise p ((i+j) / 2) hp hm h
      rw [hpc] at this
      exact absurd (U0 this hlt) (Awk c)
    simp only [hlt,decide_true,if_true,A0 (show (i+j) / 2<=100000 by omega)]
    exact ih (j-((i+j) / 2+1)) (by omega) ((i+j) / 2+1) j f (by omega) (by omega) e3 e4 (by omega)
   ·have hpm:p<=(i+j) / 2:=by
     rcases Nat.lt_or_ge ((i+j) / 2) p with h | h
     ·have:=hrise ((i+j) / 2) p hm hp h
      rw [hpc] at this
      exact absurd this hlt
     ·exact h
    simp only [hlt,decide_false,AGb,if_false]
    exact ih ((i+j) / 2-i) (by omega) i ((i+j) / 2) f (by omega) e2 hpm (by omega) (by omega)
  ·have e:i=j:=by omega
   subst e
   have e:i=p:=by omega
   subst e
   show J5 _ _ _=_
   unfold J5
   simp only [AL,AGb,if_false]
theorem Ux (d) (r) (h:Z4 d=some r):∃N,Ah5 N d=some r:=by
 obtain ⟨cf,c,u,_⟩:=d
 unfold Z4 at h
 split at h
 ·rename_i hc
  simp only [AGc,decide_eq_true_eq] at hc
  obtain ⟨⟨⟨⟨h1,h2⟩,h3⟩,h4⟩,h5⟩:=hc
  have h:=AGg h
  subst h
  obtain ⟨p,p1,p2,p3⟩:=T7 (Aae.1 h5)
  have p4:cf[p]=c:=by
   rw [AGm,AGn p1] at p3
   simpa using p3
  refine ⟨2000,?_⟩
  have hl:=AE0 2000 cf (UZ.1 h4) h1 h2 c h3 p p1 p4 (cf.length:Int) ((),()) cf.length 0 cf.length 2000 (by omega) (by omega) (by omega) (by omega) (by omega)
  have ep:at_ Ai cf p=cf[p]:=AM (e:=Ai) p1
  have hokm:okL cf[p]=true:=by rw [p4];exact h3
  have hcmp:Jb (cf[p],c,((),()),())=some (0,()):=by
   unfold Jb Ew
   simp only [hokm,h3,Bool.and_self,if_true,p4,Ln]
  unfold Ah5
  simp only [Int.natCast_zero] at hl
  simp only [hl,Option.bind_some,Az p1,if_true,Ad p1,Int.toNat_natCast,ep,hcmp,p2,beq_self_eq_true]
 ·cases h
open Go.Proofs
theorem Afr {n k:Nat} (hk:k<=3) {c:List Int} (h:c∈AG n k):Qy (n:Int) c=true:=by
 obtain ⟨h1,h2⟩:=Fa.1 h
 exact Agi h2 (by omega)
theorem Ad1 {cf:List (List Int)} (h1:cf.length<=120) (h2:DV cf=true) (h3:cf.Pairwise ltL) {c:List Int} (hm:c∈cf) (net:Nt) (mv:List (List Int)) (T:Tab) (u v:Unit):T6 0 ((net,cf,mv,T,u),c,v)=some (G3 cf c,()):=by
 unfold T6 Z4
 have a1:decide (cf.length<=1000)=true:=decide_eq_true (by omega)
 have a2:okL c=true:=List.all_eq_true.1 (II h2).2 c hm
 simp only [a1,h2,a2,UZ.2 h3,Aae.2 hm,Bool.and_self,if_true,Option.bind_some]
theorem ADq (N:Nat) (w:Nt) (cf:List (List Int)) (h1:cf.length<=120) (h2:DV cf=true) (h3:cf.Pairwise ltL) (net:Nt) (mv:List (List Int)) (T:Tab) (u:Unit) (a:List (List Int)) (b c:Int) (L:List (List Int)) (hL:L.length<=512) (hLm:∀m∈L,m∈cf):∀q j f (acc:List Int),j+q=L.length->q<f->acc.length+q<=1000 ->
  R2 N f (w,(net,cf,mv,T,u),acc,a,b,c,L,(L.length:Int),(j:Int),())=some (.inl (w,(net,cf,mv,T,u),acc++(L.drop j).map (G3 cf),a,b,c,())):=by
 intro q
 induction q with
 | zero=>
  intro j f acc e1 e2 e3
  obtain ⟨f,rfl⟩:∃m,f=m+1:=⟨f-1,by omega⟩
  have e:j=L.length:=by omega
  subst e
  rw [AGi (AGf _)]
  show If _ _ _=_
  unfold If
  simp only [AL,AGb,if_false,List.map_nil,List.append_nil]
 | succ q ih=>
  intro j f acc e1 e2 e3
  obtain ⟨f,rfl⟩:∃m,f=m+1:=⟨f-1,by omega⟩
  have hj:j<L.length:=by omega
  have ej:at_ Ai L j=L[j]:=AM (e:=Ai) hj
  have c1:decide (acc.length+List.length [G3 cf L[j]]<=lim)=true:=by unfold lim;simp;omega
  show If _ _ _=_
  unfold If
  simp only [Az hj,if_true,Ad hj,Int.toNat_natCast,ej,Ad1 h1 h2 h3 (hLm _ (AGk hj)),Option.bind_some,c1,A0 (show j<=100000 by omega)]
  rw [ih (j+1) f _ (by omega) (by omega) (by simp;omega),AGj hj,List.map_cons,List.append_assoc,List.singleton_append]
theorem Zh {l:List Int} (h:Eo l=true) {x:Nat} (hx:x<l.length):∀y∈AH l (x:Int),inB 0 ((l.length:Int)-1) y=true:=fun y hy=>by
 obtain ⟨z,hz,rfl⟩:=MQ h x hx y hy
 exact AX.2 (by omega)
theorem Asc {n:Nat} (es:List E) (x:Int):∀y∈Bx n es x,inB 0 ((n:Int)-1) y=true:=fun y hy=>by
 obtain ⟨z,hz,rfl⟩:=Z3 y hy
 exact AX.2 (by omega)
theorem Ack {l:List Int} (h:Eo l=true) {k:Nat} {c:List Int} (hc:c∈AG l.length k):∀m∈Ec (AH l) c,m∈AG l.length k:=by
 obtain ⟨h1,h2⟩:=Fa.1 hc
 have h3:=Kh h2
 intro m hm
 have:=UU (n:=l.length) (fun x _=>D1 l x) (fun x hx=>by
  have:=AX.1 (h3 x hx)
  have e:x=((x.toNat:Nat):Int):=by omega
  rw [e]
  exact Zh h (by omega)) hm
 rw [h1] at this
 exact this
theorem AE6 (N:Nat) (hN:1000<=N) (l:List Int) (hl:Eo l=true) (v:Unit) (k:Nat) (hk:k<=3) (T:Tab) (u:Unit):∀q i f (acc:List (List Int)),i+q=(AG l.length k).length->q<f->acc.length+q<=1000 ->
  RO N f ((l,v),((l,v),AG l.length k,acc,T,u),AG l.length k,((AG l.length k).length:Int),(i:Int),())=some (.inl (((l,v),AG l.length k,acc++((AG l.length k).drop i).map (fun c=>(Ec (AH l) c).map (G3 (AG l.length k))),T,u),())):=by
 obtain ⟨p1,p2,p3,p4⟩:=CR hl
 have h120:=Io p3 hk
 have hok:=Ajb p3 hk
 have hrise:=Agd l.length k
 intro q
 induction q with
 | zero=>
  intro i f acc e1 e2 e3
  obtain ⟨f,rfl⟩:∃m,f=m+1:=⟨f-1,by omega⟩
  have e:i=(AG l.length k).length:=by omega
  subst e
  rw [AGi (AGf _)]
  show HI _ _ _=_
  unfold HI
  simp only [AL,AGb,if_false,List.map_nil,List.append_nil]
 | succ q ih=>
  intro i f acc e1 e2 e3
  obtain ⟨f,rfl⟩:∃m,f=m+1:=⟨f-1,by omega⟩
  have hi:i<(AG l.length k).length:=by omega
  have ei:at_ Ai (AG l.length k) i=(AG l.length k)[i]:=AM (e:=Ai) hi
  have hnb:=Afr hk (AGk hi)
  have hmv:Fi ((l,v),(AG l.length k)[i],())=some (Ec (AH l) (AG l.length k)[i],()):=by
   unfold Fi
   simp only [hl,hnb,Bool.and_self,if_true]
  obtain ⟨n1,n2⟩:=QZ hnb
  have hml:=U9 (ball:=AH l) n1 (fun c hc=>D1 l c)
  have hin:=ADq N (l,v) (AG l.length k) h120 hok hrise (l,v) acc T u (AG l.length k) ((AG l.length k).length:Int) (i:Int) (Ec (AH l) (AG l.length k)[i]) hml (Ack hl (AGk hi)) (Ec (AH l) (AG l.length k)[i]).length 0 N [] (by omega) (by omega) (by simp;omega)
  simp only [Int.natCast_zero,List.drop_zero,List.nil_append] at hin
  have c1:∀x:List Int,decide (acc.length+List.length [x]<=lim)=true:=fun x=>by unfold lim;simp;omega
  show HI _ _ _=_
  unfold HI
  simp only [Az hi,if_true,Ad hi,Int.toNat_natCast,ei,hmv,Option.bind_some,hin,c1,A0 (show i<=100000 by omega)]
  rw [ih (i+1) f _ (by omega) (by omega) (by simp;omega),AGj hi,List.map_cons,List.append_assoc,List.singleton_append]
theorem Xt (d) (r) (h:Fk d=some r):∃N,WI N d=some r:=by
 obtain ⟨⟨l,v⟩,k,_⟩:=d
 unfold Fk at h
 split at h
 ·rename_i hc
  simp only [AGc] at hc
  obtain ⟨hl,hk⟩:=hc
  have hk2:=AX.1 hk
  obtain ⟨p1,p2,p3,p4⟩:=CR hl
  have h:=AGg h
  subst h
  refine ⟨1000,?_⟩
  have h120:=Io p3 (show k.toNat<=3 by omega)
  have hcf:E9 ((l.length:Int),k,())=some (AG l.length k.toNat,()):=by
   unfold E9
   have i1:inB 0 8 (l.length:Int)=true:=AX.2 (by omega)
   simp only [i1,hk,Bool.and_self,if_true,Int.toNat_natCast]
  have h0:=AE6 1000 (by omega) l hl v k.toNat (by omega) [] () (AG l.length k.toNat).length 0 1000 [] (by omega) (by omega) (by simp;omega)
  simp only [Int.natCast_zero,List.drop_zero,List.nil_append] at h0
  unfold WI E8
  simp only [hcf,Option.bind_some,h0]
  rfl
 ·cases h
open Go.Proofs
theorem ZX (m n:Nat) (f:Nat->Nat->Int):(ER m n f).length=m:=by simp [ER]
theorem Za {m n c:Nat} (f:Nat->Nat->Int) (h:c<m):(ER m n f)[c]? = some ((List.range n).map fun x=>f c x):=by
 unfold ER
 rw [List.getElem?_map,List.getElem?_range h]
 rfl
theorem An2 {m n c x:Nat} (f:Nat->Nat->Int) (hc:c<m) (hx:x<n):AS (ER m n f) (c:Int) (x:Int)=f c x:=by
 unfold AS
 simp only [Int.toNat_natCast,AGm,Za f hc,Option.getD_some,YN _ hx]
theorem I0 {m n:Nat} {f g:Nat->Nat->Int} (h:∀c x,c<m->x<n->f c x=g c x):ER m n f=ER m n g:=by
 unfold ER
 refine List.map_congr_left fun c hc=>List.map_congr_left fun x hx=>h c x (List.mem_range.1 hc) (List.mem_range.1 hx)
theorem D9 {m n:Nat} {T:Tab} (h:rcB m n T=true):T.length=m /\ ∀c,c<m->(at_ Ai T c).length=n:=by
 unfold rcB at h
 simp only [AGc,decide_eq_true_eq,List.all_eq_true] at h
 refine ⟨h.1,fun c hc => ?_⟩
 have hlt:c<T.length:=by omega
 have e:at_ Ai T c=T[c]:=AM (e:=Ai) hlt
 rw [e]
 exact h.2 _ (AGk hlt)
theorem Ahq {m n:Nat} {T:Tab} (h:rcB m n T=true) {c x:Nat} (hc:c<m) (hx:x<n):at_ I (at_ Ai T c) x=AS T (c:Int) (x:Int):=by
 obtain ⟨h1,h2⟩:=D9 h
 have hlt:c<T.length:=by omega
 have e:at_ Ai T c=T[c]:=AM (e:=Ai) hlt
 have h3:=h2 c hc
 rw [e] at h3 |-
 have e2:at_ I T[c] x=T[c][x]:=AM (e:=I) (by omega)
 rw [e2]
 unfold AS
 simp only [Int.toNat_natCast,AGm,AGn hlt,Option.getD_some]
 rw [AGn (by omega)]
 rfl
theorem M9 (m n:Nat) (f:Nat->Nat->Int):rcB m n (ER m n f)=true:=by
 unfold rcB ER
 simp
theorem ADn {m n:Nat} {T:Tab} (h:rcB m n T=true) {c:Nat} (hc:c<m):at_ Ai T c=(List.range n).map fun (x:Nat)=>AS T (c:Int) (x:Int):=by
 obtain ⟨h1,h2⟩:=D9 h
 have h3:=h2 c hc
 apply List.ext_getElem
 ·simp [h3]
 ·intro i i1 i2
  have hi:i<n:=by omega
  rw [List.getElem_map,List.getElem_range,<- Ahq h hc hi]
  exact (AM (e:=I) i1).symm
theorem Vx {m n:Nat} {T:Tab} (h:rcB m n T=true):ER m n (fun c x=>AS T (c:Int) (x:Int))=T:=by
 obtain ⟨h1,h2⟩:=D9 h
 apply List.ext_getElem
 ·rw [ZX,h1]
 ·intro c c1 c2
  have hc:c<m:=by omega
  have e:at_ Ai T c=T[c]:=AM (e:=Ai) c2
  rw [<- e,ADn h hc]
  simp [ER]
def Y1 (m n:Nat) (T:Tab):Nat:=(List.range (m*n)).countP fun i=>decide (AS T ((i / n:Nat):Int) ((i % n:Nat):Int)<0)
theorem Hv {cf mv:List (List Int)} {ball:Int->List Int} {n:Nat} {T:Tab}:Rq cf mv ball n T=true ↔ ∃c x,c<cf.length/\x<n/\Ib cf mv ball T c x=true:=by
 unfold Rq
 simp only [List.any_eq_true,List.mem_range]
 constructor
 ·rintro ⟨c,hc,r,hr,h⟩
  exact ⟨c,r,hc,hr,h⟩
 ·rintro ⟨c,r,hc,hr,h⟩
  exact ⟨c,hc,r,hr,h⟩
theorem ZM {cf mv:List (List Int)} {ball:Int->List Int} {n:Nat} {t:Int} {T:Tab} {c x:Nat} (hc:c<cf.length) (hx:x<n):AS (J0 cf mv ball n t T) (c:Int) (x:Int)=if Ib cf mv ball T c x=true then t else AS T (c:Int) (x:Int):=An2 _ hc hx
theorem Afj {cf mv:List (List Int)} {ball:Int->List Int} {n:Nat} {t:Int} (ht:0<=t) {T:Tab} (h:Rq cf mv ball n T=true):Y1 cf.length n (J0 cf mv ball n t T)<Y1 cf.length n T:=by
 obtain ⟨c,x,hc,hx,hcan⟩:=Hv.1 h
 have hdiv:∀i,i<cf.length*n->i / n<cf.length/\i % n<n:=fun i hi=>by
  have hn:0<n:=by omega
  exact ⟨(Nat.div_lt_iff_lt_mul hn).2 hi,Nat.mod_lt _ hn⟩
 have hsub:=QY (p:=fun i=>decide (AS T ((i / n:Nat):Int) ((i % n:Nat):Int)<0)) (q:=fun i=>decide (AS (J0 cf mv ball n t T) ((i / n:Nat):Int) ((i % n:Nat):Int)<0)) (l:=List.range (cf.length*n)) (fun i hi h=>by
  obtain ⟨d1,d2⟩:=hdiv i (List.mem_range.1 hi)
  have h:=of_decide_eq_true h
  rw [ZM d1 d2] at h
  split at h
  ·omega
  ·exact decide_eq_true h)
 refine hsub.2 ⟨c*n+x,?_,?_,?_⟩
 ·rw [List.mem_range]
  have:(c+1)*n<=cf.length*n:=Nat.mul_le_mul_right _ hc
  rw [Nat.succ_mul] at this
  omega
 all_goals
  have e1:(c*n+x) / n=c:=by
   rw [Nat.mul_comm,Nat.mul_add_div (by omega),Nat.div_eq_of_lt hx]
   omega
  have e2:(c*n+x) % n=x:=by
   rw [Nat.mul_comm,Nat.mul_add_mod,Nat.mod_eq_of_lt hx]
  simp only [e1,e2]
 ·unfold Ib at hcan
  simp only [AGc] at hcan
  exact hcan.1
 ·rw [ZM hc hx,if_pos hcan]
  simpa using ht
theorem Ast (m n:Nat) (T:Tab):Y1 m n T<=m*n:=by
 unfold Y1
 have:=List.countP_le_length (p:=fun i=>decide (AS T ((i / n:Nat):Int) ((i % n:Nat):Int)<0)) (l:=List.range (m*n))
 simpa using this
theorem Acg {cf mv:List (List Int)} {ball:Int->List Int} {n:Nat} {t:Int} {T:Tab} (hT:rcB cf.length n T=true) (h:Rq cf mv ball n T=false):J0 cf mv ball n t T=T:=by
 refine Eq.trans (I0 fun c x hc hx=>if_neg fun hh => ?_) (Vx hT)
 have:=Hv.2 ⟨c,x,hc,hx,hh⟩
 rw [h] at this
 cases this
theorem Fl {n:Nat} {cf mv:List (List Int)} (h:gmB n cf mv=true):cf.length<=120/\mv.length=cf.length/\(∀c,c<cf.length->(at_ Ai cf c).length<=3/\cf.getD c []=at_ Ai cf c /\ ∀x∈at_ Ai cf c,inB 0 ((n:Int)-1) x=true) /\
  (∀c,c<cf.length->(at_ Ai mv c).length<=1000/\mv.getD c []=at_ Ai mv c /\ ∀d∈at_ Ai mv c,inB 0 ((cf.length:Int)-1) d=true):=by
 unfold gmB at h
 simp only [AGc,decide_eq_true_eq,List.all_eq_true] at h
 obtain ⟨⟨⟨h1,h2⟩,h3⟩,h4⟩:=h
 refine ⟨h1,h2,fun c hc => ?_,fun c hc => ?_⟩
 ·have e:at_ Ai cf c=cf[c]:=AM (e:=Ai) hc
  have:=h3 _ (AGk hc)
  rw [e]
  refine ⟨this.1,?_,this.2⟩
  rw [AGm,AGn hc]
  rfl
 ·have hc2:c<mv.length:=by omega
  have e:at_ Ai mv c=mv[c]:=AM (e:=Ai) hc2
  have:=h4 _ (AGk hc2)
  rw [e]
  refine ⟨this.1,?_,this.2⟩
  rw [AGm,AGn hc2]
  rfl
open Go.Proofs
theorem Lt {l:List Int} {v u:Unit} {cf mv:List (List Int)} {T:Tab} (h:cgB ((l,v),cf,mv,T,u)=true):Eo l=true/\1<=l.length/\gmB l.length cf mv=true/\rcB cf.length l.length T=true:=by
 unfold cgB at h
 simp only [AGc,decide_eq_true_eq] at h
 exact ⟨h.1.1.1,h.1.1.2,h.1.2,h.2⟩
theorem Ub {l:List Int} (hl:Eo l=true) {cf:List (List Int)} {T:Tab} (hT:rcB cf.length l.length T=true) {d x:Nat} (hd:d<cf.length) (hx:x<l.length) (v u:Unit):BG ((l,v),at_ Ai T d,(x:Int),u)=some (AW (AS T (d:Int)) (AH l (x:Int)) 0,()):=by
 obtain ⟨t1,t2⟩:=D9 hT
 have hlen:decide ((at_ Ai T d).length=l.length)=true:=decide_eq_true (t2 d hd)
 have i2:inB 0 ((l.length:Int)-1) (x:Int)=true:=AX.2 (by omega)
 have hlt:d<T.length:=by omega
 have ea:at_ Ai T d=T.getD d []:=by
  have:at_ Ai T d=T[d]:=AM (e:=Ai) hlt
  rw [this,AGm,AGn hlt]
  rfl
 unfold BG
 simp only [hl,hlen,i2,Bool.and_self,if_true]
 rw [ea]
 rfl
theorem Adk {l:List Int} {v u:Unit} {cf mv:List (List Int)} {T:Tab} (h:cgB ((l,v),cf,mv,T,u)=true) {d x:Nat} (hd:d<cf.length) (hx:x<l.length) (a b e:Unit):SA ((d:Int),(a,((l,v),cf,mv,T,u),(x:Int),b),e)=some (decide (0<=Cd cf (AH l) T (d:Int) (x:Int)),()):=by
 obtain ⟨h1,h2,h3,h4⟩:=Lt h
 obtain ⟨g1,g2,g3,g4⟩:=Fl h3
 obtain ⟨y1,y2,y3⟩:=g3 d hd
 obtain ⟨t1,t2⟩:=D9 h4
 have i1:Af (d:Int) T.length=true:=Ad (by omega)
 unfold SA WE Cd
 simp only [Ad hd,if_true,Int.toNat_natCast,ABz (Fp (show (at_ Ai cf d).length<=1048576 by omega)),Option.bind_some,y2,i1,Ub h1 h4 hd hx]
 by_cases hh:FT (at_ Ai cf d) (x:Int)=true
 ·simp only [hh,if_true]
  rfl
 ·simp only [hh,AGb,if_false]
theorem ZO (d) (r) (h:Ie d=some r):∃N,VT N d=some r:=by
 obtain ⟨xs,⟨a,⟨⟨l,v⟩,cf,mv,T,u⟩,q,b⟩,_⟩:=d
 unfold Ie at h
 split at h
 ·rename_i hc
  simp only [AGc,decide_eq_true_eq] at hc
  obtain ⟨⟨⟨hg,hq'⟩,hlen⟩,hxs⟩:=hc
  obtain ⟨q,rfl,hq⟩:=Ah6 hq'
  have h:=AGg h
  subst h
  have hlen:xs.length<=1000:=hlen
  have hmx:xs.length<=maxLen:=by unfold maxLen;omega
  refine ⟨xs.length+1,?_⟩
  unfold VT
  have:=E4 (L:=RW (xs.length+1)) (r:=KL (xs.length+1)) (fun _ _=>rfl) (e:=I) xs (mk:=fun i=>(xs,(a,((l,v),cf,mv,T,u),(q:Int),b),(xs.length:Int),(i:Int),())) (q:=fun b=>decide (0<=Cd cf (AH l) T b (q:Int))) (o:=fun i=>.inl ((i:Int),())) (f:=.inr (.inl ()))
   (by
    intro back i hi
    have hx:at_ I xs i=xs[i]:=AM (e:=I) hi
    obtain ⟨y,b1,b2⟩:=Ah6 (List.all_eq_true.1 hxs xs[i] (AGk hi))
    have hcan:=Adk hg b2 hq a b ()
    rw [<- b1] at hcan
    unfold KL
    simp only [Az hi,if_true,Ad hi,Int.toNat_natCast,A1 hi hmx,hx,hcan,Option.bind_some])
   (by intro back;unfold KL;simp only [AL,AGb,if_false]) xs.length 0 (by omega) (by omega)
  simp only [Int.natCast_zero,List.drop_zero] at this
  simp only [this,Option.bind_some]
  cases Gs (fun b=>decide (0<=Cd cf (AH l) T b (q:Int))) xs 0<;>rfl
 ·cases h
theorem Api {l:List Int} {v u:Unit} {cf mv:List (List Int)} {T:Tab} (h:cgB ((l,v),cf,mv,T,u)=true) {c x:Nat} (hc:c<cf.length) (hx:x<l.length) (b:Unit):Up 0 (((l,v),cf,mv,T,u),(c:Int),(x:Int),b)=some ((at_ Ai mv c).any (fun d=>decide (0<=Cd cf (AH l) T d (x:Int))),()):=by
 obtain ⟨h1,h2,h3,h4⟩:=Lt h
 obtain ⟨g1,g2,g3,g4⟩:=Fl h3
 obtain ⟨m1,m2,m3⟩:=g4 c hc
 have i1:Af (c:Int) mv.length=true:=Ad (by omega)
 have i2:inB 0 ((l.length:Int)-1) (x:Int)=true:=AX.2 (by omega)
 have hall:(at_ Ai mv c).all (inB 0 ((cf.length:Int)-1))=true:=List.all_eq_true.2 m3
 have hlen:decide ((at_ Ai mv c).length<=1000)=true:=decide_eq_true m1
 unfold Up Xp
 simp only [i1,if_true,Int.toNat_natCast,Ie,h,i2,hlen,hall,Bool.and_self,Option.bind_some,FA]
theorem Aud {c:List Int} {j:Nat} (hj:j<c.length) (x:Int):FT (c.take (j+1)) x=(FT (c.take j) x||c[j]==x):=by
 unfold FT
 rw [List.take_add_one,List.any_append,AGn hj]
 simp
theorem AEv (N:Nat) (w:Nt) (y:Cg) (a:List (List Int)) (b e:Int) (n:Nat) (c:List Int) (hc3:c.length<=3) (hc:∀x∈c,inB 0 ((n:Int)-1) x=true):∀q j f,j+q=c.length->q<f ->
  RP N f (w,y,(List.range n).map (fun (x:Nat)=>if FT (c.take j) (x:Int)=true then (0:Int) else -1),a,b,e,c,(c.length:Int),(j:Int),())=some (.inl (w,y,(List.range n).map (fun (x:Nat)=>if FT c (x:Int)=true then (0:Int) else -1),a,b,e,())):=by
 intro q
 induction q with
 | zero=>
  intro j f e1 e2
  obtain ⟨f,rfl⟩:∃m,f=m+1:=⟨f-1,by omega⟩
  have e:j=c.length:=by omega
  subst e
  rw [List.take_of_length_le (AGf _)]
  show Ih _ _ _=_
  unfold Ih
  simp only [AL,AGb,if_false]
 | succ q ih=>
  intro j f e1 e2
  obtain ⟨f,rfl⟩:∃m,f=m+1:=⟨f-1,by omega⟩
  have hj:j<c.length:=by omega
  obtain ⟨z,hz,hzn⟩:=Ah6 (hc c[j] (AGk hj))
  have ej:at_ I c j=(z:Int):=(AM (e:=I) hj).trans hz
  have i1:∀g:Nat->Int,Af (z:Int) ((List.range n).map g).length=true:=fun g=>Ad (by simpa using hzn)
  have fin:=ih (j+1) f (by omega) (by omega)
  have er:(List.range n).map (fun (x:Nat)=>if FT (c.take (j+1)) (x:Int)=true then (0:Int) else -1)=((List.range n).map (fun (x:Nat)=>if FT (c.take j) (x:Int)=true then (0:Int) else -1)).set z 0:=by
   rw [map_set]
   refine List.map_congr_left fun x _ => ?_
   rw [Aud hj,hz]
   by_cases exz:x=z
   ·subst exz;simp
   ·have:((z:Int)==(x:Int))=false:=by simp;omega
    rw [this,Bool.or_false,if_neg exz]
  rw [er] at fin
  show Ih _ _ _=_
  unfold Ih
  simp only [Az hj,if_true,Ad hj,Int.toNat_natCast,ej,i1,A0 (show j<=100000 by omega)]
  exact fin
theorem ADu (N:Nat) (hN:10<=N) (l:List Int) (v:Unit) (h1:1<=l.length) (h8:l.length<=8) (net:Nt) (cf mv:List (List Int)) (u:Unit) (hg:gmB l.length cf mv=true):∀q i f (acc:Tab),i+q=cf.length->q<f->acc.length+q<=1000 ->
  RR N f ((l,v),(net,cf,mv,acc,u),cf,(cf.length:Int),(i:Int),())=some (.inl ((net,cf,mv,acc++(List.range' i q).map (fun c=>(List.range l.length).map (fun (x:Nat)=>if FT (cf.getD c []) (x:Int)=true then (0:Int) else -1)),u),())):=by
 obtain ⟨g1,g2,g3,g4⟩:=Fl hg
 intro q
 induction q with
 | zero=>
  intro i f acc e1 e2 e3
  obtain ⟨f,rfl⟩:∃m,f=m+1:=⟨f-1,by omega⟩
  have e:i=cf.length:=by omega
  subst e
  show H6 _ _ _=_
  unfold H6
  simp only [AL,AGb,if_false,List.range'_zero,List.map_nil,List.append_nil]
 | succ q ih=>
  intro i f acc e1 e2 e3
  obtain ⟨f,rfl⟩:∃m,f=m+1:=⟨f-1,by omega⟩
  have hi:i<cf.length:=by omega
  obtain ⟨y1,y2,y3⟩:=g3 i hi
  have hr:DP ([-1],(l.length:Int),())=some ((List.range l.length).map (fun (x:Nat)=>if FT ((at_ Ai cf i).take 0) (x:Int)=true then (0:Int) else -1),()):=by
   unfold DP
   have e1:decide (1<=(l.length:Int))=true:=by simp;omega
   have e2:decide ((l.length:Int)<=8)=true:=by simp;omega
   simp only [List.length_singleton,decide_true,e1,e2,Bool.and_self,if_true,Int.toNat_natCast,List.headD_cons]
   congr 2
   apply List.ext_getElem
   ·simp
   ·intro i h1 h2
    simp [FT]
  have hin:=AEv N (l,v) (net,cf,mv,acc,u) cf (cf.length:Int) (i:Int) l.length (at_ Ai cf i) y1 y3 (at_ Ai cf i).length 0 N (by omega) (by omega)
  simp only [Int.natCast_zero] at hin
  have c1:∀x:List Int,decide (acc.length+List.length [x]<=lim)=true:=fun x=>by unfold lim;simp;omega
  show H6 _ _ _=_
  unfold H6 E8
  simp only [Az hi,if_true,Ad hi,Int.toNat_natCast,hr,Option.bind_some,hin,c1,A0 (show i<=100000 by omega)]
  rw [ih (i+1) f _ (by omega) (by omega) (by simp;omega),List.range'_succ,List.map_cons,List.append_assoc,List.singleton_append,y2]
theorem AFd (N:Nat) {l:List Int} {v u:Unit} {cf mv:List (List Int)} {T:Tab} (h:cgB ((l,v),cf,mv,T,u)=true) (t:Int) (fd:Bool) (c:Nat) (hc:c<cf.length) (a b:Int):∀(k x f:Nat) (fresh:List E),x+k=l.length->k<f->fresh.length+k<=2000 ->
  Sp N f (((l,v),cf,mv,T,u),t,fd,fresh,(c:Int),a,b,(l.length:Int),(x:Int),(),(c:Int),()) =
   some (.inl (((l,v),cf,mv,T,u),t,fd,fresh++Ho (Ib cf mv (AH l) T) c k x,a,b,(),())):=by
 obtain ⟨h1,h2,h3,h4⟩:=Lt h
 obtain ⟨g1,g2,g3,g4⟩:=Fl h3
 obtain ⟨m1,m2,m3⟩:=g4 c hc
 obtain ⟨t1,t2⟩:=D9 h4
 obtain ⟨p1,p2,p3,p4⟩:=CR h1
 intro k
 induction k with
 | zero=>
  intro x f fresh e1 e2 e3
  obtain ⟨f,rfl⟩:∃m,f=m+1:=⟨f-1,by omega⟩
  have e:x=l.length:=by omega
  subst e
  show H3 _ _ _=_
  unfold H3
  simp only [AL,AGb,if_false,Ho,List.append_nil]
 | succ k ih=>
  intro x f fresh e1 e2 e3
  obtain ⟨f,rfl⟩:∃m,f=m+1:=⟨f-1,by omega⟩
  have hx:x<l.length:=by omega
  have i2:Af (x:Int) (at_ Ai T c).length=true:=Ad (by rw [t2 c hc];exact hx)
  have hv:=Ahq h4 hc hx
  have hle:decide (fresh.length+List.length [(((c:Int),(x:Int),()):E)]<=lim)=true:=by
   unfold lim
   simp
   omega
  show H3 _ _ _=_
  unfold H3
  simp only [Az hx,if_true,Int.toNat_natCast,i2,hv,Api h hc hx,Option.bind_some,hle,A0 (show x<=100000 by omega),Ho]
  have hcan:Ib cf mv (AH l) T c x=(decide (AS T (c:Int) (x:Int)<0)&&(at_ Ai mv c).any (fun d=>decide (0<=Cd cf (AH l) T d (x:Int)))):=by
   unfold Ib
   rw [m2]
  by_cases hf:AS T (c:Int) (x:Int)<0
  ·cases hany:(at_ Ai mv c).any (fun d=>decide (0<=Cd cf (AH l) T d (x:Int))) with
   | true=>
    rw [hany] at hcan
    simp only [hf,decide_true,Bool.and_self] at hcan
    simp only [hf,decide_true,if_true,hcan]
    rw [ih (x+1) f _ (by omega) (by omega) (by simp;omega)]
    simp
   | false=>
    rw [hany,Bool.and_false] at hcan
    simp only [hf,decide_true,if_true,hcan,AGb,if_false]
    exact ih (x+1) f fresh (by omega) (by omega) (by omega)
  ·simp only [hf,decide_false,Bool.false_and] at hcan
   simp only [hf,decide_false,AGb,if_false,hcan]
   exact ih (x+1) f fresh (by omega) (by omega) (by omega)
theorem AEn (N:Nat) (hN:10<=N) {l:List Int} {v u:Unit} {cf mv:List (List Int)} {T:Tab} (h:cgB ((l,v),cf,mv,T,u)=true) (t:Int) (fd:Bool):∀(k c f:Nat) (fresh:List E),c+k=cf.length->k<f->fresh.length+8*k<=1000 ->
  So N f (((l,v),cf,mv,T,u),t,fd,fresh,(cf.length:Int),(c:Int),(),()) =
   some (.inl (((l,v),cf,mv,T,u),t,fd,fresh++LX (Ib cf mv (AH l) T) l.length k c,())):=by
 obtain ⟨h1,h2,h3,h4⟩:=Lt h
 obtain ⟨g1,g2,g3,g4⟩:=Fl h3
 obtain ⟨t1,t2⟩:=D9 h4
 obtain ⟨p1,p2,p3,p4⟩:=CR h1
 intro k
 induction k with
 | zero=>
  intro c f fresh e1 e2 e3
  obtain ⟨f,rfl⟩:∃m,f=m+1:=⟨f-1,by omega⟩
  have e:c=cf.length:=by omega
  subst e
  show Ir _ _ _=_
  unfold Ir
  simp only [AL,AGb,if_false,LX,List.append_nil]
 | succ k ih=>
  intro c f fresh e1 e2 e3
  obtain ⟨f,rfl⟩:∃m,f=m+1:=⟨f-1,by omega⟩
  have hc:c<cf.length:=by omega
  have i1:Af (c:Int) T.length=true:=Ad (by omega)
  have hin:=AFd N h t fd c hc (cf.length:Int) (c:Int) l.length 0 N fresh (by omega) (by omega) (by omega)
  simp only [Int.natCast_zero] at hin
  have hrl:=Ue (p:=Ib cf mv (AH l) T) (x:=c) (m:=l.length) (y:=0)
  show Ir _ _ _=_
  unfold Ir
  simp only [Az hc,if_true,i1,Int.toNat_natCast,t2 c hc,hin,Option.bind_some,A0 (show c<=100000 by omega),LX]
  rw [ih (c+1) f _ (by omega) (by omega) (by simp;omega),List.append_assoc]
theorem Ar6 {m n:Nat} {g:Nat->Nat->Int} {x z:Nat} (hx:x<m) (hz:z<n) (t:Int):List.set (ER m n g) x (List.set (at_ Ai (ER m n g) x) z t)=ER m n fun c r=>if c=x/\r=z then t else g c r:=by
 have hl:x<(ER m n g).length:=by rw [ZX];exact hx
 have e:at_ Ai (ER m n g) x=(ER m n g)[x]:=AM (e:=Ai) hl
 have hrow:=Za (n:=n) g hx
 rw [AGn hl] at hrow
 rw [e,AGg hrow,map_set]
 apply List.ext_getElem
 ·simp [ER]
 ·intro i h1 h2
  rw [List.getElem_set]
  by_cases ei:x=i
  ·subst ei
   simp only [if_true,ER,List.getElem_map,List.getElem_range,true_and]
  ·have ei':¬i=x:=fun h=>ei h.symm
   simp only [ei,if_false,ER,List.getElem_map,List.getElem_range,ei',false_and]
theorem AA6 (N:Nat) (w:Nt) (cf mv:List (List Int)) (u:Unit) (m n:Nat) (t:Int) (fresh:List E) (hfr:∀e∈fresh,∃x z:Nat,x<m/\z<n/\e=((x:Int),(z:Int),())) (hl:fresh.length<=1000):∀(k i f:Nat) (g:Nat->Nat->Int) (fd:Bool),i+k=fresh.length->k<f ->
  MO N f ((w,cf,mv,ER m n g,u),t,fd,fresh,(fresh.length:Int),(i:Int),()) =
   some (.inl ((w,cf,mv,ER m n (fun c r=>if (fresh.drop i).any (isP c r)=true then t else g c r),u),t,fd||decide (0<k),())):=by
 intro k
 induction k with
 | zero=>
  intro i f g fd h1 h2
  obtain ⟨f,rfl⟩:∃m,f=m+1:=⟨f-1,by omega⟩
  have e:i=fresh.length:=by omega
  subst e
  show GL _ _ _=_
  unfold GL
  rw [AGi (AGf _)]
  simp only [AL,AGb,if_false,List.any_nil,Nat.lt_irrefl,decide_false,Bool.or_false]
 | succ k ih=>
  intro i f g fd h1 h2
  obtain ⟨f,rfl⟩:∃m,f=m+1:=⟨f-1,by omega⟩
  have hi:i<fresh.length:=by omega
  obtain ⟨x,z,hx,hz,ee⟩:=hfr fresh[i] (AGk hi)
  have e:at_ Am fresh i=((x:Int),(z:Int),()):=(AM (e:=Am) hi).trans ee
  obtain ⟨t1,t2⟩:=D9 (M9 m n g)
  have i1:Af (x:Int) (ER m n g).length=true:=Ad (by omega)
  have i2:Af (z:Int) (at_ Ai (ER m n g) x).length=true:=Ad (by rw [t2 x hx];exact hz)
  show GL _ _ _=_
  unfold GL
  simp only [Az hi,if_true,Ad hi,Int.toNat_natCast,e,i1,i2,A0 (show i<=100000 by omega),Ar6 hx hz]
  rw [ih (i+1) f _ true (by omega) (by omega),AGj hi,ee]
  have et:ER m n (fun c r=>if (fresh.drop (i+1)).any (isP c r)=true then t else if c=x/\r=z then t else g c r)=ER m n fun c r=>if (((x:Int),(z:Int),())::fresh.drop (i+1)).any (isP c r)=true then t else g c r:=I0 fun c r _ _=>by
   rw [List.any_cons]
   by_cases h3:(fresh.drop (i+1)).any (isP c r)=true
   ·simp [h3]
   ·have h3':(fresh.drop (i+1)).any (isP c r)=false:=by simpa using h3
    by_cases h4:c=x/\r=z
    ·have:isP c r ((x:Int),(z:Int),())=true:=by
      unfold isP
      simp [h4.1,h4.2]
     rw [if_neg h3,if_pos h4,this,Bool.true_or,if_pos rfl]
    ·have:isP c r ((x:Int),(z:Int),())=false:=by
      unfold isP
      simp only [Bool.and_eq_false_iff,beq_eq_false_iff_ne,ne_eq]
      by_cases h5:c=x
      ·exact .inr fun h=>h4 ⟨h5,by omega⟩
      ·exact .inl fun h=>h5 (by omega)
     simp [h3',h4,this]
  rw [et]
  simp
theorem Ajr {p:Nat->Nat->Bool} {m n c r:Nat} (hc:c<m) (hr:r<n):(LX p n m 0).any (isP c r)=p c r:=by
 apply Bool.eq_iff_iff.2
 rw [List.any_eq_true]
 constructor
 ·rintro ⟨e,he,h⟩
  obtain ⟨x,z,h1,h2,h3,h4,rfl⟩:=JN.1 he
  unfold isP at h
  simp only [AGc,beq_iff_eq] at h
  have e1:x=c:=by omega
  have e2:z=r:=by omega
  subst e1 e2
  exact h4
 ·intro h
  exact ⟨((c:Int),(r:Int),()),JN.2 ⟨c,r,Nat.zero_le _,by omega,hr,h,rfl⟩,by unfold isP;simp⟩
theorem Anf {cf mv:List (List Int)} {ball:Int->List Int} {n:Nat} {T:Tab}:decide (0<(LX (Ib cf mv ball T) n cf.length 0).length)=Rq cf mv ball n T:=by
 apply Bool.eq_iff_iff.2
 rw [decide_eq_true_eq,Hv]
 constructor
 ·intro h
  obtain ⟨x,z,h1,h2,h3,h4,_⟩:=JN.1 (AGk h)
  exact ⟨x,z,by omega,h3,h4⟩
 ·rintro ⟨c,r,hc,hr,h⟩
  exact List.length_pos_of_mem (JN.2 ⟨c,r,Nat.zero_le _,by omega,hr,h,rfl⟩)
theorem AFi (N:Nat) (hN:2000<=N) {l:List Int} {v u:Unit} {cf mv:List (List Int)} (hl:Eo l=true) (h1:1<=l.length) (hg:gmB l.length cf mv=true):∀(k t:Nat) (T:Tab),rcB cf.length l.length T=true->t+k<=2000->Y1 cf.length l.length T<k -> ∀f,k+1<=f ->
  Sb N f (((l,v),cf,mv,T,u),(t:Int),true,())=some (.inl (((l,v),cf,mv,JX cf mv (AH l) l.length k (t:Int) T,u),())):=by
 obtain ⟨g1,g2,g3,g4⟩:=Fl hg
 obtain ⟨p1,p2,p3,p4⟩:=CR hl
 intro k
 induction k with
 | zero=>intro t T _ _ h;omega
 | succ k ih=>
  intro t T hT ht hng f hf
  obtain ⟨f,rfl⟩:∃m,f=m+1:=⟨f-1,by omega⟩
  have h:cgB ((l,v),cf,mv,T,u)=true:=by
   unfold cgB
   simp only [hl,hg,hT,h1,decide_true,Bool.and_self]
  obtain ⟨t1,t2⟩:=D9 hT
  have h6:=AEn N (by omega) h (t:Int) false cf.length 0 N [] (by omega) (by omega) (by simp;omega)
  simp only [Int.natCast_zero,List.nil_append] at h6
  have hlen:=Au1 (p:=Ib cf mv (AH l) T) (n:=l.length) (k:=cf.length) (c:=0)
  have hnn:l.length*cf.length<=8*120:=Nat.mul_le_mul p3 g1
  have h10:=AA6 N (l,v) cf mv u cf.length l.length (t:Int) (LX (Ib cf mv (AH l) T) l.length cf.length 0) (fun e he=>by
   obtain ⟨x,z,_,h2,h3,_,h5⟩:=JN.1 he
   exact ⟨x,z,by omega,h3,h5⟩) (by omega) (LX (Ib cf mv (AH l) T) l.length cf.length 0).length 0 N (fun c x=>AS T (c:Int) (x:Int)) false (by omega) (by omega)
  rw [Vx hT] at h10
  simp only [Int.natCast_zero,List.drop_zero,Bool.false_or,Anf] at h10
  have et:ER cf.length l.length (fun c r=>if (LX (Ib cf mv (AH l) T) l.length cf.length 0).any (isP c r)=true then (t:Int) else AS T (c:Int) (r:Int))=J0 cf mv (AH l) l.length (t:Int) T:=I0 fun c r hc hr=>by
   rw [Ajr hc hr]
  rw [et] at h10
  show N7 _ _ _=_
  unfold N7
  simp only [if_true,t1,h6,Option.bind_some,h10,A0 (show t<=100000 by omega),JX]
  by_cases ha:Rq cf mv (AH l) l.length T=true
  ·rw [if_pos ha,ha]
   have:=Afj (t:=(t:Int)) (by omega) ha
   exact ih (t+1) (J0 cf mv (AH l) l.length (t:Int) T) (M9 _ _ _) (by omega) (by omega) f (by omega)
  ·have ha':Rq cf mv (AH l) l.length T=false:=(Bool.not_eq_true _).mp ha
   rw [if_neg ha,ha',Acg hT ha']
   obtain ⟨f,rfl⟩:∃m,f=m+1:=⟨f-1,by omega⟩
   rfl
theorem ZK (d) (r) (h:Gz d=some r):∃N,Xq N d=some r:=by
 obtain ⟨⟨l,v⟩,k,_⟩:=d
 unfold Gz at h
 split at h
 ·rename_i hc
  simp only [AGc,decide_eq_true_eq] at hc
  obtain ⟨⟨hl,h1⟩,hk⟩:=hc
  have hl:Eo l=true:=hl
  have h1:1<=l.length:=h1
  have hk2:=AX.1 hk
  obtain ⟨p1,p2,p3,p4⟩:=CR hl
  have h:=AGg h
  subst h
  refine ⟨2000,?_⟩
  have hg:=ZT (n:=l.length) p3 (k:=k.toNat) (by omega) (ball:=AH l) (fun x _=>D1 l _) (fun x hx=>Zh hl hx)
  obtain ⟨g1,g2,g3,g4⟩:=Fl hg
  have hb:Fk ((l,v),k,())=some (((l,v),AG l.length k.toNat,C9 (AH l) (AG l.length k.toNat),[],()),()):=by
   unfold Fk
   simp only [hl,hk,Bool.and_self,if_true]
  have h0:=ADu 2000 (by omega) l v h1 p3 (l,v) (AG l.length k.toNat) (C9 (AH l) (AG l.length k.toNat)) () hg (AG l.length k.toNat).length 0 2000 [] (by omega) (by omega) (by simp;omega)
  simp only [Int.natCast_zero,List.nil_append,<- List.range_eq_range'] at h0
  have e0:(List.range (AG l.length k.toNat).length).map (fun c=>(List.range l.length).map (fun (x:Nat)=>if FT ((AG l.length k.toNat).getD c []) (x:Int)=true then (0:Int) else -1))=Pq (AG l.length k.toNat) l.length:=rfl
  rw [e0] at h0
  have hneg:=Ast (AG l.length k.toNat).length l.length (Pq (AG l.length k.toNat) l.length)
  have hmul:(AG l.length k.toNat).length*l.length<=120*8:=Nat.mul_le_mul g1 p3
  have h4:=AFi 2000 (by omega) (v:=v) (u:=()) hl h1 hg 1000 1 (Pq (AG l.length k.toNat) l.length) (M9 _ _ _) (by omega) (by omega) 2000 (by omega)
  have e1:((1:Nat):Int)=1:=rfl
  rw [e1] at h4
  unfold Xq
  simp only [hb,Option.bind_some,h0,h4]
  rfl
 ·cases h
open Go.Proofs
theorem ZI {cf:List (List Int)} {b1 b2:Int->List Int} {T:Tab} {d x:Int} (h:b1 x=b2 x):Cd cf b1 T d x=Cd cf b2 T d x:=by
 unfold Cd
 rw [h]
theorem LV {cf mv:List (List Int)} {b1 b2:Int->List Int} {T:Tab} {c x:Nat} (h:b1 (x:Int)=b2 (x:Int)):Ib cf mv b1 T c x=Ib cf mv b2 T c x:=by
 unfold Ib
 simp only [ZI (cf:=cf) (T:=T) h]
theorem Ae5 {cf mv:List (List Int)} {b1 b2:Int->List Int} {n:Nat} (h:∀x:Nat,x<n->b1 (x:Int)=b2 (x:Int)) (T:Tab):Rq cf mv b1 n T=Rq cf mv b2 n T:=by
 apply De
 rw [Hv,Hv]
 constructor
 ·rintro ⟨c,x,hc,hx,h2⟩
  exact ⟨c,x,hc,hx,by rw [<- LV (h x hx)];exact h2⟩
 ·rintro ⟨c,x,hc,hx,h2⟩
  exact ⟨c,x,hc,hx,by rw [LV (h x hx)];exact h2⟩
theorem Ya {cf mv:List (List Int)} {b1 b2:Int->List Int} {n:Nat} (h:∀x:Nat,x<n->b1 (x:Int)=b2 (x:Int)):∀(k:Nat) (t:Int) (T:Tab),JX cf mv b1 n k t T=JX cf mv b2 n k t T:=by
 intro k
 induction k with
 | zero=>intro t T;rfl
 | succ k ih=>
  intro t T
  unfold JX
  rw [Ae5 h T]
  have:J0 cf mv b1 n t T=J0 cf mv b2 n t T:=I0 fun c x hc hx=>by rw [LV (h x hx)]
  rw [this,ih]
theorem X9 {cf mv:List (List Int)} {b1 b2:Int->List Int} {n:Nat} (h:∀x:Nat,x<n->b1 (x:Int)=b2 (x:Int)):Kk cf mv b1 n=Kk cf mv b2 n:=Ya h _ _ _
theorem Ar2 {cf mv:List (List Int)} {ball:Int->List Int} {n:Nat}:∀(k:Nat) (t:Int) (T:Tab),rcB cf.length n T=true->rcB cf.length n (JX cf mv ball n k t T)=true:=by
 intro k
 induction k with
 | zero=>intro t T h;exact h
 | succ k ih=>
  intro t T h
  unfold JX
  split
  ·exact ih _ _ (M9 _ _ _)
  ·exact h
theorem Ard (cf mv:List (List Int)) (ball:Int->List Int) (n:Nat):rcB cf.length n (Kk cf mv ball n)=true:=Ar2 _ _ _ (M9 _ _ _)
theorem AEq (g:Gr) (k:Nat):rcB (cfG g k).length g.1.toNat (tmG g k)=true:=Ard _ _ _ _
theorem YW {n:Int} {es:List E} {v:Unit} {k:Int} (h:Ka (n,es,v) k=true):BI (n,es,v)=true /\ ∃m q:Nat,n=(m:Int)/\k=(q:Int)/\1<=m/\m<=8/\1<=q/\q<=3:=by
 unfold Ka at h
 simp only [AGc,decide_eq_true_eq] at h
 obtain ⟨⟨h1,h2⟩,h3⟩:=h
 obtain ⟨h4,h5⟩:=DZ h1
 have h3:=AX.1 h3
 exact ⟨h1,n.toNat,k.toNat,by omega,by omega,by omega,by omega,by omega,by omega⟩
theorem Alf {m q:Nat} {es:List E} {v:Unit} (hg:BI ((m:Int),es,v)=true) (ho:okL es=true) (h1:1<=m) (hq:q<=3) (u:Unit) :
  Gz ((toI (Er m es),()),(q:Int),u)=some (((toI (Er m es),()),cfG ((m:Int),es,v) q,mvG ((m:Int),es,v) q,tmG ((m:Int),es,v) q,()),())/\cgB ((toI (Er m es),()),cfG ((m:Int),es,v) q,mvG ((m:Int),es,v) q,tmG ((m:Int),es,v) q,())=true:=by
 obtain ⟨h0,h8⟩:=DZ hg
 have hm:m<=8:=by omega
 obtain ⟨g1,_⟩:=Dj hg
 obtain ⟨n1,n2⟩:=T9 hm g1
 have hk:inB 0 3 (q:Int)=true:=AX.2 (by omega)
 have e1:C9 (AH (toI (Er m es))) (AG m q)=C9 (Bx m es) (AG m q):=by
  unfold C9
  refine List.map_congr_left fun c hc => ?_
  rw [YF fun x hx => ?_]
  have:=Kh (Fa.1 hc).2 x hx
  obtain ⟨y,rfl,hy⟩:=Ah6 this
  exact Pd hm g1 hy
 have e2:Kk (AG m q) (C9 (Bx m es) (AG m q)) (AH (toI (Er m es))) m=Kk (AG m q) (C9 (Bx m es) (AG m q)) (Bx m es) m:=X9 fun x hx=>Pd hm g1 hx
 have hb:=ZT (n:=m) hm hq (ball:=Bx m es) (fun x _=>by have:=OO m es (x:Int);omega) (fun x _=>Asc es (x:Int))
 constructor
 ·unfold Gz
  have h1':decide (1<=m)=true:=decide_eq_true h1
  simp only [n1,n2,h1',hk,Bool.and_self,if_true,Int.toNat_natCast,e1,e2]
  rfl
 ·unfold cgB
  have h1':decide (1<=m)=true:=decide_eq_true h1
  have h2:=AEq ((m:Int),es,v) q
  simp only [Int.toNat_natCast] at h2
  have h3:gmB m (cfG ((m:Int),es,v) q) (mvG ((m:Int),es,v) q)=true:=by
   unfold mvG cfG
   simp only [Int.toNat_natCast]
   exact hb
  simp only [n1,n2,h1',h2,h3,Bool.and_self]
theorem Alg {g:Gr} (ho:okL g.2.1=true) (k:Int) (u:Unit):Tv 0 (g,k,u)=some (Ka g k,()):=by
 unfold Tv C2 Ka
 simp only [ho,if_true,Option.bind_some,Ip]
 cases BI g with
 | false=>simp only [AGb,if_false,Bool.false_and]
 | true=>
  cases decide (g.1>0) with
  | false=>simp only [AGb,if_false,if_true,Bool.and_false,Bool.false_and]
  | true=>simp only [if_true,Bool.true_and]
def ACn (g:Gr) (k:Int):Tab×Bool×Unit:=if Ka g k=true then (tmG g k.toNat,true,()) else ([],false,())
theorem AC2 {n:Int} {es:List E} {v:Unit} (ho:okL es=true) (k:Int) (u:Unit):P7 0 ((n,es,v),k,u)=some (ACn (n,es,v) k):=by
 unfold P7 ACn
 simp only [Alg (g:=(n,es,v)) ho]
 cases h:Ka (n,es,v) k with
 | false=>simp only [Option.bind_some,Bool.not_false,if_true,AGb,if_false]
 | true=>
  obtain ⟨hg,m,q,rfl,rfl,m1,m8,q1,q3⟩:=YW h
  obtain ⟨h1,_⟩:=Alf (v:=v) hg ho m1 q3 ()
  simp only [Option.bind_some,Bool.not_true,AGb,if_false,YJ hg ho,h1,if_true,Int.toNat_natCast]
open Go.Proofs
theorem Ai8 (after:Int->Int):∀(l:List Int) (b p:Int),Ij after l b p=b\/Ij after l b p∈l:=by
 intro l
 induction l with
 | nil=>intro b p;exact .inl rfl
 | cons d l ih=>
  intro b p
  unfold Ij
  split
  ·rcases ih d (after d) with h | h
   ·exact .inr (by rw [h];simp)
   ·exact .inr (by simp [h])
  ·rcases ih b p with h | h
   ·exact .inl h
   ·exact .inr (by simp [h])
structure TimI (cf mv:List (List Int)) (ball:Int->List Int) (n:Nat) (T:Tab):Prop where
 caught:∀c x:Nat,c<cf.length->x<n->FT (cf.getD c []) (x:Int)=true->AS T (c:Int) (x:Int)=0
 some:∀c x:Nat,c<cf.length->x<n->0<=AS T (c:Int) (x:Int)->FT (cf.getD c []) (x:Int)=true\/(1<=AS T (c:Int) (x:Int) /\ ∃d∈mv.getD c [],0<=Cd cf ball T d (x:Int))
open Go.Proofs
structure PlayI (m q:Nat) (es:List E) (v:Unit):Prop where
 hg:BI ((m:Int),es,v)=true
 ho:okL es=true
 m1:1<=m
 m8:m<=8
 q3:q<=3
open Go.Proofs
structure RoundI (cf mv:List (List Int)) (ball:Int->List Int) (n:Nat) (t:Int) (T:Tab):Prop where
 pos:1<=t
 low:∀c x:Nat,c<cf.length->x<n -> -1<=AS T (c:Int) (x:Int)
 high:∀c x:Nat,c<cf.length->x<n->AS T (c:Int) (x:Int)<t
 none:∀c x:Nat,c<cf.length->x<n->AS T (c:Int) (x:Int)<0 -> ∀d∈mv.getD c [],0<=Cd cf ball T d (x:Int)->t-1<=Cd cf ball T d (x:Int)
 ex:∀c x:Nat,c<cf.length->x<n->1<=AS T (c:Int) (x:Int) -> ∃d∈mv.getD c [],0<=Cd cf ball T d (x:Int)/\Cd cf ball T d (x:Int)+1<=AS T (c:Int) (x:Int)
 least:∀c x:Nat,c<cf.length->x<n->1<=AS T (c:Int) (x:Int) -> ∀d∈mv.getD c [],0<=Cd cf ball T d (x:Int)->AS T (c:Int) (x:Int)<=Cd cf ball T d (x:Int)+1
 zero:∀c x:Nat,c<cf.length->x<n->(AS T (c:Int) (x:Int)=0↔FT (cf.getD c []) (x:Int)=true)
structure TimesI (cf mv:List (List Int)) (ball:Int->List Int) (n:Nat) (T:Tab):Prop where
 low:∀c x:Nat,c<cf.length->x<n -> -1<=AS T (c:Int) (x:Int)
 none:∀c x:Nat,c<cf.length->x<n->AS T (c:Int) (x:Int)<0 -> ∀d∈mv.getD c [],Cd cf ball T d (x:Int)<0
 ex:∀c x:Nat,c<cf.length->x<n->1<=AS T (c:Int) (x:Int) -> ∃d∈mv.getD c [],0<=Cd cf ball T d (x:Int)/\Cd cf ball T d (x:Int)+1<=AS T (c:Int) (x:Int)
 least:∀c x:Nat,c<cf.length->x<n->1<=AS T (c:Int) (x:Int) -> ∀d∈mv.getD c [],0<=Cd cf ball T d (x:Int)->AS T (c:Int) (x:Int)<=Cd cf ball T d (x:Int)+1
 zero:∀c x:Nat,c<cf.length->x<n->(AS T (c:Int) (x:Int)=0↔FT (cf.getD c []) (x:Int)=true)
open Go.Proofs
theorem Ajd (after:Int->Int):∀(l:List Int) (b p:Int),(0<=b->0<=after b/\p=after b)->(∀d∈l,0<=d)->0<=Ij after l b p ->
  0<=after (Ij after l b p)/\(∀d∈l,0<=after d->after (Ij after l b p)<=after d)/\(0<=b->after (Ij after l b p)<=after b):=by
 intro l
 induction l with
 | nil=>
  intro b p hb _ h
  exact ⟨(hb h).1,fun d hd=>by simp at hd,fun _=>Int.le_refl _⟩
 | cons d l ih=>
  intro b p hb hl h
  have hd:=hl d (by simp)
  have hl':∀x∈l,0<=x:=fun x hx=>hl x (by simp [hx])
  unfold Ij at h |-
  by_cases h1:0<=after d/\(b<0\/after d<p)
  ·rw [if_pos h1] at h |-
   obtain ⟨i1,i2,i3⟩:=ih d (after d) (fun _=>⟨h1.1,rfl⟩) hl' h
   have i3:=i3 hd
   refine ⟨i1,fun x hx hax => ?_,fun hb0 => ?_⟩
   ·rcases List.mem_cons.1 hx with rfl | hx
    ·exact i3
    ·exact i2 x hx hax
   ·rcases h1.2 with h2 | h2
    ·omega
    ·have:=(hb hb0).2
     omega
  ·rw [if_neg h1] at h |-
   obtain ⟨i1,i2,i3⟩:=ih b p hb hl' h
   refine ⟨i1,fun x hx hax => ?_,i3⟩
   rcases List.mem_cons.1 hx with rfl | hx
   ·have hb0:0<=b:=Int.not_lt.1 fun hn=>h1 ⟨hax,.inl hn⟩
    have h2:¬after x<p:=fun hn=>h1 ⟨hax,.inr hn⟩
    have:=(hb hb0).2
    have:=i3 hb0
    omega
   ·exact i2 x hx hax
open Go.Proofs
theorem TP (n:Nat):AG n 1=(List.range n).map fun (i:Nat)=>[(i:Int)]:=by
 show ([[]]:List (List Int)).flatMap _=_
 simp only [List.flatMap_cons,List.flatMap_nil,List.append_nil,Nb,List.getLastD_nil,Int.toNat_zero,Nat.sub_zero,List.map_map,List.range_eq_range']
 rfl
theorem EY (n:Nat):(AG n 1).length=n:=by rw [TP];simp
theorem Gp {n c:Nat} (hc:c<n):(AG n 1).getD c []=[(c:Int)]:=by
 rw [TP,AGm]
 simp [hc]
theorem Vl {n y:Nat} (hy:y<n):G3 (AG n 1) [(y:Int)]=(y:Int):=by
 have hm:[(y:Int)]∈AG n 1:=by
  rw [TP]
  exact List.mem_map.2 ⟨y,List.mem_range.2 hy,rfl⟩
 obtain ⟨i,hi,h1,h2⟩:=T7 hm
 rw [EY] at hi
 rw [Gp hi] at h2
 rw [h1]
 simpa using h2
theorem Ve (y:Int):CX [y]=[y]:=List.perm_singleton.1 (Tz [y])
theorem UW {ball:Int->List Int} {c:Int} {m:List Int}:m∈Ec ball [c] ↔ ∃y∈ball c,m=[y]:=by
 unfold Ec
 rw [Y3,(GV _).mem_iff]
 simp only [chL,List.flatMap_cons,List.flatMap_nil,List.append_nil,List.nil_append,List.map_map,List.mem_map,Function.comp]
 constructor
 ·rintro ⟨y,hy,rfl⟩
  exact ⟨y,hy,Ve y⟩
 ·rintro ⟨y,hy,rfl⟩
  exact ⟨y,hy,Ve y⟩
theorem As2 {n:Nat} {ball:Int->List Int} (hb:EZ n ball) {c:Nat} (hc:c<n) {d:Int}:d∈(C9 ball (AG n 1)).getD c []↔d∈ball (c:Int):=by
 have hl:c<(AG n 1).length:=by rw [EY];exact hc
 have e:(C9 ball (AG n 1)).getD c []=(Ec ball [(c:Int)]).map (G3 (AG n 1)):=by
  unfold C9
  have hg:=Gp hc
  rw [AGm,AGn hl,Option.getD_some] at hg
  rw [AGm,List.getElem?_map,AGn hl,Option.map_some,Option.getD_some,hg]
 rw [e,List.mem_map]
 constructor
 ·rintro ⟨m,hm,rfl⟩
  obtain ⟨y,hy,rfl⟩:=UW.1 hm
  obtain ⟨y',h1,rfl⟩:=hb c hc y hy
  rw [Vl h1]
  exact hy
 ·intro hd
  obtain ⟨y',h1,rfl⟩:=hb c hc d hd
  exact ⟨[(y':Int)],UW.2 ⟨_,hd,rfl⟩,Vl h1⟩
theorem Vv {n:Nat} {ball:Int->List Int} {T:Tab} {d:Nat} (hd:d<n) (x:Int):Cd (AG n 1) ball T (d:Int) x=Aw ball T (d:Int) x:=by
 unfold Cd Aw
 rw [Int.toNat_natCast,Gp hd]
 by_cases e:(d:Int)=x
 ·rw [if_pos (show FT [(d:Int)] x=true by simp [FT,e]),if_pos e]
 ·rw [if_neg (show ¬FT [(d:Int)] x=true by simp [FT,e]),if_neg e]
theorem XS {n:Nat} {ball:Int->List Int} (hb:EZ n ball) {f:Nat->Nat->Int} {c x:Nat} (hc:c<n) (hx:x<n):Ib (AG n 1) (C9 ball (AG n 1)) ball (AO n f) c x=JF n ball f c x:=by
 unfold Ib JF
 rw [Bk f hc hx]
 congr 1
 rw [Bool.eq_iff_iff,List.any_eq_true,List.any_eq_true]
 constructor
 ·rintro ⟨d,h1,h2⟩
  have h1:=(As2 hb hc).1 h1
  obtain ⟨y,hy,rfl⟩:=hb c hc d h1
  rw [Vv hy] at h2
  exact ⟨_,h1,h2⟩
 ·rintro ⟨d,h1,h2⟩
  obtain ⟨y,hy,rfl⟩:=hb c hc d h1
  rw [<- Vv hy] at h2
  exact ⟨_,(As2 hb hc).2 h1,h2⟩
theorem Aus {n:Nat} {ball:Int->List Int} (hb:EZ n ball):∀(k k2:Nat) (t:Int) (f:Nat->Nat->Int),LC n f<k->LC n f<k2->0<=t ->
  JX (AG n 1) (C9 ball (AG n 1)) ball n k t (AO n f)=AO n (Pa n ball k2 t f):=by
 intro k
 induction k with
 | zero=>intro k2 t f h;omega
 | succ k ih=>
  intro k2 t f h1 h2 ht
  obtain ⟨k2,rfl⟩:∃m,k2=m+1:=⟨k2-1,by omega⟩
  unfold JX Pa
  have ea:Rq (AG n 1) (C9 ball (AG n 1)) ball n (AO n f)=UD n (JF n ball f):=by
   unfold Rq UD
   rw [EY,Bool.eq_iff_iff,List.any_eq_true,List.any_eq_true]
   constructor
   ·rintro ⟨c,hc,h⟩
    obtain ⟨x,hx,h⟩:=List.any_eq_true.1 h
    exact ⟨c,hc,List.any_eq_true.2 ⟨x,hx,by rw [<- XS hb (List.mem_range.1 hc) (List.mem_range.1 hx)];exact h⟩⟩
   ·rintro ⟨c,hc,h⟩
    obtain ⟨x,hx,h⟩:=List.any_eq_true.1 h
    exact ⟨c,hc,List.any_eq_true.2 ⟨x,hx,by rw [XS hb (List.mem_range.1 hc) (List.mem_range.1 hx)];exact h⟩⟩
  rw [ea]
  by_cases h:UD n (JF n ball f)=true
  ·rw [if_pos h,if_pos h]
   have es:J0 (AG n 1) (C9 ball (AG n 1)) ball n t (AO n f)=AO n (ED n ball t f):=by
    unfold J0
    rw [EY]
    refine Fj fun c x hc hx => ?_
    unfold ED
    rw [XS hb hc hx,Bk f hc hx]
   rw [es]
   have hs:=Vo (ball:=ball) ht h
   exact ih k2 (t+1) _ (by omega) (by omega) (by omega)
  ·rw [if_neg h,if_neg h]
theorem AAa {n:Nat} (hn:n<=8) (es:List E) (v:Unit):tmG ((n:Int),es,v) 1=EX n (Bx n es):=by
 unfold tmG cfG mvG cfG Kk EX
 simp only [Int.toNat_natCast]
 have es':Pq (AG n 1) n=AO n Br:=by
  unfold Pq
  rw [EY]
  refine Fj fun c x hc hx => ?_
  rw [Gp hc]
  unfold Br FT
  by_cases e:c=x
  ·simp [e]
  ·have e2:¬(c:Int)=(x:Int):=by omega
   simp [e,e2]
 rw [es']
 have h1:=Wd n Br
 have h2:n*n<=64:=by
  have:=Nat.mul_le_mul hn hn
  omega
 exact Aus (Kt n es) 1000 65 1 Br (by omega) (by omega) (by omega)
open Go.Proofs
theorem Acf {α:Type} {l:List α} (h:okL l=true):l.length<=maxLen:=BH (of_decide_eq_true h)
theorem AEs (N:Nat) (a b:List Int) (hl:a.length=b.length) (hmx:a.length<=maxLen):∀k i f,i+k=a.length->k<f -> ∃o,Dz N f (a,b,(i:Int),())=some o/\((o=.inl (false,()) /\ ¬a.drop i=b.drop i)\/(o=.inr (.inl ())/\a.drop i=b.drop i)):=by
 intro k
 induction k with
 | zero=>
  intro i f h1 h2
  obtain ⟨f,rfl⟩:∃m,f=m+1:=⟨f-1,by omega⟩
  have e:i=a.length:=by omega
  refine ⟨.inr (.inl ()),?_,.inr ⟨rfl,by rw [AGi (by omega),AGi (by omega)]⟩⟩
  subst e
  show Dv _ _ _=_
  unfold Dv
  simp only [AL,AGb,if_false]
 | succ k ih=>
  intro i f h1 h2
  obtain ⟨f,rfl⟩:∃m,f=m+1:=⟨f-1,by omega⟩
  have hi:i<a.length:=by omega
  have hi2:i<b.length:=by omega
  have ea:at_ I a i=a[i]:=AM (e:=I) hi
  have eb:at_ I b i=b[i]:=AM (e:=I) hi2
  obtain ⟨o,o1,o2⟩:=ih (i+1) f (by omega) (by omega)
  rw [AGj hi,AGj hi2]
  have step:Dz N (f+1) (a,b,(i:Int),())=if (a[i] != b[i])=true then some (.inl (false,())) else Dz N f (a,b,((i+1:Nat):Int),()):=by
   show Dv _ _ _=_
   unfold Dv
   simp only [Az hi,if_true,Ad hi,Ad hi2,Int.toNat_natCast,ea,eb,A1 hi hmx]
  rw [step]
  by_cases e:a[i]=b[i]
  ·have:(a[i] != b[i])=false:=by simp [e]
   rw [this]
   simp only [AGb,if_false]
   refine ⟨o,o1,?_⟩
   rcases o2 with ⟨p1,p2⟩ | ⟨p1,p2⟩
   ·exact .inl ⟨p1,fun h=>p2 (List.cons.inj h).2⟩
   ·exact .inr ⟨p1,by rw [e,p2]⟩
  ·have:(a[i] != b[i])=true:=by simp [e]
   rw [this]
   simp only [if_true]
   exact ⟨_,rfl,.inl ⟨rfl,fun h=>e (List.cons.inj h).1⟩⟩
theorem Al4 (d) (r) (h:NH d=some r):∃N,Gt N d=some r:=by
 obtain ⟨a,b,_⟩:=d
 unfold NH at h
 split at h
 ·rename_i hl
  have hl:okL a=true:=hl
  have hmx:=Acf hl
  have h:=AGg h
  subst h
  refine ⟨a.length+1,?_⟩
  unfold Gt
  by_cases hne:a.length=b.length
  ·have e:((a.length:Int) != (b.length:Int))=false:=by simp;omega
   obtain ⟨o,o1,o2⟩:=AEs (a.length+1) a b hne hmx a.length 0 (a.length+1) (by omega) (by omega)
   simp only [Int.natCast_zero,List.drop_zero] at o1 o2
   simp only [e,AGb,if_false,o1,Option.bind_some]
   rcases o2 with ⟨rfl,h2⟩ | ⟨rfl,h2⟩
   ·simp only [h2,decide_false]
   ·simp only [h2,decide_true]
  ·have e:((a.length:Int) != (b.length:Int))=true:=by simp;omega
   have h2:¬a=b:=fun h=>hne (by rw [h])
   simp only [e,if_true,h2,decide_false]
 ·cases h
theorem AFh (N:Nat) (a b:List (List Int)) (hl:a.length=b.length) (hok:a.all okL=true) (hmx:a.length<=maxLen):∀k i f,i+k=a.length->k<f -> ∃o,Im N f (a,b,(i:Int),())=some o/\((o=.inl (false,()) /\ ¬a.drop i=b.drop i)\/(o=.inr (.inl ())/\a.drop i=b.drop i)):=by
 intro k
 induction k with
 | zero=>
  intro i f h1 h2
  obtain ⟨f,rfl⟩:∃m,f=m+1:=⟨f-1,by omega⟩
  have e:i=a.length:=by omega
  refine ⟨.inr (.inl ()),?_,.inr ⟨rfl,by rw [AGi (by omega),AGi (by omega)]⟩⟩
  subst e
  show GX _ _ _=_
  unfold GX
  simp only [AL,AGb,if_false]
 | succ k ih=>
  intro i f h1 h2
  obtain ⟨f,rfl⟩:∃m,f=m+1:=⟨f-1,by omega⟩
  have hi:i<a.length:=by omega
  have hi2:i<b.length:=by omega
  have ea:at_ Ai a i=a[i]:=AM (e:=Ai) hi
  have eb:at_ Ai b i=b[i]:=AM (e:=Ai) hi2
  have hoi:okL a[i]=true:=List.all_eq_true.1 hok _ (AGk hi)
  obtain ⟨o,o1,o2⟩:=ih (i+1) f (by omega) (by omega)
  rw [AGj hi,AGj hi2]
  have step:Im N (f+1) (a,b,(i:Int),())=if (!decide (a[i]=b[i]))=true then some (.inl (false,())) else Im N f (a,b,((i+1:Nat):Int),()):=by
   show GX _ _ _=_
   unfold GX
   simp only [Az hi,if_true,Ad hi,Ad hi2,Int.toNat_natCast,ea,eb,NH,hoi,Option.bind_some,A1 hi hmx]
  rw [step]
  by_cases e:a[i]=b[i]
  ·have:(!decide (a[i]=b[i]))=false:=by simp [e]
   rw [this]
   simp only [AGb,if_false]
   refine ⟨o,o1,?_⟩
   rcases o2 with ⟨p1,p2⟩ | ⟨p1,p2⟩
   ·exact .inl ⟨p1,fun h=>p2 (List.cons.inj h).2⟩
   ·exact .inr ⟨p1,by rw [e,p2]⟩
  ·have:(!decide (a[i]=b[i]))=true:=by simp [e]
   rw [this]
   simp only [if_true]
   exact ⟨_,rfl,.inl ⟨rfl,fun h=>e (List.cons.inj h).1⟩⟩
theorem Ac5 (d) (r) (h:FJ d=some r):∃N,Sa N d=some r:=by
 obtain ⟨a,b,_⟩:=d
 unfold FJ at h
 split at h
 ·rename_i hl
  have hl:DV a=true:=hl
  obtain ⟨hl1,hl2⟩:=II hl
  have hmx:=Acf hl1
  have h:=AGg h
  subst h
  refine ⟨a.length+1,?_⟩
  unfold Sa
  by_cases hne:a.length=b.length
  ·have e:((a.length:Int) != (b.length:Int))=false:=by simp;omega
   obtain ⟨o,o1,o2⟩:=AFh (a.length+1) a b hne hl2 hmx a.length 0 (a.length+1) (by omega) (by omega)
   simp only [Int.natCast_zero,List.drop_zero] at o1 o2
   simp only [e,AGb,if_false,o1,Option.bind_some]
   rcases o2 with ⟨rfl,h2⟩ | ⟨rfl,h2⟩
   ·simp only [h2,decide_false]
   ·simp only [h2,decide_true]
  ·have e:((a.length:Int) != (b.length:Int))=true:=by simp;omega
   have h2:¬a=b:=fun h=>hne (by rw [h])
   simp only [e,if_true,h2,decide_false]
 ·cases h
open Go.Proofs
theorem AA3 {m:Nat} {es:List E} {v:Unit} (hg:BI ((m:Int),es,v)=true) (ho:okL es=true) {x:Nat} (hx:x<m) (u:Unit):MM 0 (((m:Int),es,v),(x:Int),u)=some (BE (fun y=>DR es (x:Int) (y:Int)) m 0,true,()):=by
 obtain ⟨n0,n8⟩:=DZ hg
 have m8:m<=8:=by omega
 obtain ⟨g1,_⟩:=Dj hg
 have hok:=SF m8 g1
 have hxi:inB 0 ((m:Int)-1) (x:Int)=true:=AX.2 (by omega)
 have hlt:x<(Er m es).length:=by rw [hok.1];exact hx
 have hlt2:x<(toI (Er m es)).length:=by rw [Ha];exact hlt
 have ex:at_ I (toI (Er m es)) x=(((Er m es).getD x 0:Nat):Int):=by
  rw [AM (e:=I) hlt2]
  show (toI (Er m es))[x]=_
  simp only [toI,List.getElem_map,AGm,AGn hlt,Option.getD_some]
 have hM:isM m ((Er m es).getD x 0) (fun y=>DR es (x:Int) (y:Int)):=by
  refine ⟨hok.2 x,fun y => ?_⟩
  have:=Kr m8 g1 x y
  unfold Rk at this
  rw [this,SQ es g1]
  cases hn:DR es (x:Int) (y:Int) with
  | false=>simp [hn]
  | true=>simp [hn,XE g1 hn]
 unfold MM
 simp only [Aot (m:Int) es v () [(x:Int)] ho (Fp (by simp)),hg,List.all_cons,List.all_nil,hxi,Bool.and_true,Bool.and_self,Option.bind_some,Bool.not_true,AGb,if_false,YJ hg ho,Ad hlt2,if_true,Int.toNat_natCast,ex,Adi hM.1,U1 m8 hM]
open Go.Proofs
theorem BC {e:Kd} {l:List e.den} {i:Nat} (h:i<l.length):at_ e l i=l[i]:=AM h
theorem WW {l:List Tab} (h:Ja l=true):okL l=true/\l.all DV=true:=by
 unfold Ja at h
 simpa only [AGc] using h
open Go.Proofs
theorem Aww (N:Nat) (t:Tt) (T:List Tab) (r:Nat) (hr:r<T.length) (x:Nat) (hx:x<T[r].length) (hm:T[r][x].length<=maxLen) (k:Nat) (hk:T[r][x].length<=k) :
  JV N (k+1) (T,t,(r:Int),(x:Int),(0:Int),())=some (if T[r][x].all (fun v=>decide (-1<=v))=true then .inr (.inl (T,t,(r:Int),(x:Int),())) else .inl (false,())):=by
 have:=Cp (L:=JV N) (r:=Jd N) (fun _ _=>rfl) T[r][x] (mk:=fun i=>(T,t,(r:Int),(x:Int),(i:Int),())) (q:=fun v=>decide (-1<=v)) (o:=.inl (false,())) (f:=.inr (.inl (T,t,(r:Int),(x:Int),())))
  (by
   intro back i hi
   unfold Jd
   simp only [Ad hr,Ad hx,Int.toNat_natCast,BC (e:=Ag) hr,BC (e:=Ai) hx,BC (e:=I) hi,Ad hi,Az hi,if_true,A1 hi hm]
   by_cases h:T[r][x][i] < -1
   ·have h2:decide (-1<=T[r][x][i])=false:=by simp;omega
    simp only [h,h2,decide_true,if_true,AGb,if_false]
   ·have h2:decide (-1<=T[r][x][i])=true:=by simp;omega
    simp only [h,h2,decide_false,if_true,AGb,if_false])
  (by
   intro back
   unfold Jd
   simp only [Ad hr,Ad hx,Int.toNat_natCast,BC (e:=Ag) hr,BC (e:=Ai) hx,AL,if_true,AGb,if_false]) k 0 (by omega) (by omega)
 simpa only [Int.natCast_zero,List.drop_zero] using this
theorem SK (m:Nat) (n:Int):((m:Int) != n) = !decide ((m:Int)=n):=by
 by_cases h:(m:Int)=n<;>simp [h]
theorem Ax5 (N:Nat) (t:Tt) (T:List Tab) (r:Nat) (hr:r<T.length) (hl:DV T[r]=true) (hN:∀row∈T[r],row.length<=N-1) (hN1:1<=N) (k:Nat) (hk:T[r].length<=k) :
  Ku N (k+1) (T,t,(r:Int),(0:Int),())=some (if T[r].all (Kf t.1.1)=true then .inr (.inl (T,t,(r:Int),())) else .inl (false,())):=by
 obtain ⟨h1,h2⟩:=II hl
 have hmx:=BH (Ci h1)
 have:=Cp (L:=Ku N) (r:=IY N) (fun _ _=>rfl) T[r] (mk:=fun i=>(T,t,(r:Int),(i:Int),())) (q:=Kf t.1.1) (o:=.inl (false,())) (f:=.inr (.inl (T,t,(r:Int),())))
  (by
   intro back i hi
   have hrow:okL T[r][i]=true:=List.all_eq_true.1 h2 _ (AGk hi)
   have hN':=hN T[r][i] (AGk hi)
   have h4:=Aww N t T r hr i hi (BH (Ci hrow)) (N-1) hN'
   rw [show N-1+1=N by omega] at h4
   unfold IY
   simp only [Ad hr,Ad hi,Int.toNat_natCast,BC (e:=Ag) hr,BC (e:=Ai) hi,Az hi,if_true,A1 hi hmx,h4,SK,Kf,Option.bind_some]
   by_cases hn:(T[r][i].length:Int)=t.1.1
   ·simp only [hn,decide_true,Bool.not_true,AGb,if_false,Bool.true_and]
    cases ha:T[r][i].all (fun v=>decide (-1<=v)) with
    | true=>simp only [if_true,A1 hi hmx]
    | false=>simp only [AGb,if_false]
   ·simp only [hn,decide_false,Bool.not_false,if_true,Bool.false_and,AGb,if_false])
  (by
   intro back
   unfold IY
   simp only [Ad hr,Int.toNat_natCast,BC (e:=Ag) hr,AL,if_true,AGb,if_false]) k 0 (by omega) (by omega)
 simpa only [Int.natCast_zero,List.drop_zero] using this
def UA (T:List Tab):Nat:=T.length+(T.map fun rows=>rows.length+(rows.map List.length).sum).sum
theorem Aia {α:Type} (f:α->Nat):∀{l:List α} {x:α},x∈l->f x<=(l.map f).sum:=by
 intro l
 induction l with
 | nil=>intro x h;simp at h
 | cons a l ih=>
  intro x h
  simp only [List.map_cons,List.sum_cons]
  rcases List.mem_cons.1 h with rfl | h
  ·omega
  ·have:=ih h;omega
theorem Ajg {T:List Tab} {rows:Tab} (h:rows∈T):rows.length<=UA T /\ ∀row∈rows,row.length<=UA T:=by
 have:=Aia (fun rows:Tab=>rows.length+(rows.map List.length).sum) h
 unfold UA
 refine ⟨by omega,fun row hr => ?_⟩
 have:=Aia List.length hr
 omega
theorem Yj (d) (r) (h:Iq d=some r):∃N,Su N d=some r:=by
 obtain ⟨t,T,_⟩:=d
 unfold Iq at h
 split at h
 ·rename_i hc
  simp only [AGc] at hc
  obtain ⟨ht,hT⟩:=hc
  have h:=AGg h
  subst h
  obtain ⟨h1,h2⟩:=WW hT
  have hmx:=BH (Ci h1)
  refine ⟨UA T+1,?_⟩
  unfold Su
  have:=Cp (L:=MX (UA T+1)) (r:=IR (UA T+1)) (fun _ _=>rfl) T (mk:=fun i=>(T,t,(i:Int),())) (q:=F0 t.1.1) (o:=.inl (false,())) (f:=.inr (.inl (T,t,())))
   (by
    intro back i hi
    have hrows:DV T[i]=true:=List.all_eq_true.1 h2 _ (AGk hi)
    obtain ⟨b1,b2⟩:=Ajg (AGk hi)
    have h4:=Ax5 (UA T+1) t T i hi hrows (fun row hrow=>by have:=b2 row hrow;omega) (by omega) (UA T) b1
    unfold IR
    simp only [Ad hi,Int.toNat_natCast,BC (e:=Ag) hi,Az hi,if_true,A1 hi hmx,h4,SK,F0,Option.bind_some]
    by_cases hn:(T[i].length:Int)=t.1.1
    ·simp only [hn,decide_true,Bool.not_true,AGb,if_false,Bool.true_and]
     cases ha:T[i].all (Kf t.1.1) with
     | true=>simp only [if_true,A1 hi hmx]
     | false=>simp only [AGb,if_false]
    ·simp only [hn,decide_false,Bool.not_false,if_true,Bool.false_and,AGb,if_false])
   (by
    intro back
    unfold IR
    simp only [AL,AGb,if_false]) (UA T) 0 (by omega) (by unfold UA;omega)
  simp only [Int.natCast_zero,List.drop_zero] at this
  simp only [this,Hg,Option.bind_some]
  have e:∀a b:Int,(a==b)=decide (a=b):=fun a b=>by by_cases h:a=b<;>simp [h]
  cases ha:T.all (F0 t.1.1) with
  | true=>simp only [if_true,Bool.true_and,e]
  | false=>simp only [AGb,if_false,Bool.false_and]
 ·cases h
theorem Atq (N:Nat) (t:Tt) (out:List Tab) (r:Int) (g:Gr) (hg:grB g=true):∀k,g.1.toNat<=k->Nv N (k+1) (t,out,r,g,[],(0:Int),())=some (.inl (t,out,r,(List.range g.1.toNat).map (fun x:Nat=>Bx g.1.toNat g.2.1 (x:Int)),())):=by
 obtain ⟨g1,g2,g3,g4⟩:=Vg hg
 exact Kg (L:=Nv N) (r:=Lx N) (fun _ _=>rfl) (n:=g.1.toNat) (mk:=fun i m=>(t,out,r,g,m,(i:Int),())) (f:=fun x:Nat=>Bx g.1.toNat g.2.1 (x:Int)) (o:=fun m=>.inl (t,out,r,m,()))
  (by
   intro back i m hi hm
   have hl:decide (List.length m+List.length [Bx g.1.toNat g.2.1 (i:Int)]<=lim)=true:=by
    rw [hm];unfold lim;simp;omega
   have c1:decide ((i:Int)<g.1)=true:=by simp;omega
   unfold Lx
   simp only [c1,Ai7 hg hi,Option.bind_some,hl,if_true,Dw hi g3])
  (by
   intro back m _
   have c1:decide ((g.1.toNat:Int)<g.1)=false:=by simp;omega
   unfold Lx
   simp only [c1,AGb,if_false])
theorem Bi {t:Tt} (h:AV t=true):t.1.1=(t.1.1.toNat:Int)/\0<t.1.1.toNat/\t.1.1.toNat<=8/\t.2.1=(t.2.1.toNat:Int)/\1<=t.2.1.toNat/\t.2.1.toNat<=4/\t.1.2.1.all (BD (t.1.1.toNat:Int))=true/\C0 t.1.2.1=true:=by
 obtain ⟨g1,g2,g3,g4⟩:=EN h
 have g3:=AX.1 g3
 have hn:=DZ (n:=t.1.1) (l:=t.1.2.1) (u:=t.1.2.2) g1
 obtain ⟨hE,hR⟩:=Dj (n:=t.1.1) (l:=t.1.2.1) (u:=t.1.2.2) g1
 have e:t.1.1=(t.1.1.toNat:Int):=by omega
 refine ⟨e,by omega,by omega,by omega,by omega,by omega,by rw [<- e];exact hE,hR⟩
theorem Atd {t:Tt} (h:AV t=true) (ho:okT t=true) (r:Int):grB (t.1.1,Bv t r,())=true:=by
 obtain ⟨e,h1,h2,_,_,_,h3,h4⟩:=Bi h
 have hk:=UX ho r
 unfold grB
 have e1:decide (0<=t.1.1)=true:=by simp;omega
 have e2:decide (t.1.1<=8)=true:=by simp;omega
 have e3:(Bv t r).all (BD t.1.1)=true:=by
  have:=(Kj (t:=t) (n:=t.1.1.toNat) h3 h4 r).1
  rw [<- e] at this
  exact this
 simp only [hk,e1,e2,e3,Bool.and_self]
theorem VC (d) (r) (h:Dg d=some r):∃N,W7 N d=some r:=by
 obtain ⟨t,_⟩:=d
 unfold Dg at h
 split at h
 ·rename_i hc
  simp only [AGc] at hc
  obtain ⟨ht,ho⟩:=hc
  have h:=AGg h
  subst h
  obtain ⟨n1,n2,n3,p1,p2,p3,_⟩:=Bi ht
  refine ⟨20,?_⟩
  unfold W7
  have:=Kg (L:=R9 20) (r:=K6 20) (fun _ _=>rfl) (n:=t.2.1.toNat) (mk:=fun i m=>(t,m,(i:Int),())) (f:=fun r:Nat=>(List.range t.1.1.toNat).map fun x:Nat=>Bx t.1.1.toNat (Bv t (r:Int)) (x:Int)) (o:=fun m=>.inl (m,()))
   (by
    intro back i m hi hm
    have c1:decide ((i:Int)<t.2.1)=true:=by simp;omega
    have hop:=Aoe ht ho (c:=(i:Int)) (by omega) (by omega)
    have et:((i:Int)).tmod t.2.1=(i:Int):=by rw [Int.tmod_eq_of_lt (by omega) (by omega)]
    rw [et] at hop
    have hb:=Atq 20 t m (i:Int) (t.1.1,Bv t (i:Int),()) (Atd ht ho _) 19 (by show t.1.1.toNat<=19;omega)
    have hl:decide (List.length m+List.length [(List.range t.1.1.toNat).map fun x:Nat=>Bx t.1.1.toNat (Bv t (i:Int)) (x:Int)]<=lim)=true:=by
     rw [hm];unfold lim;simp;omega
    unfold K6
    simp only [c1,hop,hb,hl,if_true,Option.bind_some,Dw (show i<8 by omega) (AGf 8)])
   (by
    intro back m _
    have c1:decide ((t.2.1.toNat:Int)<t.2.1)=false:=by simp;omega
    unfold K6
    simp only [c1,AGb,if_false]) 19 (by omega)
  simp only [Int.natCast_zero] at this
  simp only [this,Option.bind_some]
  rfl
 ·cases h
theorem HO {n:Nat} {B:List Tab} (h:okB n B=true):1<=B.length/\B.length<=8 /\ ∀r (hr:r<B.length),B[r].length=n /\ ∀x (hx:x<B[r].length),B[r][x].length<=8 /\ ∀z∈B[r][x],∃y:Nat,y<n/\z=(y:Int):=by
 unfold okB at h
 simp only [AGc,decide_eq_true_eq,List.all_eq_true] at h
 obtain ⟨⟨h1,h2⟩,h3⟩:=h
 refine ⟨h1,h2,fun r hr => ?_⟩
 obtain ⟨h4,h5⟩:=h3 B[r] (AGk hr)
 refine ⟨h4,fun x hx => ?_⟩
 obtain ⟨h6,h7⟩:=h5 B[r][x] (AGk hx)
 refine ⟨h6,fun z hz => ?_⟩
 have:=AX.1 (h7 z hz)
 exact ⟨z.toNat,by omega,by omega⟩
theorem DU {n p:Nat} {T:List Tab} (h:JM n p T=true):T.length=p /\ ∀r (hr:r<T.length),sqL n T[r]=true:=by
 unfold JM at h
 simp only [AGc,decide_eq_true_eq,List.all_eq_true] at h
 exact ⟨h.1,fun r hr=>h.2 _ (AGk hr)⟩
theorem BJ {α:Type} {l:List α} {i:Nat} (h:i<l.length) (z:α):l.getD i z=l[i]:=by simp [AGm,h]
theorem Z8 (N n:Nat) (B:List Tab) (hB:okB n B=true) (r q:Nat) (hr:r<B.length) (hq:q<n) (row:List Int) (hrow:row.length=n):∀(k i f:Nat) (m:Int),i+k=(CK B (r:Int) (q:Int)).length->k<f ->
  Gj N f (B,(r:Int),(q:Int),m,row,(i:Int),())=some (.inl (AW (fun z=>row.getD z.toNat 0) ((CK B (r:Int) (q:Int)).drop i) m,()))\/Gj N f (B,(r:Int),(q:Int),m,row,(i:Int),())=some (.inr (.inl (AW (fun z=>row.getD z.toNat 0) ((CK B (r:Int) (q:Int)).drop i) m,()))):=by
 obtain ⟨_,_,hb⟩:=HO hB
 obtain ⟨b1,b2⟩:=hb r hr
 have hq':q<B[r].length:=by omega
 obtain ⟨b3,b4⟩:=b2 q hq'
 have eb:CK B (r:Int) (q:Int)=B[r][q]:=by
  unfold CK
  simp only [Int.toNat_natCast,BJ hr,BJ hq']
 rw [eb]
 have hmx:B[r][q].length<=maxLen:=by unfold maxLen;omega
 intro k
 induction k with
 | zero=>
  intro i f m h1 h2
  obtain ⟨f,rfl⟩:∃m,f=m+1:=⟨f-1,by omega⟩
  have e:i=B[r][q].length:=by omega
  subst e
  rw [AGi (AGf _)]
  right
  show Il N (Gj N f) _=_
  unfold Il
  simp only [Ad hr,Ad hq',Int.toNat_natCast,BC (e:=Ag) hr,BC (e:=Ai) hq',AL,if_true,AGb,if_false,AW]
 | succ k ih=>
  intro i f m h1 h2
  obtain ⟨f,rfl⟩:∃m,f=m+1:=⟨f-1,by omega⟩
  have hi:i<B[r][q].length:=by omega
  obtain ⟨y,hy,ey⟩:=b4 B[r][q][i] (AGk hi)
  have hy':y<row.length:=by omega
  have hd:B[r][q].drop i=(y:Int)::B[r][q].drop (i+1):=by rw [AGj hi,ey]
  have step:Gj N (f+1) (B,(r:Int),(q:Int),m,row,(i:Int),())=if row[y]<0 then some (.inl (-1,())) else Gj N f (B,(r:Int),(q:Int),(if m<row[y] then row[y] else m),row,((i+1:Nat):Int),()):=by
   show Il N (Gj N f) _=_
   unfold Il
   simp only [Ad hr,Ad hq',Int.toNat_natCast,BC (e:=Ag) hr,BC (e:=Ai) hq',BC (e:=I) hi,Ad hi,Az hi,if_true,ey,Ad hy',BC (e:=I) hy',Ahy,A1 hi hmx]
   by_cases h:row[y]<0
   ·simp only [h,decide_true,if_true]
   ·simp only [h,decide_false,AGb,if_false]
  rw [step,hd]
  simp only [AW,Int.toNat_natCast,BJ hy']
  by_cases h:row[y]<0
  ·rw [if_pos h,if_pos h]
   exact .inl rfl
  ·rw [if_neg h,if_neg h]
   exact ih (i+1) f _ (by omega) (by omega)
theorem JR {r p:Nat} (hr:r<p) (hp:p<=8):IntKind.wrap .i64 ((r:Int)+1)=((r+1:Nat):Int)/\(((r:Int)+1).tmod (p:Int))=(((r+1) % p:Nat):Int)/\(r+1) % p<p:=by
 refine ⟨Dw hr hp,?_,Nat.mod_lt _ (by omega)⟩
 have e:((r:Int)+1)=((r+1:Nat):Int):=rfl
 rw [e]
 exact (Int.ofNat_tmod _ _).symm
theorem RJ {p:Nat} {T:List Tab} (hT:T.length=p) (hp8:p<=8) {r:Nat} (hr:r<p):∃h:(r+1) % p<T.length,Cw p T (r:Int)=T[(r+1) % p]:=by
 obtain ⟨_,e2,e3⟩:=JR hr hp8
 have h:(r+1) % p<T.length:=by rw [hT];exact e3
 refine ⟨h,?_⟩
 unfold Cw
 rw [e2,Int.toNat_natCast,BJ h]
theorem XX (d) (r) (h:CU d=some r):∃N,Xc N d=some r:=by
 obtain ⟨B,T,r0,c0,q0,_⟩:=d
 unfold CU at h
 split at h
 ·rename_i hc
  unfold okA at hc
  simp only [AGc,decide_eq_true_eq] at hc
  obtain ⟨⟨⟨⟨⟨hB,h8⟩,hT⟩,hr0⟩,hc0⟩,hq0⟩:=hc
  have h:=AGg h
  subst h
  obtain ⟨B1,B2,_⟩:=HO hB
  obtain ⟨T1,T2⟩:=DU hT
  obtain ⟨er,hr⟩:=Dk hr0
  obtain ⟨ec,hc⟩:=Dk hc0
  obtain ⟨eq,hq⟩:=Dk hq0
  generalize r0.toNat=r at er hr
  generalize c0.toNat=c at ec hc
  generalize q0.toNat=q at eq hq
  subst er ec eq
  refine ⟨20,?_⟩
  unfold Xc Aw
  by_cases e:(c:Int)=(q:Int)
  ·simp only [e,beq_self_eq_true,if_true]
  ·have e':((c:Int)==(q:Int))=false:=by simpa using e
   have e0:((List.length B:Int) != 0)=true:=by rw [bne_iff_ne];omega
   obtain ⟨w1,w2,w3⟩:=JR hr B2
   obtain ⟨hn,en⟩:=RJ (T:=T) T1 B2 hr
   obtain ⟨s1,s2⟩:=Cj (T2 _ hn)
   have hcn:c<T[(r+1) % B.length].length:=s1.symm▸hc
   have ec:at_ Ai T[(r+1) % B.length] c=T[(r+1) % B.length][c]:=BC (e:=Ai) hcn
   have hrow:T[(r+1) % B.length][c].length=nB B:=by rw [<- ec];exact s2 c hc
   have w2':(((r+1:Nat):Int)).tmod (B.length:Int)=(((r+1) % B.length:Nat):Int):=w2
   have key:=Z8 20 (nB B) B hB r q hr hq T[(r+1) % B.length][c] hrow (CK B (r:Int) (q:Int)).length 0 20 0 (by omega) (by
    obtain ⟨_,_,hb⟩:=HO hB
    obtain ⟨b1,b2⟩:=hb r hr
    have hq':q<B[r].length:=by omega
    have:=(b2 q hq').1
    unfold CK
    simp only [Int.toNat_natCast,BJ hr,BJ hq']
    omega)
   simp only [Int.natCast_zero,List.drop_zero] at key
   have hw:AW (fun z=>T[(r+1) % B.length][c].getD z.toNat 0) (CK B (r:Int) (q:Int)) 0=AW (AS (Cw B.length T (r:Int)) (c:Int)) (CK B (r:Int) (q:Int)) 0:=EI fun z hz=>by
    unfold AS
    rw [en,Int.toNat_natCast,BJ hcn]
   rw [hw] at key
   simp only [e',e,AGb,if_false,w1,e0,if_true,w2',Ad hn,Int.toNat_natCast,BC (e:=Ag) hn,Ad hcn,ec]
   rcases key with h | h<;>simp only [h,Option.bind_some]
 ·cases h
open Go.Proofs
theorem GR {n x:Nat} (h:x<n):inB 0 ((n:Int)-1) (x:Int)=true:=AX.2 (by omega)
theorem TF {B T:List Tab} {u:Unit} (hB:okB (nB B) B=true) (h8:nB B<=8) (hT:JM (nB B) B.length T=true) {r c q:Nat} (hr:r<B.length) (hc:c<nB B) (hq:q<nB B):okA (B,T,(r:Int),(c:Int),(q:Int),u)=true:=by
 unfold okA
 have e8:decide (nB B<=8)=true:=decide_eq_true h8
 simp only [hB,e8,hT,GR hr,GR hc,GR hq,Bool.and_self]
theorem Uv (d) (r) (h:EC d=some r):∃N,VG N d=some r:=by
 obtain ⟨B,T,r0,c0,q0,_⟩:=d
 unfold EC at h
 split at h
 ·rename_i hc
  unfold okA Auy at hc
  simp only [AGc,decide_eq_true_eq] at hc
  obtain ⟨⟨⟨⟨⟨⟨hB,h8⟩,hT⟩,hr0⟩,hc0⟩,hq0⟩,hv0,hv1⟩:=hc
  have h:=AGg h
  subst h
  obtain ⟨B1,B2,B3⟩:=HO hB
  obtain ⟨T1,T2⟩:=DU hT
  obtain ⟨er,hr⟩:=Dk hr0
  obtain ⟨ec,hc⟩:=Dk hc0
  obtain ⟨eq,hq⟩:=Dk hq0
  generalize r0.toNat=r at er hr
  generalize c0.toNat=c at ec hc
  generalize q0.toNat=q at eq hq
  subst er ec eq
  have hrT:r<T.length:=by omega
  obtain ⟨s1,s2⟩:=Cj (T2 r hrT)
  have hcn:c<T[r].length:=s1.symm▸hc
  have ec:at_ Ai T[r] c=T[r][c]:=BC (e:=Ai) hcn
  have hqn:q<T[r][c].length:=by
   have:=s2 c hc
   rw [ec] at this
   omega
  have ev:AS (T.getD (r:Int).toNat []) (c:Int) (q:Int)=T[r][c][q]:=by
   unfold AS
   simp only [Int.toNat_natCast,BJ hrT,BJ hcn,BJ hqn]
  simp only [] at hv0 hv1 |-
  rw [ev] at hv0 hv1
  simp only [Int.toNat_natCast] at ev
  simp only [Int.toNat_natCast,ev]
  obtain ⟨b1,b2⟩:=B3 r hr
  have hcB:c<B[r].length:=by omega
  obtain ⟨b3,b4⟩:=b2 c hcB
  have eb:CK B (r:Int) (c:Int)=B[r][c]:=by
   unfold CK
   simp only [Int.toNat_natCast,BJ hr,BJ hcB]
  refine ⟨20,?_⟩
  unfold VG Ct
  simp only [Ad hrT,Int.toNat_natCast,BC (e:=Ag) hrT,Ad hcn,ec,Ad hqn,BC (e:=I) hqn,if_true]
  by_cases hv:T[r][c][q]<=0
  ·simp only [hv,decide_true,if_true]
   by_cases hv':T[r][c][q]<0
   ·simp only [hv',decide_true,if_true,Bool.true_or]
   ·simp only [hv',decide_false,AGb,if_false,Bool.false_or]
    by_cases e:(c:Int)=(q:Int)<;>simp [e]
  ·simp only [hv,decide_false,AGb,if_false]
   have hmx:B[r][c].length<=maxLen:=by unfold maxLen;omega
   have key:=Cp (L:=R5 20) (r:=Lm 20) (fun _ _=>rfl) B[r][c] (mk:=fun i=>(B,T,(r:Int),(c:Int),(q:Int),T[r][c][q],(i:Int),())) (q:=fun b => !(decide (0<=Aw (CK B (r:Int)) (Cw B.length T (r:Int)) b (q:Int))&&decide (Aw (CK B (r:Int)) (Cw B.length T (r:Int)) b (q:Int)<T[r][c][q]))) (o:=.inl (true,())) (f:=.inr (.inl ()))
    (by
     intro back i hi
     obtain ⟨y,hy,ey⟩:=b4 B[r][c][i] (AGk hi)
     have hA:=TF (u:=()) hB h8 hT hr hy hq
     have hw:IntKind.wrap .i64 (T[r][c][q]-1)=T[r][c][q]-1:=Bj _ (by omega) (by omega)
     unfold Lm
     simp only [Ad hr,Ad hcB,Ad hi,Int.toNat_natCast,BC (e:=Ag) hr,BC (e:=Ai) hcB,BC (e:=I) hi,Az hi,if_true,ey,CU,hA,Option.bind_some,hw,Gg,A1 hi hmx]
     generalize Aw (CK B (r:Int)) (Cw B.length T (r:Int)) (y:Int) (q:Int)=a
     have e:inB 0 (T[r][c][q]-1) a=(decide (0<=a)&&decide (a<T[r][c][q])):=by
      unfold inB
      congr 1
      exact decide_eq_decide.2 (by omega)
     rw [e]
     cases (decide (0<=a)&&decide (a<T[r][c][q]))<;>rfl)
    (by
     intro back
     unfold Lm
     simp only [Ad hr,Ad hcB,Int.toNat_natCast,BC (e:=Ag) hr,BC (e:=Ai) hcB,AL,if_true,AGb,if_false]) 19 0 (by omega) (by omega)
   simp only [Int.natCast_zero,List.drop_zero] at key
   rw [key,eb]
   have ea:∀(p:Int->Bool) (l:List Int),(l.all fun b => !p b) = !l.any p:=fun p l=>by simp [List.all_eq_not_any_not]
   rw [ea]
   cases (B[r][c].any fun b=>decide (0<=Aw (CK B (r:Int)) (Cw B.length T (r:Int)) b (q:Int))&&decide (Aw (CK B (r:Int)) (Cw B.length T (r:Int)) b (q:Int)<T[r][c][q]))<;>rfl
 ·cases h
theorem VO {n:Nat} {rows:Tab} (h:F0 (n:Int) rows=true):sqL n rows=true /\ ∀row∈rows,row.length=n:=by
 unfold F0 Kf at h
 simp only [AGc,decide_eq_true_eq,List.all_eq_true] at h
 obtain ⟨h1,h2⟩:=h
 have h3:∀row∈rows,row.length=n:=fun row hr=>by have:=(h2 row hr).1;omega
 refine ⟨?_,h3⟩
 unfold sqL
 rw [AGc,List.all_eq_true]
 exact ⟨decide_eq_true (by omega),fun row hr=>decide_eq_true (h3 row hr)⟩
theorem Q9 {n p:Nat} {T:List Tab} (h:Hg (n:Int) (p:Int) T=true):JM n p T=true:=by
 unfold Hg at h
 simp only [AGc,decide_eq_true_eq,List.all_eq_true] at h
 unfold JM
 rw [AGc,List.all_eq_true]
 exact ⟨decide_eq_true (by have:=h.2;omega),fun rows hr=>(VO (h.1 rows hr)).1⟩
theorem Lu {t:Tt} (ht:AV t=true):okB t.1.1.toNat (A2 t)=true/\(A2 t).length=t.2.1.toNat/\nB (A2 t)=t.1.1.toNat /\ ∀r:Nat,r<t.2.1.toNat -> ∀x:Nat,x<t.1.1.toNat->CK (A2 t) (r:Int) (x:Int)=Bx t.1.1.toNat (Bv t (r:Int)) (x:Int):=by
 obtain ⟨n1,n2,n3,p1,p2,p3,_⟩:=Bi ht
 have hl:(A2 t).length=t.2.1.toNat:=by unfold A2;simp
 have hg:∀r (hr:r<(A2 t).length),(A2 t)[r]=(List.range t.1.1.toNat).map fun x:Nat=>Bx t.1.1.toNat (Bv t (r:Int)) (x:Int):=fun r hr=>by
  apply AGg
  rw [<- AGn hr]
  unfold A2
  rw [List.getElem?_map,List.getElem?_range (by omega)]
  rfl
 refine ⟨?_,hl,?_,fun r hr x hx => ?_⟩
 ·unfold okB
  simp only [AGc,decide_eq_true_eq,List.all_eq_true]
  refine ⟨⟨by omega,by omega⟩,fun b hb => ?_⟩
  obtain ⟨r,hr,rfl⟩:=List.getElem_of_mem hb
  rw [hg r hr]
  refine ⟨by simp,fun l hl' => ?_⟩
  obtain ⟨x,hx,rfl⟩:=List.mem_map.1 hl'
  have hx:=List.mem_range.1 hx
  refine ⟨?_,fun z hz => ?_⟩
  ·have:=OO t.1.1.toNat (Bv t (r:Int)) (x:Int);omega
  ·obtain ⟨y,hy,rfl⟩:=Kt t.1.1.toNat (Bv t (r:Int)) x hx z hz
   exact GR hy
 ·unfold nB
  have h0:0<(A2 t).length:=by omega
  have:∀(l:List Tab) (h:0<l.length),l.headD []=l[0]:=fun l h=>by
   cases l with
   | nil=>simp at h
   | cons a l=>rfl
  rw [this _ h0,hg 0 h0]
  simp
 ·have hr':r<(A2 t).length:=by omega
  unfold CK
  simp only [Int.toNat_natCast,BJ hr',hg r hr',AGm]
  rw [List.getElem?_map,List.getElem?_range hx]
  rfl
theorem Jo {b1 b2:Int->List Int} {T:Tab} {b q:Int} (h:b1 q=b2 q):Aw b1 T b q=Aw b2 T b q:=by
 unfold Aw
 rw [h]
theorem Hn {b1 b2:Int->List Int} {T:Tab} {v c q:Int} (hc:b1 c=b2 c) (hq:b1 q=b2 q):Ct b1 T v c q=Ct b2 T v c q:=by
 unfold Ct
 rw [hc]
 simp only [Jo (b1:=b1) (b2:=b2) (T:=T) hq]
def Rw (t:Tt) (T:List Tab) (r c q:Nat):Bool:=Ct (Bx t.1.1.toNat (Bv t (r:Int))) (Cw t.2.1.toNat T (r:Int)) (AS (T.getD r []) (c:Int) (q:Int)) (c:Int) (q:Int)
theorem Yk {t:Tt} {T:List Tab} (ht:AV t=true) (hT:JM t.1.1.toNat t.2.1.toNat T=true) (h64:Wm T=true) {r c q:Nat} (hr:r<t.2.1.toNat) (hc:c<t.1.1.toNat) (hq:q<t.1.1.toNat) :
  EC (A2 t,T,(r:Int),(c:Int),(q:Int),())=some (Rw t T r c q,()):=by
 obtain ⟨b1,b2,b3,b4⟩:=Lu ht
 obtain ⟨n1,n2,n3,p1,p2,p3,_⟩:=Bi ht
 obtain ⟨T1,T2⟩:=DU hT
 have hA:okA (A2 t,T,(r:Int),(c:Int),(q:Int),())=true:=TF (by rw [b3];exact b1) (by omega) (by rw [b2,b3];exact hT) (by omega) (by omega) (by omega)
 have hrT:r<T.length:=by omega
 obtain ⟨s1,s2⟩:=Cj (T2 r hrT)
 have hcn:c<T[r].length:=s1.symm▸hc
 have hqn:q<T[r][c].length:=by
  have:=s2 c hc
  rw [BC (e:=Ai) hcn] at this
  omega
 have ev:AS (T.getD r []) (c:Int) (q:Int)=T[r][c][q]:=by
  unfold AS
  simp only [Int.toNat_natCast,BJ hrT,BJ hcn,BJ hqn]
 have hv:Auy (AS (T.getD r []) (c:Int) (q:Int))=true:=by
  rw [ev]
  unfold Wm at h64
  have h1:=List.all_eq_true.1 h64 _ (AGk hrT)
  have h2:=List.all_eq_true.1 h1 _ (AGk hcn)
  exact List.all_eq_true.1 h2 _ (AGk hqn)
 unfold EC Rw
 simp only [hA,Int.toNat_natCast,hv,Bool.and_self,if_true,b2]
 rw [Hn (b4 r hr c hc) (b4 r hr q hq)]
theorem AFc (N:Nat) (t:Tt) (T:List Tab) (ht:AV t=true) (hT:JM t.1.1.toNat t.2.1.toNat T=true) (h64:Wm T=true) (r c:Nat) (hr:r<t.2.1.toNat) (hc:c<t.1.1.toNat) (k:Nat) (hk:t.1.1.toNat<=k) :
  MV N (k+1) (T,A2 t,(r:Int),(c:Int),(0:Int),())=some (if (List.range t.1.1.toNat).all (Rw t T r c)=true then .inr (.inl (T,A2 t,(r:Int),(c:Int),())) else .inl (false,true,())):=by
 obtain ⟨n1,n2,n3,p1,p2,p3,_⟩:=Bi ht
 obtain ⟨T1,T2⟩:=DU hT
 have hrT:r<T.length:=by omega
 obtain ⟨s1,s2⟩:=Cj (T2 r hrT)
 have hcn:c<T[r].length:=s1.symm▸hc
 have hrow:T[r][c].length=t.1.1.toNat:=by
  have:=s2 c hc
  rw [BC (e:=Ai) hcn] at this
  exact this
 have:=Cp (L:=MV N) (r:=K2 N) (fun _ _=>rfl) (List.range t.1.1.toNat) (mk:=fun i=>(T,A2 t,(r:Int),(c:Int),(i:Int),())) (q:=Rw t T r c) (o:=.inl (false,true,())) (f:=.inr (.inl (T,A2 t,(r:Int),(c:Int),())))
  (by
   intro back i hi'
   have hi:i<t.1.1.toNat:=by simpa using hi'
   unfold K2
   simp only [Ad hrT,Ad hcn,Int.toNat_natCast,BC (e:=Ag) hrT,BC (e:=Ai) hcn,hrow,Az hi,if_true,Yk ht hT h64 hr hc hi,Option.bind_some,Dw hi n3,List.getElem_range]
   cases Rw t T r c i<;>rfl)
  (by
   intro back
   unfold K2
   simp only [Ad hrT,Ad hcn,Int.toNat_natCast,BC (e:=Ag) hrT,BC (e:=Ai) hcn,hrow,List.length_range,AL,if_true,AGb,if_false]) k 0 (by simp) (by simpa using hk)
 simpa only [Int.natCast_zero,List.drop_zero] using this
theorem AEm (N:Nat) (hN:20<=N) (t:Tt) (T:List Tab) (ht:AV t=true) (hT:JM t.1.1.toNat t.2.1.toNat T=true) (h64:Wm T=true) (r:Nat) (hr:r<t.2.1.toNat) (k:Nat) (hk:t.1.1.toNat<=k) :
  ND N (k+1) (T,A2 t,(r:Int),(0:Int),())=some (if (List.range t.1.1.toNat).all (fun c=>(List.range t.1.1.toNat).all (Rw t T r c))=true then .inr (.inl (T,A2 t,(r:Int),())) else .inl (false,true,())):=by
 obtain ⟨n1,n2,n3,p1,p2,p3,_⟩:=Bi ht
 obtain ⟨T1,T2⟩:=DU hT
 have hrT:r<T.length:=by omega
 obtain ⟨s1,s2⟩:=Cj (T2 r hrT)
 have:=Cp (L:=ND N) (r:=Lb N) (fun _ _=>rfl) (List.range t.1.1.toNat) (mk:=fun i=>(T,A2 t,(r:Int),(i:Int),())) (q:=fun c=>(List.range t.1.1.toNat).all (Rw t T r c)) (o:=.inl (false,true,())) (f:=.inr (.inl (T,A2 t,(r:Int),())))
  (by
   intro back i hi'
   have hi:i<t.1.1.toNat:=by simpa using hi'
   have h4:=AFc N t T ht hT h64 r i hr hi (N-1) (by omega)
   rw [show N-1+1=N by omega] at h4
   unfold Lb
   simp only [Ad hrT,Int.toNat_natCast,BC (e:=Ag) hrT,s1,Az hi,if_true,h4,Option.bind_some,List.getElem_range]
   cases (List.range t.1.1.toNat).all (Rw t T r i) with
   | true=>simp only [if_true,Dw hi n3]
   | false=>simp only [AGb,if_false])
  (by
   intro back
   unfold Lb
   simp only [Ad hrT,Int.toNat_natCast,BC (e:=Ag) hrT,s1,List.length_range,AL,if_true,AGb,if_false]) k 0 (by simp) (by simpa using hk)
 simpa only [Int.natCast_zero,List.drop_zero] using this
theorem Ag1 {t:Tt} (ht:AV t=true) (T:List Tab):Hg t.1.1 t.2.1 T=Hg (t.1.1.toNat:Int) (t.2.1.toNat:Int) T:=by
 obtain ⟨n1,n2,n3,p1,p2,p3,_⟩:=Bi ht
 rw [<- n1,<- p1]
theorem Aay (d) (r) (h:D5 d=some r):∃N,WN N d=some r:=by
 obtain ⟨t,T,_⟩:=d
 unfold D5 at h
 split at h
 ·rename_i hc
  simp only [AGc] at hc
  obtain ⟨⟨ho,hT3⟩,h64⟩:=hc
  have h:=AGg h
  subst h
  refine ⟨20,?_⟩
  unfold WN tpB
  simp only [C7,ho,if_true,Option.bind_some]
  cases ht:AV t with
  | false=>rfl
  | true=>
   simp only [Bool.not_true,AGb,if_false,Iq,ho,hT3,Bool.and_self,if_true,Option.bind_some]
   cases hf:Hg t.1.1 t.2.1 T with
   | false=>rfl
   | true=>
    have hf':=hf
    rw [Ag1 ht] at hf'
    have hT:=Q9 hf'
    obtain ⟨n1,n2,n3,p1,p2,p3,_⟩:=Bi ht
    obtain ⟨T1,T2⟩:=DU hT
    have key:=Cp (L:=RT 20) (r:=LB 20) (fun _ _=>rfl) (List.range t.2.1.toNat) (mk:=fun i=>(T,A2 t,(i:Int),())) (q:=fun r=>(List.range t.1.1.toNat).all fun c=>(List.range t.1.1.toNat).all (Rw t T r c)) (o:=.inl (false,true,())) (f:=.inr (.inl ()))
     (by
      intro back i hi'
      have hi:i<t.2.1.toNat:=by simpa using hi'
      have h4:=AEm 20 (AGf _) t T ht hT h64 i hi 19 (by omega)
      unfold LB
      simp only [T1,Az hi,if_true,h4,Option.bind_some,List.getElem_range]
      cases (List.range t.1.1.toNat).all fun c=>(List.range t.1.1.toNat).all (Rw t T i c) with
      | true=>simp only [if_true,Dw (show i<8 by omega) (AGf 8)]
      | false=>simp only [AGb,if_false])
     (by
      intro back
      unfold LB
      simp only [T1,List.length_range,AL,AGb,if_false]) 19 0 (by simp) (by simp;omega)
    simp only [Int.natCast_zero,List.drop_zero] at key
    simp only [Bool.not_true,AGb,if_false,Dg,ht,ho,Bool.and_self,if_true,Option.bind_some,key,Bool.true_and]
    have e:W6 t.2.1.toNat t.1.1.toNat (fun r c q=>Ct (Bx t.1.1.toNat (Bv t (r:Int))) (Cw t.2.1.toNat T (r:Int)) (AS (T.getD r []) (c:Int) (q:Int)) (c:Int) (q:Int))=(List.range t.2.1.toNat).all fun r=>(List.range t.1.1.toNat).all fun c=>(List.range t.1.1.toNat).all (Rw t T r c):=rfl
    rw [e]
    cases (List.range t.2.1.toNat).all fun r=>(List.range t.1.1.toNat).all fun c=>(List.range t.1.1.toNat).all (Rw t T r c)<;>rfl
 ·cases h
open Go.Proofs
theorem XJ (d) (r) (h:GJ d=some r):∃N,Wl N d=some r:=by
 obtain ⟨xs,f,_⟩:=d
 unfold GJ at h
 split at h
 ·rename_i hl
  have hmx:=BH (Ci hl)
  have h:=AGg h
  subst h
  refine ⟨xs.length+1,?_⟩
  unfold Wl
  have:=E4 (L:=RI (xs.length+1)) (r:=KG (xs.length+1)) (fun _ _=>rfl) (e:=I) xs (mk:=fun i=>(xs,f,(xs.length:Int),(i:Int),())) (q:=fun b=>decide (b < -1)) (o:=fun i=>.inl ((i:Int),())) (f:=.inr (.inl ()))
   (by
    intro back i hi
    unfold KG WF S3
    simp only [Az hi,if_true,Ad hi,Int.toNat_natCast,A1 hi hmx,Option.bind_some])
   (by intro back;unfold KG;simp only [AL,AGb,if_false]) xs.length 0 (by omega) (by omega)
  simp only [Int.natCast_zero,List.drop_zero] at this
  simp only [this,Option.bind_some]
  cases Gs (fun b=>decide (b < -1)) xs 0<;>rfl
 ·cases h
theorem Y8 (row:List Int) (n:Int) (v w x:Unit) (h:okL row=true):R0 (row,(v,n,w),x)=some (MG n row,()):=by
 unfold R0 Xe Ag4 MG
 simp only [GJ,h,if_true,Option.bind_some,FA,SK]
 by_cases e:(row.length:Int)=n<;>simp [e]
theorem VN (d) (r) (h:GK d=some r):∃N,WH N d=some r:=by
 obtain ⟨xs,⟨v,n,w⟩,_⟩:=d
 unfold GK at h
 split at h
 ·rename_i hll
  obtain ⟨hl,ha⟩:=II hll
  have hmx:=BH (Ci hl)
  have h:=AGg h
  subst h
  refine ⟨xs.length+1,?_⟩
  unfold WH
  have:=E4 (L:=Sh (xs.length+1)) (r:=KH (xs.length+1)) (fun _ _=>rfl) (e:=Ai) xs (mk:=fun i=>(xs,(v,n,w),(xs.length:Int),(i:Int),())) (q:=MG n) (o:=fun i=>.inl ((i:Int),())) (f:=.inr (.inl ()))
   (by
    intro back i hi
    have hx:okL (at_ Ai xs i)=true:=Fc (e:=Ai) ha hi
    unfold KH
    simp only [Az hi,if_true,Ad hi,Int.toNat_natCast,A1 hi hmx,Y8 _ _ _ _ _ hx,Option.bind_some])
   (by intro back;unfold KH;simp only [AL,AGb,if_false]) xs.length 0 (by omega) (by omega)
  simp only [Int.natCast_zero,List.drop_zero] at this
  simp only [this,Option.bind_some]
  cases Gs (MG n) xs 0<;>rfl
 ·cases h
theorem Aum (n:Int) (rows:Tab):rows.any (MG n) = !rows.all (Kf n):=by
 rw [List.any_eq_not_all_not]
 congr 1
 congr 1
 funext row
 unfold MG Kf
 rw [Bool.not_or,Bool.not_not,List.not_any_eq_all_not]
 congr 2
 funext v
 by_cases h:v < -1
 ·have:¬ -1<=v:=by omega
  simp [h,this]
 ·have : -1<=v:=by omega
  simp [h,this]
theorem Yq {l:List Int} (hn:Eo l=true) (u v w v2 w2 x:Unit) {T:Tab} (hT:sqL l.length T=true) {b q:Nat} (hb:b<l.length) (hq:q<l.length) {num:Int} (hnum:0<num) :
  Sw ((b:Int),(v,(q:Int),(l,u),T,(v2,num,w2),w),x)=some (decide (0<=Aw (AH l) T (b:Int) (q:Int))&&decide (Aw (AH l) T (b:Int) (q:Int)<num),()):=by
 obtain ⟨t1,t2⟩:=Cj hT
 unfold Sw XF VR Us Aw
 by_cases e:(b:Int)=(q:Int)
 ·simp [e,hnum]
 ·have e':((b:Int)==(q:Int))=false:=by simpa using e
  have i1:Af (b:Int) T.length=true:=Ad (by omega)
  have hlen:decide ((at_ Ai T b).length=l.length)=true:=decide_eq_true (t2 b hb)
  have hw:AW (fun z=>(at_ Ai T b).getD z.toNat 0) (AH l (q:Int)) 0=AW (AS T (b:Int)) (AH l (q:Int)) 0:=EI fun z hz=>by
   have hlt:b<T.length:=by omega
   unfold AS
   rw [BC (e:=Ai) hlt,Int.toNat_natCast,BJ hlt]
  simp only [e',e,AGb,if_false,i1,if_true,Int.toNat_natCast,BG,hn,hlen,GR hq,Bool.and_self,Option.bind_some,hw]
  generalize AW (AS T (b:Int)) (AH l (q:Int)) 0=a
  by_cases h:a>=0
  ·have h':0<=a:=h
   simp [h,h']
  ·have h':¬0<=a:=h
   simp [h,h']
theorem Xn (d) (r) (h:GY d=some r):∃N,Ag9 N d=some r:=by
 obtain ⟨xs,⟨v,q,⟨l,u⟩,T,⟨v2,num,w2⟩,w⟩,_⟩:=d
 unfold GY at h
 split at h
 ·rename_i hc
  simp only [AGc] at hc
  obtain ⟨⟨⟨⟨⟨hn,hT⟩,hq⟩,hxs⟩,hlen⟩,hnum⟩:=hc
  have hlen:xs.length<=1000:=of_decide_eq_true hlen
  have hnum:0<num:=of_decide_eq_true hnum
  obtain ⟨q1,q2⟩:=Dk hq
  have h:=AGg h
  subst h
  have hmx:xs.length<=maxLen:=by unfold maxLen;omega
  refine ⟨xs.length+1,?_⟩
  unfold Ag9
  have:=E4 (L:=WA (xs.length+1)) (r:=M1 (xs.length+1)) (fun _ _=>rfl) (e:=I) xs (mk:=fun i=>(xs,(v,q,(l,u),T,(v2,num,w2),w),(xs.length:Int),(i:Int),())) (q:=fun b=>decide (0<=Aw (AH l) T b q)&&decide (Aw (AH l) T b q<num)) (o:=fun i=>.inl ((i:Int),())) (f:=.inr (.inl ()))
   (by
    intro back i hi
    have hx:at_ I xs i=xs[i]:=AM (e:=I) hi
    obtain ⟨b1,b2⟩:=Dk (List.all_eq_true.1 hxs xs[i] (AGk hi))
    have hcan:=Yq hn u v w v2 w2 () hT b2 q2 hnum
    rw [<- b1,<- q1] at hcan
    unfold M1
    simp only [Az hi,if_true,Ad hi,Int.toNat_natCast,A1 hi hmx,hx,hcan,Option.bind_some])
   (by intro back;unfold M1;simp only [AL,AGb,if_false]) xs.length 0 (by omega) (by omega)
  simp only [Int.natCast_zero,List.drop_zero] at this
  simp only [this,Option.bind_some]
  cases Gs (fun b=>decide (0<=Aw (AH l) T b q)&&decide (Aw (AH l) T b q<num)) xs 0<;>rfl
 ·cases h
theorem UL {l:List Int} (hn:Eo l=true) (u v2 w2 x:Unit) {T:Tab} (hT:sqL l.length T=true) {c q:Nat} (hc:c<l.length) (hq:q<l.length) {num:Int} (hnum:0<num) :
  O8 0 ((l,u),T,(c:Int),(q:Int),(v2,num,w2),x)=some ((AH l (c:Int)).any (fun b=>decide (0<=Aw (AH l) T b (q:Int))&&decide (Aw (AH l) T b (q:Int)<num)),()):=by
 unfold O8 Aho
 have hall:(AH l (c:Int)).all (inB 0 ((l.length:Int)-1))=true:=List.all_eq_true.2 fun z hz=>by
  obtain ⟨y,hy,rfl⟩:=MQ hn c hc z hz
  exact GR hy
 have hbl:=D1 l (c:Int)
 have hs1:Aat (AH l (c:Int))=true:=decide_eq_true (by omega)
 have hd:decide (0<num)=true:=decide_eq_true hnum
 simp only [MN hn u hc,Tb hn hc,Option.bind_some,GY,hn,hT,GR hq,hall,hs1,hd,Bool.and_self,if_true,FA]
theorem CN {n:Nat} {nets:List Nt} (h:HN n nets=true):1<=nets.length/\nets.length<=8 /\ ∀r (hr:r<nets.length),Eo nets[r].1=true/\nets[r].1.length=n:=by
 unfold HN at h
 simp only [AGc,decide_eq_true_eq,List.all_eq_true] at h
 exact ⟨h.1.1,h.1.2,fun r hr=>h.2 _ (AGk hr)⟩
def Uc (nets:List Nt) (T:List Tab) (r c q:Nat):Bool:=Ct (By nets r) (Cw nets.length T (r:Int)) (AS (T.getD r []) (c:Int) (q:Int)) (c:Int) (q:Int)
theorem AC4 (N:Nat) (n:Nat) (hn8:n<=8) (nets:List Nt) (hN:HN n nets=true) (T:List Tab) (hT:JM n nets.length T=true) (r c:Nat) (hr:r<nets.length) (hc:c<n) (hrT:r<T.length) (hcn:c<T[r].length) (s39:List Nt) (s5 s40 s41 s46 s47:Int) (k:Nat) (hk:n<=k) :
  Ny N (k+1) (nets,T,s5,(r:Int),nets[r],(c:Int),s39,s40,s41,s46,s47,T[r][c],(T[r][c].length:Int),(0:Int),())=some (if (List.range n).all (Uc nets T r c)=true then .inr (.inl (nets,T,s5,(r:Int),nets[r],s39,s40,s41,s46,s47,())) else .inl (false,())):=by
 obtain ⟨N1,N2,N3⟩:=CN hN
 obtain ⟨T1,T2⟩:=DU hT
 obtain ⟨nb,nl⟩:=N3 r hr
 obtain ⟨s1,s2⟩:=Cj (T2 r hrT)
 have hrow:T[r][c].length=n:=by
  have:=s2 c hc
  rw [BC (e:=Ai) hcn] at this
  exact this
 obtain ⟨w1,w2,w3⟩:=JR hr N2
 obtain ⟨hnx,en⟩:=RJ (T:=T) T1 N2 hr
 have w2':(((r+1:Nat):Int)).tmod (nets.length:Int)=(((r+1) % nets.length:Nat):Int):=w2
 have e0:((List.length nets:Int) != 0)=true:=by rw [bne_iff_ne];omega
 have hsq:=T2 _ hnx
 rw [<- nl] at hsq
 have:=Cp (L:=Ny N) (r:=KC N) (fun _ _=>rfl) (List.range n) (mk:=fun i=>(nets,T,s5,(r:Int),nets[r],(c:Int),s39,s40,s41,s46,s47,T[r][c],(T[r][c].length:Int),(i:Int),())) (q:=Uc nets T r c) (o:=.inl (false,())) (f:=.inr (.inl (nets,T,s5,(r:Int),nets[r],s39,s40,s41,s46,s47,())))
  (by
   intro back i hi'
   have hi:i<n:=by simpa using hi'
   have hir:i<T[r][c].length:=by omega
   have ev:AS (T.getD r []) (c:Int) (i:Int)=T[r][c][i]:=by
    unfold AS
    simp only [Int.toNat_natCast,BJ hrT,BJ hcn,BJ hir]
   have eb:By nets r=AH nets[r].1:=by unfold By;rw [BJ hr]
   unfold KC
   simp only [hrow,Az hi,if_true,Ad hi,w1,e0,w2',Ad hnx,Int.toNat_natCast,BC (e:=I) hir,BC (e:=Ag) hnx,Dw hi hn8,List.getElem_range,Uc,ev,eb,en,Ct]
   generalize hv:T[r][c][i]=v
   by_cases v0:v=0
   ·subst v0
    have hne:((c:Int) != (i:Int)) = !decide ((c:Int)=(i:Int)):=by by_cases h:(c:Int)=(i:Int)<;>simp [h]
    by_cases h:(c:Int)=(i:Int)<;>simp [hne,h]
   ·have b0:(v==(0:Int))=false:=by simpa using v0
    by_cases vp:v>0
    ·have vl:¬v<=0:=by omega
     have hcan:=UL nb nets[r].2 () () () hsq (show c<nets[r].1.length by omega) (show i<nets[r].1.length by omega) vp
     simp only [b0,vp,vl,decide_true,if_true,if_false,AGb]
     have e:nets[r]=(nets[r].1,nets[r].2):=rfl
     rw [<- e] at hcan
     rw [hcan]
     simp only [Option.bind_some]
     cases ((AH nets[r].1 (c:Int)).any fun b=>decide (0<=Aw (AH nets[r].1) T[(r+1) % nets.length] b (i:Int))&&decide (Aw (AH nets[r].1) T[(r+1) % nets.length] b (i:Int)<v))<;>rfl
    ·have vl:v<=0:=by omega
     have vn:v<0:=by omega
     simp only [b0,vp,vl,vn,decide_true,decide_false,if_true,if_false,AGb,Bool.true_or])
  (by
   intro back
   unfold KC
   simp only [hrow,List.length_range,AL,AGb,if_false]) k 0 (by simp) (by simpa using hk)
 simpa only [Int.natCast_zero,List.drop_zero] using this
theorem AAd (N:Nat) (hNN:20<=N) (n:Nat) (hn8:n<=8) (nets:List Nt) (hN:HN n nets=true) (T:List Tab) (hT:JM n nets.length T=true) (r:Nat) (hr:r<nets.length) (s39:List Nt) (s5 s40 s41:Int) (k:Nat) (hk:n<=k) :
  M4 N (k+1) (nets,T,s5,(r:Int),nets[r],s39,s40,s41,(n:Int),(0:Int),())=some (if (List.range n).all (fun c=>(List.range n).all (Uc nets T r c))=true then .inr (.inl (nets,T,s5,s39,s40,s41,())) else .inl (false,())):=by
 obtain ⟨T1,T2⟩:=DU hT
 have hrT:r<T.length:=by omega
 obtain ⟨s1,s2⟩:=Cj (T2 r hrT)
 have:=Cp (L:=M4 N) (r:=K4 N) (fun _ _=>rfl) (List.range n) (mk:=fun i=>(nets,T,s5,(r:Int),nets[r],s39,s40,s41,(n:Int),(i:Int),())) (q:=fun c=>(List.range n).all (Uc nets T r c)) (o:=.inl (false,())) (f:=.inr (.inl (nets,T,s5,s39,s40,s41,())))
  (by
   intro back i hi'
   have hi:i<n:=by simpa using hi'
   have hcn:i<T[r].length:=s1.symm▸hi
   have h6:=AC4 N n hn8 nets hN T hT r i hr hi hrT hcn s39 s5 s40 s41 (n:Int) (i:Int) (N-1) (by omega)
   rw [show N-1+1=N by omega] at h6
   unfold K4
   simp only [Az hi,if_true,Ad hrT,Int.toNat_natCast,BC (e:=Ag) hrT,Ad hcn,BC (e:=Ai) hcn,h6,Option.bind_some,List.getElem_range]
   cases (List.range n).all (Uc nets T r i) with
   | true=>simp only [if_true,Dw hi hn8]
   | false=>simp only [AGb,if_false])
  (by
   intro back
   unfold K4
   simp only [List.length_range,AL,AGb,if_false]) k 0 (by simp) (by simpa using hk)
 simpa only [Int.natCast_zero,List.drop_zero] using this
theorem AA7 (N:Nat) (hNN:20<=N) (n:Nat) (hn8:n<=8) (nets:List Nt) (hN:HN n nets=true) (T:List Tab) (hT:JM n nets.length T=true) (k:Nat) (hk:nets.length<=k) :
  M7 N (k+1) (nets,T,(n:Int),nets,(nets.length:Int),(0:Int),())=some (if (List.range nets.length).all (fun r=>(List.range n).all (fun c=>(List.range n).all (Uc nets T r c)))=true then .inr (.inl ()) else .inl (false,())):=by
 obtain ⟨N1,N2,N3⟩:=CN hN
 have:=Cp (L:=M7 N) (r:=KB N) (fun _ _=>rfl) (List.range nets.length) (mk:=fun i=>(nets,T,(n:Int),nets,(nets.length:Int),(i:Int),())) (q:=fun r=>(List.range n).all (fun c=>(List.range n).all (Uc nets T r c))) (o:=.inl (false,())) (f:=.inr (.inl ()))
  (by
   intro back i hi'
   have hi:i<nets.length:=by simpa using hi'
   have h4:=AAd N hNN n hn8 nets hN T hT i hi nets (n:Int) (nets.length:Int) (i:Int) (N-1) (by omega)
   rw [show N-1+1=N by omega] at h4
   unfold KB
   simp only [Az hi,if_true,Ad hi,Int.toNat_natCast,BC (e:=AA) hi,h4,Option.bind_some,List.getElem_range]
   cases (List.range n).all (fun c=>(List.range n).all (Uc nets T i c)) with
   | true=>simp only [if_true,Dw hi N2]
   | false=>simp only [AGb,if_false])
  (by
   intro back
   unfold KB
   simp only [List.length_range,AL,AGb,if_false]) k 0 (by simp) (by simpa using hk)
 simpa only [Int.natCast_zero,List.drop_zero] using this
theorem Adt {nets:List Nt} (h:0<nets.length):nN nets=nets[0].1.length:=by
 unfold nN
 cases nets with
 | nil=>simp at h
 | cons a l=>rfl
theorem Po (d) (r) (h:DY d=some r):∃N,VQ N d=some r:=by
 obtain ⟨nets,T,_⟩:=d
 unfold DY at h
 split at h
 ·rename_i hc
  simp only [AGc] at hc
  obtain ⟨hN,hT3⟩:=hc
  have h:=AGg h
  subst h
  obtain ⟨N1,N2,N3⟩:=CN hN
  obtain ⟨hT1,hT2⟩:=WW hT3
  have hmx:=BH (Ci hT1)
  have h0:0<nets.length:=by omega
  have en:=Adt h0
  obtain ⟨nb,nl⟩:=N3 0 h0
  have hn8:nN nets<=8:=by
   have:=(CR nb).2.2.1
   omega
  refine ⟨T.length+20,?_⟩
  unfold VQ E8
  have i0:Af (0:Int) nets.length=true:=Ad h0
  have z0:(0:Int).toNat=0:=rfl
  have a0:at_ AA nets 0=nets[0]:=BC (e:=AA) h0
  simp only [i0,if_true,z0,a0,SK,<- en]
  unfold Hg
  by_cases hl:(T.length:Int)=(nets.length:Int)
  ·have k0:=Cp (L:=R7 (T.length+20)) (r:=KP (T.length+20)) (fun _ _=>rfl) T (mk:=fun i=>(nets,T,(nN nets:Int),T,(T.length:Int),(i:Int),())) (q:=F0 (nN nets:Int)) (o:=.inl (false,())) (f:=.inr (.inl (nets,T,(nN nets:Int),())))
    (by
     intro back i hi
     have hrows:DV T[i]=true:=List.all_eq_true.1 hT2 _ (AGk hi)
     unfold KP Aiq
     simp only [Az hi,if_true,Ad hi,Int.toNat_natCast,BC (e:=Ag) hi,SK,GK,hrows,Option.bind_some,FA,Aum,A1 hi hmx,F0]
     by_cases e:(T[i].length:Int)=(nN nets:Int)
     ·simp only [e,decide_true,Bool.not_true,AGb,if_false,Bool.true_and]
      cases T[i].all (Kf (nN nets:Int))<;>rfl
     ·simp only [e,decide_false,Bool.not_false,if_true,Bool.false_and,AGb,if_false])
    (by
     intro back
     unfold KP
     simp only [AL,AGb,if_false]) (T.length+19) 0 (by omega) (by omega)
   simp only [Int.natCast_zero,List.drop_zero] at k0
   simp only [hl,decide_true,Bool.not_true,AGb,if_false,Bool.and_true]
   rw [hl] at k0
   rw [k0]
   cases hf:T.all (F0 (nN nets:Int)) with
   | false=>simp only [AGb,if_false,Option.bind_some,Bool.false_and]
   | true=>
    have hT:JM (nN nets) nets.length T=true:=Q9 (by unfold Hg;rw [hf,hl];simp)
    have k2:=AA7 (T.length+20) (by omega) (nN nets) hn8 nets hN T hT (T.length+19) (by omega)
    simp only [if_true,Option.bind_some,k2,Bool.true_and]
    have e:W6 nets.length (nN nets) (fun r c q=>Ct (By nets r) (Cw nets.length T (r:Int)) (AS (T.getD r []) (c:Int) (q:Int)) (c:Int) (q:Int))=(List.range nets.length).all fun r=>(List.range (nN nets)).all fun c=>(List.range (nN nets)).all (Uc nets T r c):=rfl
    rw [e]
    cases (List.range nets.length).all fun r=>(List.range (nN nets)).all fun c=>(List.range (nN nets)).all (Uc nets T r c)<;>rfl
  ·simp only [hl,decide_false,Bool.not_false,if_true,Bool.and_false,Bool.false_and]
 ·cases h
theorem Nx {t:Tt} (ht:AV t=true):HN t.1.1.toNat (Bt t)=true/\(Bt t).length=t.2.1.toNat/\nN (Bt t)=t.1.1.toNat /\ ∀r:Nat,r<t.2.1.toNat -> ∀x:Nat,x<t.1.1.toNat->By (Bt t) r (x:Int)=Bx t.1.1.toNat (Bv t (r:Int)) (x:Int):=by
 obtain ⟨n1,n2,n3,p1,p2,p3,h4,h5⟩:=Bi ht
 have hl:(Bt t).length=t.2.1.toNat:=by unfold Bt;simp
 have hg:∀r (hr:r<(Bt t).length),(Bt t)[r]=(toI (Er t.1.1.toNat (Bv t (r:Int))),()):=fun r hr=>by
  apply AGg
  rw [<- AGn hr]
  unfold Bt
  rw [List.getElem?_map,List.getElem?_range (by omega)]
  rfl
 have he:∀r:Int,(Bv t r).all (BD (t.1.1.toNat:Int))=true:=fun r=>(Kj (t:=t) (n:=t.1.1.toNat) h4 h5 r).1
 refine ⟨?_,hl,?_,fun r hr x hx => ?_⟩
 ·unfold HN
  simp only [AGc,decide_eq_true_eq,List.all_eq_true]
  refine ⟨⟨by omega,by omega⟩,fun w hw => ?_⟩
  obtain ⟨r,hr,rfl⟩:=List.getElem_of_mem hw
  rw [hg r hr]
  exact T9 n3 (he _)
 ·have h0:0<(Bt t).length:=by omega
  rw [Adt h0,hg 0 h0]
  exact (T9 n3 (he _)).2
 ·have hr':r<(Bt t).length:=by omega
  unfold By
  rw [BJ hr',hg r hr']
  exact Pd n3 (he _) hx
theorem Asi (t:Tt) (T:List Tab) (w:Unit) (ho:okT t=true) (hT:Ja T=true):PZ 0 (t,T,w)=some (tpB t T):=by
 unfold PZ tpB
 simp only [U5 t _ ho,Option.bind_some]
 cases ht:AV t with
 | false=>rfl
 | true=>
  obtain ⟨n1,n2,n3,p1,p2,p3,_⟩:=Bi ht
  obtain ⟨b1,b2,b3,b4⟩:=Nx ht
  have e1:HN (nN (Bt t)) (Bt t)=true:=by rw [b3];exact b1
  simp only [Bool.not_true,AGb,if_false,Fz ht ho,Option.bind_some,DY,e1,hT,Bool.and_self,if_true]
  rw [b3,b2,<- Ag1 ht]
  have e:W6 t.2.1.toNat t.1.1.toNat (fun r c q=>Ct (By (Bt t) r) (Cw t.2.1.toNat T (r:Int)) (AS (T.getD r []) (c:Int) (q:Int)) (c:Int) (q:Int))=W6 t.2.1.toNat t.1.1.toNat (fun r c q=>Ct (Bx t.1.1.toNat (Bv t (r:Int))) (Cw t.2.1.toNat T (r:Int)) (AS (T.getD r []) (c:Int) (q:Int)) (c:Int) (q:Int)):=by
   unfold W6
   apply De
   simp only [List.all_eq_true,List.mem_range]
   constructor
   ·intro h r hr c hc q hq
    rw [<- Hn (b4 r hr c hc) (b4 r hr q hq)]
    exact h r hr c hc q hq
   ·intro h r hr c hc q hq
    rw [Hn (b4 r hr c hc) (b4 r hr q hq)]
    exact h r hr c hc q hq
  rw [e]
theorem LP (T:List Tab) (u:Unit) (h:Ja T=true):Dh (T,T,u)=some (true,()):=by
 unfold Dh
 simp only [h,if_true,decide_true]
theorem Bw (p n:Nat) (f:Nat->Nat->Nat->Int):(A7 p n f).length=p:=by simp [A7]
theorem FF {p n r:Nat} (f:Nat->Nat->Nat->Int) (hr:r<p) (h:r<(A7 p n f).length):(A7 p n f)[r]=AO n (f r):=by
 apply AGg
 rw [<- AGn h]
 unfold A7
 rw [List.getElem?_map,List.getElem?_range hr]
 rfl
theorem Fy {p n r:Nat} (f:Nat->Nat->Nat->Int) (hr:r<p):at_ Ag (A7 p n f) r=AO n (f r):=by
 have h:r<(A7 p n f).length:=by rw [Bw];exact hr
 rw [BC (e:=Ag) h,FF f hr h]
theorem Ea {n c:Nat} (f:Nat->Nat->Int) (hc:c<n):at_ Ai (AO n f) c=(List.range n).map (f c):=by
 have h:c<(AO n f).length:=by rw [Cr];exact hc
 rw [BC (e:=Ai) h]
 apply AGg
 rw [<- AGn h]
 exact SM f hc
theorem Afu {n q:Nat} (g:Nat->Int) (hq:q<n):at_ I ((List.range n).map g) q=g q:=by
 have h:q<((List.range n).map g).length:=by simpa using hq
 rw [BC (e:=I) h]
 simp
theorem Lk (n:Nat) (g:Nat->Int):((List.range n).map g).length=n:=by simp
theorem B7 {p n:Nat} {f g:Nat->Nat->Nat->Int} (h:∀r c q,r<p->c<n->q<n->f r c q=g r c q):A7 p n f=A7 p n g:=by
 unfold A7
 exact List.map_congr_left fun r hr=>Fj fun c q hc hq=>h r c q (List.mem_range.1 hr) hc hq
def Nw (f:Nat->Nat->Nat->Int) (r c q:Nat) (v:Int):Nat->Nat->Nat->Int:=fun a b d=>if a=r/\b=c/\d=q then v else f a b d
theorem TU {p n r c q:Nat} (f:Nat->Nat->Nat->Int) (hr:r<p) (hc:c<n) (hq:q<n) (v:Int) :
  List.set (A7 p n f) r (List.set (AO n (f r)) c (List.set ((List.range n).map (f r c)) q v))=A7 p n (Nw f r c q v):=by
 have e1:(List.range n).map (f r c)=at_ Ai (AO n (f r)) c:=(Ea (f r) hc).symm
 rw [e1,As9 hc hq v]
 apply List.ext_getElem
 ·simp [Bw]
 ·intro i h1 h2
  have hi:i<p:=by simpa [Bw] using h1
  rw [List.getElem_set]
  split
  ·rename_i e
   subst e
   rw [FF (Nw f r c q v) hi]
   exact Fj fun a b _ _=>by unfold Nw;simp
  ·rename_i e
   rw [FF f hi,FF (Nw f r c q v) hi]
   exact Fj fun a b _ _=>by
    unfold Nw
    rw [if_neg (by rintro ⟨h,_⟩;exact e h.symm)]
theorem EH {p n:Nat} {g:Nat->Nat->Nat->Bool}:IX p n g=true ↔ ∃r c q,r<p/\c<n/\q<n/\g r c q=true:=by
 unfold IX
 simp only [List.any_eq_true,List.mem_range]
 constructor
 ·rintro ⟨r,hr,c,hc,q,hq,h⟩
  exact ⟨r,c,q,hr,hc,hq,h⟩
 ·rintro ⟨r,c,q,hr,hc,hq,h⟩
  exact ⟨r,hr,c,hc,q,hq,h⟩
theorem ZW {n:Nat} {f g:Nat->Nat->Int} (h:∀c q,g c q<0->f c q<0):LC n g<=LC n f/\((∃c q,c<n/\q<n/\f c q<0 /\ ¬g c q<0)->LC n g<LC n f):=by
 have hsub:=QY (p:=fun i=>decide (f (i / n) (i % n)<0)) (q:=fun i=>decide (g (i / n) (i % n)<0)) (l:=List.range (n*n)) (fun i _ hi=>decide_eq_true (h _ _ (of_decide_eq_true hi)))
 refine ⟨hsub.1,fun ⟨c,q,hc,hq,h1,h2⟩=>hsub.2 ⟨c*n+q,?_,?_,?_⟩⟩
 ·rw [List.mem_range]
  have:(c+1)*n<=n*n:=Nat.mul_le_mul_right _ hc
  rw [Nat.succ_mul] at this
  omega
 all_goals
  have e1:(c*n+q) / n=c:=by
   rw [Nat.mul_comm,Nat.mul_add_div (by omega),Nat.div_eq_of_lt hq]
   omega
  have e2:(c*n+q) % n=q:=by
   rw [Nat.mul_comm,Nat.mul_add_mod,Nat.mod_eq_of_lt hq]
  rw [e1,e2]
 ·exact decide_eq_true h1
 ·exact decide_eq_false h2
def Nk (p n:Nat) (f:Nat->Nat->Nat->Int):Nat:=((List.range p).map fun r=>LC n (f r)).sum
theorem AAi {l:List Nat} {f g:Nat->Nat}:(∀x∈l,g x<=f x)->((l.map g).sum<=(l.map f).sum/\((∃x∈l,g x<f x)->(l.map g).sum<(l.map f).sum)):=by
 induction l with
 | nil=>intro _;exact ⟨AGf _,fun ⟨x,hx,_⟩=>by simp at hx⟩
 | cons a l ih=>
  intro h
  obtain ⟨h1,h2⟩:=ih fun x hx=>h x (by simp [hx])
  have ha:=h a (by simp)
  simp only [List.map_cons,List.sum_cons]
  refine ⟨by omega,fun ⟨x,hx,h3⟩ => ?_⟩
  rcases List.mem_cons.1 hx with rfl | hx
  ·omega
  ·have:=h2 ⟨x,hx,h3⟩;omega
theorem Mq {p n:Nat} {ball:Nat->Int->List Int} {t:Int} (ht:0<=t) {f:Nat->Nat->Nat->Int} (h:IX p n (Ba p n ball f)=true):Nk p n (Bb p n ball t f)<Nk p n f:=by
 obtain ⟨r,c,q,hr,hc,hq,hcan⟩:=EH.1 h
 have hsub:∀r c q,Bb p n ball t f r c q<0->f r c q<0:=fun r c q hi=>by
  unfold Bb at hi
  split at hi
  ·omega
  ·exact hi
 refine (AAi fun r _=>(ZW (hsub r)).1).2 ⟨r,List.mem_range.2 hr,(ZW (hsub r)).2 ⟨c,q,hc,hq,?_,?_⟩⟩
 ·unfold Ba at hcan
  simp only [AGc] at hcan
  exact of_decide_eq_true hcan.1
 ·unfold Bb
  rw [if_pos hcan]
  omega
theorem Zt (p n:Nat) (f:Nat->Nat->Nat->Int):Nk p n f<=p*(n*n):=by
 unfold Nk
 have:∀l:List Nat,(l.map fun r=>LC n (f r)).sum<=l.length*(n*n):=by
  intro l
  induction l with
  | nil=>simp
  | cons a l ih=>
   have:=Wd n (f a)
   simp only [List.map_cons,List.sum_cons,List.length_cons,Nat.succ_mul]
   omega
 simpa using this (List.range p)
structure Inv3 (p n:Nat) (ball:Nat->Int->List Int) (f:Nat->Nat->Nat->Int):Prop where
 low:∀r c q,-1<=f r c q
 home:∀r c,f r c c=0
 away:∀r c q,c≠q->f r c q≠0
 why:∀r c q,r<p->c<n->q<n->0<=f r c q->c=q \/ ∃b∈ball r (c:Int),0<=Aw (ball r) (AO n (f ((r+1) % p))) b (q:Int)
theorem Inv3.start (p n:Nat) (ball:Nat->Int->List Int):Inv3 p n ball BK:=by
 refine ⟨fun r c q => ?_,fun r c => ?_,fun r c q h => ?_,fun r c q _ _ _ h => ?_⟩
 ·unfold BK Br;split<;>omega
 ·unfold BK Br;simp
 ·unfold BK Br;rw [if_neg h];omega
 ·unfold BK Br at h
  by_cases e:c=q
  ·exact .inl e
  ·rw [if_neg e] at h;omega
def Lg (p n:Nat) (ball:Nat->Int->List Int):Prop := ∀r,r<p->EZ n (ball r)
theorem Adq {n:Nat} {ball:Int->List Int} (hb:EZ n ball) {f g:Nat->Nat->Int} (h:∀c q,0<=f c q->0<=g c q) {b q:Nat} (hbn:b<n) (hq:q<n) (h0:0<=Aw ball (AO n f) (b:Int) (q:Int)):0<=Aw ball (AO n g) (b:Int) (q:Int):=by
 unfold Aw at h0 |-
 by_cases e:(b:Int)=(q:Int)
 ·rw [if_pos e];exact Int.le_refl _
 ·rw [if_neg e] at h0 |-
  rcases B8 (AS (AO n f) (b:Int)) (ball (q:Int)) 0 with ⟨_,h1⟩ | ⟨h1,_,_⟩
  ·omega
  ·rcases B8 (AS (AO n g) (b:Int)) (ball (q:Int)) 0 with ⟨⟨x,hx,h2⟩,_⟩ | ⟨_,h2,_⟩
   ·exfalso
    obtain ⟨y,hy,rfl⟩:=hb q hq x hx
    have:=(h1 _ hx).1
    rw [Bk _ hbn hy] at this h2
    have:=h _ _ this
    omega
   ·exact h2
theorem Inv3.next {p n:Nat} {ball:Nat->Int->List Int} (hb:Lg p n ball) {t:Int} (ht:1<=t) {f:Nat->Nat->Nat->Int} (hI:Inv3 p n ball f):Inv3 p n ball (Bb p n ball t f):=by
 have hkeep:∀r c q,0<=f r c q->Bb p n ball t f r c q=f r c q:=fun r c q h=>by
  unfold Bb Ba
  have:decide (f r c q<0)=false:=by simp;omega
  simp [this]
 have hge:∀r c q,0<=f r c q->0<=Bb p n ball t f r c q:=fun r c q h=>by rw [hkeep r c q h];exact h
 refine ⟨fun r c q => ?_,fun r c => ?_,fun r c q h => ?_,fun r c q hr hc hq h => ?_⟩
 ·unfold Bb;split
  ·omega
  ·exact hI.low r c q
 ·rw [hkeep r c c (by rw [hI.home];exact Int.le_refl _)];exact hI.home r c
 ·unfold Bb;split
  ·omega
  ·exact hI.away r c q h
 ·have key:(∃b∈ball r (c:Int),0<=Aw (ball r) (AO n (f ((r+1) % p))) b (q:Int)) -> ∃b∈ball r (c:Int),0<=Aw (ball r) (AO n (Bb p n ball t f ((r+1) % p))) b (q:Int):=by
   rintro ⟨b,hbm,h1⟩
   obtain ⟨y,hy,rfl⟩:=hb r hr c hc b hbm
   exact ⟨_,hbm,Adq (hb r hr) (hge _) hy hq h1⟩
  by_cases hf:0<=f r c q
  ·exact (hI.why r c q hr hc hq hf).imp _root_.id key
  ·right
   have hcan:Ba p n ball f r c q=true:=by
    cases hcan:Ba p n ball f r c q with
    | true=>rfl
    | false=>unfold Bb at h;rw [if_neg (by rw [hcan];simp)] at h;exact absurd h hf
   unfold Ba at hcan
   simp only [AGc,List.any_eq_true,decide_eq_true_eq] at hcan
   exact key hcan.2
theorem Aby {p n:Nat} {ball:Nat->Int->List Int} (hb:Lg p n ball):∀(k:Nat) (t:Int) (f:Nat->Nat->Nat->Int),1<=t->Inv3 p n ball f->Nk p n f<k->Inv3 p n ball (Db p n ball k t f)/\IX p n (Ba p n ball (Db p n ball k t f))=false:=by
 intro k
 induction k with
 | zero=>intro t f _ _ h;omega
 | succ k ih=>
  intro t f ht hI h
  simp only [Db]
  by_cases ha:IX p n (Ba p n ball f)=true
  ·rw [if_pos ha]
   have:=Mq (t:=t) (by omega) ha
   exact ih (t+1) _ (by omega) (hI.next hb ht) (by omega)
  ·rw [if_neg ha]
   exact ⟨hI,by simpa using ha⟩
theorem Ms {p n:Nat} {b1 b2:Nat->Int->List Int} (hb:∀r,r<p -> ∀x:Nat,x<n->b1 r (x:Int)=b2 r (x:Int)) {f g:Nat->Nat->Nat->Int} (h:∀r c q,r<p->c<n->q<n->f r c q=g r c q) {r c q:Nat} (hr:r<p) (hc:c<n) (hq:q<n):Ba p n b1 f r c q=Ba p n b2 g r c q:=by
 have hm:(r+1) % p<p:=Nat.mod_lt _ (by omega)
 unfold Ba Aw
 rw [h r c q hr hc hq,Fj (f:=f ((r+1) % p)) (g:=g ((r+1) % p)) (fun a b ha hb'=>h _ a b hm ha hb'),hb r hr c hc,hb r hr q hq]
theorem XH {p n:Nat} {b1 b2:Nat->Int->List Int} (hb:∀r,r<p -> ∀x:Nat,x<n->b1 r (x:Int)=b2 r (x:Int)):∀(k:Nat) (t:Int) (f g:Nat->Nat->Nat->Int),(∀r c q,r<p->c<n->q<n->f r c q=g r c q) -> ∀r c q,r<p->c<n->q<n->Db p n b1 k t f r c q=Db p n b2 k t g r c q:=by
 intro k
 induction k with
 | zero=>intro t f g h;exact h
 | succ k ih=>
  intro t f g h r c q hr hc hq
  have ha:IX p n (Ba p n b1 f)=IX p n (Ba p n b2 g):=by
   apply Bool.eq_iff_iff.2
   rw [EH,EH]
   constructor
   ·rintro ⟨r,c,q,hr,hc,hq,hh⟩
    exact ⟨r,c,q,hr,hc,hq,by rw [<- Ms hb h hr hc hq];exact hh⟩
   ·rintro ⟨r,c,q,hr,hc,hq,hh⟩
    exact ⟨r,c,q,hr,hc,hq,by rw [Ms hb h hr hc hq];exact hh⟩
  simp only [Db,ha]
  split
  ·refine ih (t+1) _ _ (fun r c q hr hc hq => ?_) r c q hr hc hq
   unfold Bb
   rw [Ms hb h hr hc hq,h r c q hr hc hq]
  ·exact h r c q hr hc hq
theorem Uz {p n:Nat} {b1 b2:Nat->Int->List Int} (hb:∀r,r<p -> ∀x:Nat,x<n->b1 r (x:Int)=b2 r (x:Int)):NB p n b1=NB p n b2:=
 B7 (XH hb 520 1 BK BK fun _ _ _ _ _ _=>rfl)
theorem Ail (p n:Nat) (f:Nat->Nat->Nat->Int):JM n p (A7 p n f)=true:=by
 unfold JM
 rw [AGc,List.all_eq_true]
 refine ⟨decide_eq_true (Bw p n f),fun x hx => ?_⟩
 obtain ⟨r,hr,rfl⟩:=List.getElem_of_mem hx
 rw [FF f (by rw [Bw] at hr;exact hr)]
 exact MU n _
theorem Vn {p n r:Nat} (f:Nat->Nat->Nat->Int) (hr:r<p) (hp:p<=8):Cw p (A7 p n f) (r:Int)=AO n (f ((r+1) % p)):=by
 obtain ⟨h,e⟩:=RJ (T:=A7 p n f) (Bw p n f) hp hr
 rw [e,FF f (Nat.mod_lt _ (by omega))]
end Go.V.W
end
