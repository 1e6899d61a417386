/- What the law FnOneCop leans on, part 7: an interpreter of the model as plain data, its soundness, the functions as it tells them, and their laws. -/
import Derived.Test.YtnieoolfkakmdaaGreatVF
set_option linter.unusedVariables false
set_option linter.unusedSimpArgs false
set_option maxRecDepth 100000
namespace Go.V.W
open Go.Proofs
theorem eqB_e (x y:E):eqB K_Piiq x y=decide (x=y):=by
 obtain ⟨a,b,_⟩:=x
 obtain ⟨c,d,_⟩:=y
 show ((a==c)&&((b==d)&&true))=_
 rw [Bool.eq_iff_iff]
 simp
theorem node_eq (n:Int) (l:List E) (v:Unit) (x:Int) (u:Unit) (h0:0<=n) (h8:n<=8):g_q72q ((n,l,v),x,u)=(inB 0 (n-1) x,()):=by
 unfold g_q72q
 have hw:IntKind.wrap .i64 (n-1)=n-1:=wrap_in _ (by omega) (by omega)
 simp only [hw,l1In_eq]
theorem find_idx {α:Type} (p:α->Bool):∀l:List α,l.any p=true -> ∃j,∃hj:j<l.length,p l[j]=true/\(∀i (hi:i<l.length),i<j->p l[i]=false)/\l.find? p=some l[j]:=by
 intro l
 induction l with
 | nil=>intro h;cases h
 | cons a l ih=>
  intro h
  cases hp:p a with
  | true=>exact ⟨0,by simp,hp,fun i hi hij=>absurd hij (by omega),by simp [List.find?_cons,hp]⟩
  | false=>
   rw [List.any_cons,hp,Bool.false_or] at h
   obtain ⟨j,hj,h1,h2,h3⟩:=ih h
   refine ⟨j+1,by simp;exact hj,h1,fun i hi hij => ?_,?_⟩
   ·cases i with
    | zero=>exact hp
    | succ i=>exact h2 i (by simpa using hi) (by omega)
   ·rw [List.find?_cons,hp]
    exact h3
theorem sqB_bound {n:Nat} {T:Tab} (h:sqB n T=true):sqL n T=true /\ ∀c r,c<n->r<n -> -1<=tab2 T (c:Int) (r:Int)/\tab2 T (c:Int) (r:Int)<=1000:=by
 unfold sqB at h
 simp only [Bool.and_eq_true] at h
 obtain ⟨h1,h2⟩:=h
 refine ⟨h1,fun c r hc hr => ?_⟩
 obtain ⟨t1,t2⟩:=sqL_parts h1
 have hcl:c<T.length:=by omega
 have e1:at_ K_Si T c=T[c]:=at_get (e:=K_Si) hcl
 have t2':=t2 c hc
 rw [e1] at t2'
 have hrl:r<T[c].length:=by omega
 have:=List.all_eq_true.1 (List.all_eq_true.1 h2 T[c] (List.getElem_mem hcl)) T[c][r] (List.getElem_mem hrl)
 simp only [Bool.and_eq_true,decide_eq_true_eq] at this
 have e2:tab2 T (c:Int) (r:Int)=T[c][r]:=by
  unfold tab2
  simp [List.getD_eq_getElem?_getD,hcl,hrl]
 rw [e2]
 exact this
theorem two_parts {g:Gr} {c r:Int} (hg:grB g=true) (h:twoB g c r=true):c=(c.toNat:Int)/\c.toNat<g.1.toNat/\r=(r.toNat:Int)/\r.toNat<g.1.toNat:=by
 obtain ⟨_,g2,_,_⟩:=grB_parts hg
 unfold twoB at h
 simp only [Bool.and_eq_true] at h
 obtain ⟨a,b⟩:=inB_nat g2 h.1
 obtain ⟨c,d⟩:=inB_nat g2 h.2
 exact ⟨a,b,c,d⟩
theorem l3Chase_lim (d) (r) (h:G_l3Chase d=some r):∃N,F_q69q N d=some r:=by
 obtain ⟨g,T,c,q,_⟩:=d
 unfold G_l3Chase at h
 split at h
 ·rename_i hc
  simp only [Bool.and_eq_true,decide_eq_true_eq] at hc
  obtain ⟨⟨⟨⟨hg,hT⟩,h2⟩,ht⟩,hany⟩:=hc
  have hT:sqB g.1.toNat T=true:=hT
  obtain ⟨c1,c2,q1,q2⟩:=two_parts hg h2
  obtain ⟨hsq,hbd⟩:=sqB_bound hT
  obtain ⟨t1,t2⟩:=sqL_parts hsq
  have h:=Option.some.inj h
  subst h
  refine ⟨20,?_⟩
  unfold F_q69q
  have hb:=ball_some hg c2
  rw [<- c1] at hb
  simp only [hb,Option.bind_some]
  obtain ⟨j,hj,p1,p2,p3⟩:=find_idx _ _ hany
  have hbl:=ballF_len g.1.toNat g.2.1 c
  obtain ⟨_,_,g8,_⟩:=grB_parts hg
  have hok:=ballF_ok g.1.toNat g.2.1 c.toNat c2
  rw [<- c1] at hok
  have hj:j<(ballF g.1.toNat g.2.1 c).length:=hj
  have p1:chaseP (ballF g.1.toNat g.2.1) T c q (ballF g.1.toNat g.2.1 c)[j]=true:=p1
  have p2:∀i (hi:i<(ballF g.1.toNat g.2.1 c).length),i<j->chaseP (ballF g.1.toNat g.2.1) T c q (ballF g.1.toNat g.2.1 c)[i]=false:=p2
  have p3:(ballF g.1.toNat g.2.1 c).find? (chaseP (ballF g.1.toNat g.2.1) T c q)=some (ballF g.1.toNat g.2.1 c)[j]:=p3
  have ht:1<=tab2 T c q:=ht
  have hbd':=hbd c.toNat q.toNat c2 q2
  have hat:=tab2_at hsq c2 q2
  rw [<- c1,<- q1] at hbd' hat
  have i1:idxIn c T.length=true:=by rw [c1];exact idxIn_nat (by omega)
  have i2:idxIn q (at_ K_Si T c.toNat).length=true:=by rw [q1];exact idxIn_nat (by rw [t2 _ c2];exact q2)
  have hw:IntKind.wrap .i64 (tab2 T c q-1)=tab2 T c q-1:=wrap_in _ (by omega) (by omega)
  have step:∀i (hi:i<(ballF g.1.toNat g.2.1 c).length) f,q69q_l0 20 (f+1) (T,c,q,g,ballF g.1.toNat g.2.1 c,(i:Int),())=if chaseP (ballF g.1.toNat g.2.1) T c q (ballF g.1.toNat g.2.1 c)[i]=true then some (.inl (ballF g.1.toNat g.2.1 c,(i:Int),())) else q69q_l0 20 f (T,c,q,g,ballF g.1.toNat g.2.1 c,((i+1:Nat):Int),()):=by
   intro i hi f
   show q69q_l0_r 20 (q69q_l0 20 f) _=_
   unfold q69q_l0_r
   obtain ⟨y,hy,ey⟩:=hok _ (List.getElem_mem hi)
   have ea:at_ I (ballF g.1.toNat g.2.1 c) i=(y:Int):=(at_get (e:=I) hi).trans ey
   have haf:=after_some hg hT hy q2
   rw [<- q1] at haf
   simp only [idxIn_nat hi,if_true,Int.toNat_natCast,ea,haf,Option.bind_some,i1,i2,hat,hw,wrap_up hi (show (ballF g.1.toNat g.2.1 c).length<=maxLen by unfold maxLen;omega),ey]
   unfold chaseP
   by_cases hh:afterT (ballF g.1.toNat g.2.1) T (y:Int) q=tab2 T c q-1
   ·have a1:decide (afterT (ballF g.1.toNat g.2.1) T (y:Int) q+1=tab2 T c q)=true:=decide_eq_true (by omega)
    have a2:decide (0<=afterT (ballF g.1.toNat g.2.1) T (y:Int) q)=true:=decide_eq_true (by omega)
    have a3:(afterT (ballF g.1.toNat g.2.1) T (y:Int) q != tab2 T c q-1)=false:=by simpa using hh
    simp only [a1,a2,a3,Bool.and_self,Bool.false_eq_true,if_false,if_true]
   ·have a1:decide (afterT (ballF g.1.toNat g.2.1) T (y:Int) q+1=tab2 T c q)=false:=decide_eq_false (by omega)
    have a3:(afterT (ballF g.1.toNat g.2.1) T (y:Int) q != tab2 T c q-1)=true:=by simpa using hh
    simp only [a1,a3,Bool.false_and,Bool.false_eq_true,if_false,if_true]
  have key:∀k i f,i+k=j->k<f->q69q_l0 20 f (T,c,q,g,ballF g.1.toNat g.2.1 c,(i:Int),())=some (.inl (ballF g.1.toNat g.2.1 c,(j:Int),())):=by
   intro k
   induction k with
   | zero=>
    intro i f e1 e2
    obtain ⟨f,rfl⟩:∃m,f=m+1:=⟨f-1,by omega⟩
    have e:i=j:=by omega
    subst e
    rw [step i hj f,if_pos p1]
   | succ k ih=>
    intro i f e1 e2
    obtain ⟨f,rfl⟩:∃m,f=m+1:=⟨f-1,by omega⟩
    have hi:i<(ballF g.1.toNat g.2.1 c).length:=by omega
    rw [step i hi f,if_neg (by rw [p2 i hi (by omega)];simp)]
    exact ih (i+1) f (by omega) (by omega)
  have:=key j 0 20 (by omega) (by omega)
  simp only [Int.natCast_zero] at this
  have ea:at_ I (ballF g.1.toNat g.2.1 c) j=(ballF g.1.toNat g.2.1 c)[j]:=at_get (e:=I) hj
  simp only [this,Option.bind_some,idxIn_nat hj,if_true,Int.toNat_natCast,ea,firstL,p3,Option.getD_some]
 ·cases h
theorem ball_self {n:Nat} (es:List E) {x:Nat} (hx:x<n):(x:Int)∈ballF n es (x:Int):=setF_mem.2 ⟨x,Nat.zero_le _,by omega,by simp,rfl⟩
theorem l3Flee_lim (d) (r) (h:G_l3Flee d=some r):∃N,F_q83q N d=some r:=by
 obtain ⟨g,T,c,q,_⟩:=d
 unfold G_l3Flee at h
 split at h
 ·rename_i hc
  simp only [Bool.and_eq_true] at hc
  obtain ⟨⟨hg,hsq⟩,h2⟩:=hc
  have hsq:sqL g.1.toNat T=true:=hsq
  obtain ⟨c1,c2,q1,q2⟩:=two_parts hg h2
  obtain ⟨t1,t2⟩:=sqL_parts hsq
  have h:=Option.some.inj h
  subst h
  refine ⟨20,?_⟩
  unfold F_q83q
  have hb:=ball_some hg q2
  have hbl:=ballF_len g.1.toNat g.2.1 q
  have hok:=ballF_ok g.1.toNat g.2.1 q.toNat q2
  have hself:=ball_self g.2.1 q2
  rw [<- q1] at hok hself hb
  obtain ⟨_,_,g8,_⟩:=grB_parts hg
  simp only [hb,Option.bind_some]
  show (if idxIn 0 (ballF g.1.toNat g.2.1 q).length=true then _ else none)=some (fleeL (tab2 T c) (ballF g.1.toNat g.2.1 q) ((ballF g.1.toNat g.2.1 q).headD 0),())
  generalize ballF g.1.toNat g.2.1 q=ball at hbl hok hself
  have hlen:0<ball.length:=List.length_pos_of_mem hself
  have h0:idxIn (0:Int) ball.length=true:=idxIn_nat hlen
  have i1:idxIn c T.length=true:=by rw [c1];exact idxIn_nat (by omega)
  have key:∀k i f (b:Nat),i+k=ball.length->k<f->b<g.1.toNat ->
    q83q_l0 20 f (T,c,ball,(b:Int),(i:Int),())=some (.inl (fleeL (tab2 T c) (ball.drop i) (b:Int),()))\/q83q_l0 20 f (T,c,ball,(b:Int),(i:Int),())=some (.inr (.inl (fleeL (tab2 T c) (ball.drop i) (b:Int),()))):=by
   intro k
   induction k with
   | zero=>
    intro i f b e1 e2 e3
    obtain ⟨f,rfl⟩:∃m,f=m+1:=⟨f-1,by omega⟩
    have e:i=ball.length:=by omega
    subst e
    rw [List.drop_of_length_le (Nat.le_refl _)]
    right
    simp [q83q_l0,q83q_l0_r,fleeL]
   | succ k ih=>
    intro i f b e1 e2 e3
    obtain ⟨f,rfl⟩:∃m,f=m+1:=⟨f-1,by omega⟩
    have hi:i<ball.length:=by omega
    obtain ⟨y,hy,ey⟩:=hok _ (List.getElem_mem hi)
    have ea:at_ I ball i=(y:Int):=(at_get (e:=I) hi).trans ey
    have hd:ball.drop i=(y:Int)::ball.drop (i+1):=by rw [List.drop_eq_getElem_cons hi,ey]
    have hv:=tab2_at hsq c2 hy
    have hv2:=tab2_at hsq c2 e3
    rw [<- c1] at hv hv2
    have i2:idxIn (y:Int) (at_ K_Si T c.toNat).length=true:=idxIn_nat (by rw [t2 _ c2];exact hy)
    have i3:idxIn (b:Int) (at_ K_Si T c.toNat).length=true:=idxIn_nat (by rw [t2 _ c2];exact e3)
    have step:q83q_l0 20 (f+1) (T,c,ball,(b:Int),(i:Int),())=if tab2 T c (y:Int)<0 then some (.inl ((y:Int),())) else q83q_l0 20 f (T,c,ball,(if tab2 T c (y:Int)>tab2 T c (b:Int) then (y:Int) else (b:Int)),((i+1:Nat):Int),()):=by
     show q83q_l0_r 20 (q83q_l0 20 f) _=_
     unfold q83q_l0_r
     simp only [lt_dec hi,if_true,i1,idxIn_nat hi,Int.toNat_natCast,ea,i2,i3,hv,hv2,wrap_up hi (show ball.length<=maxLen by unfold maxLen;omega)]
     by_cases hh:tab2 T c (y:Int)<0
     ·simp only [hh,decide_true,if_true]
     ·by_cases hh2:tab2 T c (y:Int)>tab2 T c (b:Int)
      ·simp only [hh,hh2,decide_true,decide_false,if_true,if_false,Bool.false_eq_true]
      ·simp only [hh,hh2,decide_true,decide_false,if_true,if_false,Bool.false_eq_true]
    rw [step,hd]
    simp only [fleeL]
    by_cases hh:tab2 T c (y:Int)<0
    ·rw [if_pos hh,if_pos hh]
     exact .inl rfl
    ·rw [if_neg hh,if_neg hh]
     by_cases hh2:tab2 T c (y:Int)>tab2 T c (b:Int)
     ·rw [if_pos hh2]
      exact ih (i+1) f y (by omega) (by omega) hy
     ·rw [if_neg hh2]
      exact ih (i+1) f b (by omega) (by omega) e3
  obtain ⟨y,hy,ey⟩:=hok _ (List.getElem_mem hlen)
  have ea:at_ I ball 0=(y:Int):=(at_get (e:=I) hlen).trans ey
  have eh:ball.headD 0=(y:Int):=by
   cases ball with
   | nil=>simp at hlen
   | cons z zs=>exact ey
  have:=key ball.length 0 20 y (by omega) (by omega) hy
  simp only [Int.natCast_zero,List.drop_zero] at this
  simp only [h0,if_true,Int.toNat_zero,ea,eh]
  rcases this with h | h
  ·simp only [h,Option.bind_some]
  ·simp only [h,Option.bind_some]
 ·cases h
end Go.V.W
namespace Go.V.W
open Go.Proofs
theorem has_nodes (n:Int) (es:List E) (v u:Unit) (l:List Int) (ho:okL es=true) (hl:okL l=true):F_q50q 0 ((n,es,v),l,u)=some (graphB (n,es,v)&&l.all (inB 0 (n-1)),()):=by
 unfold F_q50q G_graph G_allWithin
 simp only [ho,hl,if_true,Option.bind_some]
 cases hg:graphB (n,es,v) with
 | false=>rfl
 | true=>
  have:=graphB_n hg
  have hw:IntKind.wrap .i64 (n-1)=n-1:=wrap_in _ (by omega) (by omega)
  simp only [if_true,hw,Bool.true_and,Option.bind_some]
theorem net_some {n:Nat} {es:List E} {v u:Unit} (hg:graphB ((n:Int),es,v)=true) (ho:okL es=true):G_netOf (((n:Int),es,v),u)=some ((toI (netN n es),()),()):=by
 obtain ⟨h0,h8⟩:=graphB_n hg
 obtain ⟨g1,g2⟩:=graphB_edges hg
 unfold G_netOf
 have a1:(decide (0<=(n:Int))&&decide ((n:Int)<=8)&&okL es&&es.all (edgeB (n:Int)))=true:=by simp only [h0,h8,ho,g1,decide_true,Bool.and_self]
 simp only [a1,if_true,Int.toNat_natCast]
theorem after_bound {n:Nat} {T:Tab} (hT:sqB n T=true) {ball:Int->List Int} (hb:okBall n ball) {b r:Nat} (hbn:b<n) (hr:r<n) : -1<=afterT ball T (b:Int) (r:Int)/\afterT ball T (b:Int) (r:Int)<=1000:=by
 obtain ⟨hsq,hbd⟩:=sqB_bound hT
 unfold afterT
 split
 ·omega
 ·rcases worst_spec (tab2 T (b:Int)) (ball (r:Int)) 0 with ⟨_,h⟩ | ⟨_,h0,h | ⟨x,hx,h⟩⟩
  ·omega
  ·omega
  ·obtain ⟨y,hy,rfl⟩:=hb r hr x hx
   have:=hbd b y hbn hy
   omega
theorem time_row {l:List Int} (hn:netB l=true) (u:Unit) {T:Tab} (hT:sqL l.length T=true) {b q:Nat} (hb:b<l.length) (hq:q<l.length) (hbq:¬(b:Int)=(q:Int)):G_timeAfter ((l,u),at_ K_Si T b,(q:Int),())=some (afterT (ballM l) T (b:Int) (q:Int),()):=by
 obtain ⟨t1,t2⟩:=sqL_parts hT
 have i2:inB 0 ((l.length:Int)-1) (q:Int)=true:=inB_iff.2 (by omega)
 have hlen:decide ((at_ K_Si T b).length=l.length)=true:=decide_eq_true (t2 b hb)
 unfold G_timeAfter afterT
 simp only [hn,hlen,i2,Bool.and_self,if_true,hbq,if_false]
 have hw:worstL (fun z=>(at_ K_Si T b).getD z.toNat 0) (ballM l (q:Int)) 0=worstL (tab2 T (b:Int)) (ballM l (q:Int)) 0:=worst_congr fun z hz=>by
  have hlt:b<T.length:=by omega
  have ea:at_ K_Si T b=T[b]:=at_get (e:=K_Si) hlt
  unfold tab2
  simp only [ea,Int.toNat_natCast,List.getD_eq_getElem?_getD,List.getElem?_eq_getElem hlt,Option.getD_some]
 rw [hw]
theorem copMove_lim (d) (r) (h:G_copMove d=some r):∃N,F_q34q N d=some r:=by
 obtain ⟨⟨l,u⟩,T,c,q,_⟩:=d
 unfold G_copMove at h
 split at h
 ·rename_i hc
  simp only [Bool.and_eq_true] at hc
  obtain ⟨⟨⟨hn,hT⟩,hc⟩,hq⟩:=hc
  have hT:sqB l.length T=true:=hT
  obtain ⟨c1,c2⟩:=inB_len hc
  obtain ⟨q1,q2⟩:=inB_len hq
  obtain ⟨hsq,hbd⟩:=sqB_bound hT
  obtain ⟨t1,t2⟩:=sqL_parts hsq
  have h:=Option.some.inj h
  subst h
  refine ⟨20,?_⟩
  unfold F_q34q
  have hcl:=closedM hn u c2
  have hst:=setOfM hn c2
  have hok:=ballM_ok hn
  have hokc:=hok c.toNat c2
  have hbl:=ballM_len l c
  have hat:=tab2_at hsq c2 q2
  rw [<- c1] at hcl hst hokc hat
  rw [<- q1] at hat
  have i1:idxIn c T.length=true:=by rw [c1];exact idxIn_nat (by omega)
  have i2:idxIn q (at_ K_Si T c.toNat).length=true:=by rw [q1];exact idxIn_nat (by rw [t2 _ c2];exact q2)
  simp only [hcl,hst,Option.bind_some]
  have key:∀k i f,i+k=(ballM l c).length->k<f->q34q_l0 20 f (T,c,q,(l,u),ballM l c,((ballM l c).length:Int),(i:Int),())=some (match ((ballM l c).drop i).find? (chaseP (ballM l) T c q) with | some b=>.inl (b,()) | none=>.inr (.inl (c,()))):=by
   intro k
   induction k with
   | zero=>
    intro i f e1 e2
    obtain ⟨f,rfl⟩:∃m,f=m+1:=⟨f-1,by omega⟩
    have e:i=(ballM l c).length:=by omega
    subst e
    rw [List.drop_of_length_le (Nat.le_refl _)]
    simp [q34q_l0,q34q_l0_r]
   | succ k ih=>
    intro i f e1 e2
    obtain ⟨f,rfl⟩:∃m,f=m+1:=⟨f-1,by omega⟩
    have hi:i<(ballM l c).length:=by omega
    obtain ⟨y,hy,ey⟩:=hokc _ (List.getElem_mem hi)
    have ea:at_ I (ballM l c) i=(y:Int):=(at_get (e:=I) hi).trans ey
    have hd:(ballM l c).drop i=(y:Int)::(ballM l c).drop (i+1):=by rw [List.drop_eq_getElem_cons hi,ey]
    have ih':=ih (i+1) f (by omega) (by omega)
    show q34q_l0_r 20 (q34q_l0 20 f) _=_
    unfold q34q_l0_r
    rw [hd,List.find?_cons]
    have iy:idxIn (y:Int) T.length=true:=idxIn_nat (by omega)
    simp only [lt_dec hi,if_true,idxIn_nat hi,Int.toNat_natCast,ea,iy,i1,i2,hat,wrap_up hi (show (ballM l c).length<=maxLen by unfold maxLen;omega)]
    by_cases hyq:(y:Int)=q
    ·have b1:((y:Int) != q)=false:=by simpa using hyq
     have ha:afterT (ballM l) T (y:Int) q=0:=if_pos hyq
     simp only [b1,Bool.false_eq_true,if_false]
     unfold chaseP
     rw [ha]
     by_cases ht:(1:Int)=tab2 T c q
     ·have b2:((1:Int)==tab2 T c q)=true:=by simpa using ht
      have b3:(decide ((0:Int)+1=tab2 T c q)&&decide ((0:Int)<=0))=true:=by simpa using ht
      simp only [b2,if_true,b3]
      rfl
     ·have b2:((1:Int)==tab2 T c q)=false:=by simpa using ht
      have b3:(decide ((0:Int)+1=tab2 T c q)&&decide ((0:Int)<=0))=false:=by simpa using ht
      simp only [b2,Bool.false_eq_true,if_false,b3]
      exact ih'
    ·have b1:((y:Int) != q)=true:=by simpa using hyq
     have hyq':¬(y:Int)=((q.toNat:Nat):Int):=by rw [<- q1];exact hyq
     have htm:=time_row hn u hsq hy q2 hyq'
     obtain ⟨a1,a2⟩:=after_bound hT hok hy q2
     rw [<- q1] at htm a1 a2
     have hw:IntKind.wrap .i64 (afterT (ballM l) T (y:Int) q+1)=afterT (ballM l) T (y:Int) q+1:=wrap_in _ (by omega) (by omega)
     simp only [b1,if_true,htm,Option.bind_some,hw]
     unfold chaseP
     by_cases ht:afterT (ballM l) T (y:Int) q+1=tab2 T c q
     ·simp only [ht,beq_self_eq_true,if_true,decide_true,Bool.true_and]
      by_cases h0:0<=afterT (ballM l) T (y:Int) q
      ·have b3:decide (tab2 T c q>0)=true:=decide_eq_true (by omega)
       simp only [b3,h0,decide_true,if_true]
      ·have b3:decide (tab2 T c q>0)=false:=decide_eq_false (by omega)
       simp only [b3,h0,decide_false,Bool.false_eq_true,if_false]
       exact ih'
     ·have b2:(afterT (ballM l) T (y:Int) q+1==tab2 T c q)=false:=by simpa using ht
      simp only [b2,Bool.false_eq_true,if_false,ht,decide_false,Bool.false_and]
      exact ih'
  have:=key (ballM l c).length 0 20 (by omega) (by omega)
  simp only [Int.natCast_zero,List.drop_zero] at this
  rw [this]
  show _=some (firstL (chaseP (ballM l) T c q) (ballM l c) c,())
  unfold firstL
  cases (ballM l c).find? (chaseP (ballM l) T c q)<;>rfl
 ·cases h
theorem ballM_self {l:List Int} (hn:netB l=true) {x:Nat} (hx:x<l.length):(x:Int)∈ballM l (x:Int):=by
 obtain ⟨_,_,h8,_⟩:=netB_parts hn
 refine setF_mem.2 ⟨x,Nat.zero_le _,by omega,?_,rfl⟩
 rw [Int.toNat_natCast,Nat.testBit_or,Nat.testBit_two_pow]
 simp
theorem robberMove_lim (d) (r) (h:G_robberMove d=some r):∃N,F_q15q N d=some r:=by
 obtain ⟨⟨l,u⟩,row,q,_⟩:=d
 unfold G_robberMove at h
 split at h
 ·rename_i hc
  simp only [Bool.and_eq_true,decide_eq_true_eq] at hc
  obtain ⟨⟨hn,hrow⟩,hq⟩:=hc
  have hrow:row.length=l.length:=hrow
  obtain ⟨q1,q2⟩:=inB_len hq
  have h:=Option.some.inj h
  subst h
  refine ⟨20,?_⟩
  unfold F_q15q
  have hcl:=closedM hn u q2
  have hst:=setOfM hn q2
  have hok:=ballM_ok hn q.toNat q2
  have hself:=ballM_self hn q2
  have hbl:=ballM_len l q
  rw [<- q1] at hcl hst hok hself
  simp only [hcl,hst,Option.bind_some]
  show (if idxIn 0 (ballM l q).length=true then _ else none)=some (robL (rowI row) (ballM l q).tail ((ballM l q).headD 0),())
  generalize ballM l q=ball at hok hself hbl
  match ball,hself,hok,hbl with
  | h0::tl,_,hok,hbl=>
   obtain ⟨y0,hy0,rfl⟩:=hok h0 (by simp)
   have i0:idxIn (0:Int) ((y0:Int)::tl).length=true:=idxIn_nat (show 0<((y0:Int)::tl).length by simp)
   have c1:(decide (0<=(1:Int))&&decide ((1:Int)<=(((y0:Int)::tl).length:Int))&&decide ((((y0:Int)::tl).length:Int)<=(((y0:Int)::tl).length:Int)))=true:=by simp;omega
   have s1:sub_ ((y0:Int)::tl) 1 (((y0:Int)::tl).length:Int)=tl:=by unfold sub_;simp
   have ea0:at_ I ((y0:Int)::tl) (0:Int).toNat=(y0:Int):=rfl
   have htl:tl.length<=8:=by simp at hbl;omega
   have rv:∀y:Nat,y<l.length->at_ I row y=rowI row (y:Int):=fun y hy=>rfl
   have key:∀k i f (b:Nat),i+k=tl.length->k<f->b<l.length->q15q_l0 20 f (row,(b:Int),tl,(tl.length:Int),(i:Int),())=some (.inl (robL (rowI row) (tl.drop i) (b:Int),())):=by
    intro k
    induction k with
    | zero=>
     intro i f b e1 e2 e3
     obtain ⟨f,rfl⟩:∃m,f=m+1:=⟨f-1,by omega⟩
     have e:i=tl.length:=by omega
     subst e
     rw [List.drop_of_length_le (Nat.le_refl _)]
     simp [q15q_l0,q15q_l0_r,robL]
    | succ k ih=>
     intro i f b e1 e2 e3
     obtain ⟨f,rfl⟩:∃m,f=m+1:=⟨f-1,by omega⟩
     have hi:i<tl.length:=by omega
     obtain ⟨y,hy,ey⟩:=hok tl[i] (List.mem_cons_of_mem _ (List.getElem_mem hi))
     have ea:at_ I tl i=(y:Int):=(at_get (e:=I) hi).trans ey
     have hd:tl.drop i=(y:Int)::tl.drop (i+1):=by rw [List.drop_eq_getElem_cons hi,ey]
     have i2:idxIn (y:Int) row.length=true:=idxIn_nat (by omega)
     have i3:idxIn (b:Int) row.length=true:=idxIn_nat (by omega)
     show q15q_l0_r 20 (q15q_l0 20 f) _=_
     unfold q15q_l0_r
     rw [hd]
     simp only [lt_dec hi,if_true,idxIn_nat hi,Int.toNat_natCast,ea,i2,i3,rv y hy,rv b e3,wrap_up hi (show tl.length<=maxLen by unfold maxLen;omega),robL]
     by_cases d1:0<=rowI row (b:Int)
     ·have d1':decide (rowI row (b:Int)>=0)=true:=decide_eq_true d1
      by_cases d2:rowI row (y:Int)<0
      ·simp only [d1,d1',d2,decide_true,if_true,true_or,and_self]
       exact ih (i+1) f y (by omega) (by omega) hy
      ·by_cases d3:rowI row (y:Int)>rowI row (b:Int)
       ·simp only [d1,d1',d2,d3,decide_true,decide_false,Bool.false_eq_true,if_true,if_false,or_true,and_self]
        exact ih (i+1) f y (by omega) (by omega) hy
       ·simp only [d1,d1',d2,d3,decide_true,decide_false,Bool.false_eq_true,if_true,if_false,or_self,and_false]
        exact ih (i+1) f b (by omega) (by omega) e3
     ·have d1':decide (rowI row (b:Int)>=0)=false:=decide_eq_false d1
      simp only [d1,d1',Bool.false_eq_true,if_false,false_and]
      exact ih (i+1) f b (by omega) (by omega) e3
   have:=key tl.length 0 20 y0 (by omega) (by omega) hy0
   simp only [Int.natCast_zero,List.drop_zero] at this
   simp only [i0,if_true,c1,s1,ea0,this,Option.bind_some]
   rfl
 ·cases h
end Go.V.W
namespace Go.V.W
open Go.Proofs
def InvC (n:Nat) (ball:Int->List Int) (f:Nat->Nat->Int):Prop := ∀c r,c<n->r<n->1<=f c r -> ∃b∈ball (c:Int),0<=afterT ball (tabL n f) b (r:Int)/\afterT ball (tabL n f) b (r:Int)+1=f c r
theorem after_keep {n:Nat} {ball:Int->List Int} (hb:okBall n ball) {t:Nat} {f:Nat->Nat->Int} {b r:Nat} (hbn:b<n) (hr:r<n) (h:0<=afterT ball (tabL n f) (b:Int) (r:Int)) :
  afterT ball (tabL n (stepF n ball (t:Int) f)) (b:Int) (r:Int)=afterT ball (tabL n f) (b:Int) (r:Int):=by
 unfold afterT at h |-
 by_cases hbr:(b:Int)=(r:Int)
 ·rw [if_pos hbr,if_pos hbr]
 ·rw [if_neg hbr] at h |-
  rw [if_neg hbr]
  rcases worst_spec (tab2 (tabL n f) (b:Int)) (ball (r:Int)) 0 with ⟨_,h'⟩ | ⟨hall,_,_⟩
  ·omega
  ·refine worst_congr fun x hx => ?_
   obtain ⟨y,hy,rfl⟩:=hb r hr x hx
   have:=(hall (y:Int) hx).1
   rw [tab2_tabL _ hbn hy] at this
   rw [tab2_tabL _ hbn hy,tab2_tabL _ hbn hy]
   refine if_neg fun hcan => ?_
   unfold canF at hcan
   simp only [Bool.and_eq_true,decide_eq_true_eq] at hcan
   omega
theorem InvC.next {n:Nat} {ball:Int->List Int} (hb:okBall n ball) {t:Nat} {f:Nat->Nat->Int} (hI:InvT n ball t f) (hC:InvC n ball f):InvC n ball (stepF n ball (t:Int) f):=by
 intro c r hc hr h
 by_cases hcan:canF n ball f c r=true
 ·have e:stepF n ball (t:Int) f c r=(t:Int):=if_pos hcan
  rw [e]
  unfold canF at hcan
  simp only [Bool.and_eq_true,decide_eq_true_eq,List.any_eq_true] at hcan
  obtain ⟨hf,b,hbm,h0⟩:=hcan
  have h1:=hI.none c r hc hr hf b hbm
  have h2:=after_high hb hI hc hr hbm
  obtain ⟨b',hb1,rfl⟩:=hb c hc b hbm
  refine ⟨_,hbm,?_⟩
  rw [after_keep hb hb1 hr h0]
  omega
 ·have e:stepF n ball (t:Int) f c r=f c r:=if_neg hcan
  rw [e] at h |-
  obtain ⟨b,hbm,h0,h1⟩:=hC c r hc hr h
  obtain ⟨b',hb1,rfl⟩:=hb c hc b hbm
  refine ⟨_,hbm,?_⟩
  rw [after_keep hb hb1 hr h0]
  exact ⟨h0,h1⟩
theorem timesF_inv {n:Nat} {ball:Int->List Int} (hb:okBall n ball):∀(k t:Nat) (f:Nat->Nat->Int),InvT n ball t f->InvC n ball f -> ∃t',t'<=t+k/\InvT n ball t' (timesF n ball k (t:Int) f)/\InvC n ball (timesF n ball k (t:Int) f):=by
 intro k
 induction k with
 | zero=>intro t f h1 h2;exact ⟨t,by omega,h1,h2⟩
 | succ k ih=>
  intro t f h1 h2
  unfold timesF
  split
  ·obtain ⟨t',k1,k2,k3⟩:=ih (t+1) _ (h1.next hb) (h2.next hb h1)
   exact ⟨t',by omega,k2,k3⟩
  ·exact ⟨t,by omega,h1,h2⟩
theorem times_facts {n:Nat} {ball:Int->List Int} (hb:okBall n ball):sqB n (timesT n ball)=true /\ ∀c r,c<n->r<n->1<=tab2 (timesT n ball) (c:Int) (r:Int)->(ball (c:Int)).any (chaseP ball (timesT n ball) (c:Int) (r:Int))=true:=by
 have hst:InvC n ball startF:=fun c r _ _ h=>by
  unfold startF at h
  split at h<;>omega
 obtain ⟨t',k1,k2,k3⟩:=timesF_inv hb 65 1 startF (InvT.start n ball) hst
 refine ⟨tabL_sqB fun c r hc hr => ?_,fun c r hc hr h => ?_⟩
 ·have h1:=k2.low c r hc hr
  have h2:=k2.high c r hc hr
  constructor
  ·exact h1
  ·have:((t':Nat):Int)<=66:=by omega
   exact Int.le_trans (Int.le_of_lt h2) (by omega)
 ·unfold timesT at h |-
  rw [tab2_tabL _ hc hr] at h
  obtain ⟨b,hbm,h0,h1⟩:=k3 c r hc hr h
  refine List.any_eq_true.2 ⟨b,hbm,?_⟩
  unfold chaseP
  rw [tab2_tabL _ hc hr,Bool.and_eq_true,decide_eq_true_eq,decide_eq_true_eq]
  exact ⟨h1,h0⟩
theorem rob_neg (row:Int->Int):∀(l:List Int) (b:Int),row b<0->robL row l b=b:=by
 intro l
 induction l with
 | nil=>intro b _;rfl
 | cons x l ih=>
  intro b h
  have:¬(0<=row b/\(row x<0\/row x>row b)):=by omega
  simp only [robL,if_neg this]
  exact ih b h
theorem flee_rob (row:Int->Int):∀(l:List Int) (b:Int),0<=row b->fleeL row l b=robL row l b:=by
 intro l
 induction l with
 | nil=>intro b _;rfl
 | cons x l ih=>
  intro b h
  simp only [fleeL,robL]
  by_cases hx:row x<0
  ·rw [if_pos hx,if_pos ⟨h,.inl hx⟩,rob_neg row l x hx]
  ·rw [if_neg hx]
   by_cases h2:row x>row b
   ·rw [if_pos h2,if_pos ⟨h,.inr h2⟩]
    exact ih x (by omega)
   ·rw [if_neg h2,if_neg (by omega)]
    exact ih b h
theorem flee_same (row:Int->Int) (l:List Int) (hl:l≠[]):fleeL row l (l.headD 0)=robL row l.tail (l.headD 0):=by
 match l,hl with
 | h::t,_=>
  show (if row h<0 then h else fleeL row t (if row h>row h then h else h))=robL row t h
  by_cases hh:row h<0
  ·rw [if_pos hh,rob_neg row t h hh]
  ·rw [if_neg hh,if_neg (by omega)]
   exact flee_rob row t h (by omega)
end Go.V.W
namespace Go.V.W
open Go.Proofs
section moves
variable {a:Nat} {es:List E} {v:Unit}
theorem two_some (hg:graphB ((a:Int),es,v)=true) (ho:okL es=true) (x y:Int) (u:Unit):F_spec_l3Two 0 (((a:Int),es,v),x,y,u)=some (inB 0 ((a:Int)-1) x&&inB 0 ((a:Int)-1) y,()):=by
 obtain ⟨h0,h8⟩:=graphB_n hg
 unfold F_spec_l3Two G_graph
 simp only [ho,if_true,Option.bind_some,hg,node_eq _ es v _ _ h0 h8]
 cases inB 0 ((a:Int)-1) x<;>rfl
theorem times_at {n:Nat} {ball:Int->List Int} {c r:Nat} (hc:c<n) (hr:r<n):idxIn (c:Int) (timesT n ball).length=true/\idxIn (r:Int) (at_ K_Si (timesT n ball) c).length=true/\at_ I (at_ K_Si (timesT n ball) c) r=tab2 (timesT n ball) (c:Int) (r:Int):=by
 have hsq:sqL n (timesT n ball)=true:=tabL_sq _ _
 obtain ⟨t1,t2⟩:=sqL_parts hsq
 exact ⟨idxIn_nat (by omega),idxIn_nat (by rw [t2 _ hc];exact hr),tab2_at hsq hc hr⟩
theorem in_node {c:Nat} (hc:c<a):inB 0 ((a:Int)-1) (c:Int)=true:=inB_iff.2 (by omega)
theorem cop_spec (hg:graphB ((a:Int),es,v)=true) (ho:okL es=true) {c r:Nat} (hc:c<a) (hr:r<a) (u:Unit) :
  F_q66q 0 (((a:Int),es,v),(c:Int),(r:Int),u)=some (if tab2 (timesT a (ballF a es)) (c:Int) (r:Int)<1 then (0,false,()) else (copT (ballF a es) (timesT a (ballF a es)) (c:Int) (r:Int),true,())):=by
 have hG:=graph_grB hg ho
 obtain ⟨t1,t2,t3⟩:=times_at (ball:=ballF a es) hc hr
 unfold F_q66q
 simp only [two_some hg ho,in_node hc,in_node hr,Bool.and_self,Option.bind_some,Bool.not_true,Bool.false_eq_true,if_false,G_l3Times,hG,if_true,Int.toNat_natCast,t1,t2,t3]
 by_cases h:tab2 (timesT a (ballF a es)) (c:Int) (r:Int)<1
 ·simp only [h,decide_true,if_true]
 ·simp only [h,decide_false,Bool.false_eq_true,if_false]
  obtain ⟨f1,f2⟩:=times_facts (ballF_ok a es)
  have hch:G_l3Chase (((a:Int),es,v),timesT a (ballF a es),(c:Int),(r:Int),())=some (copT (ballF a es) (timesT a (ballF a es)) (c:Int) (r:Int),()):=by
   unfold G_l3Chase twoB
   have h1:decide (1<=tab2 (timesT a (ballF a es)) (c:Int) (r:Int))=true:=decide_eq_true (by omega)
   simp only [hG,Int.toNat_natCast,f1,in_node hc,in_node hr,h1,f2 c r hc hr (by omega),Bool.and_self,if_true]
   rfl
  simp only [hch,Option.bind_some]
theorem rob_spec (hg:graphB ((a:Int),es,v)=true) (ho:okL es=true) {c r:Nat} (hc:c<a) (hr:r<a) (u:Unit) :
  F_q37q 0 (((a:Int),es,v),(c:Int),(r:Int),u)=some (if (c:Int)=(r:Int) then (0,false,()) else (fleeL (tab2 (timesT a (ballF a es)) (c:Int)) (ballF a es (r:Int)) ((ballF a es (r:Int)).headD 0),true,())):=by
 have hG:=graph_grB hg ho
 unfold F_q37q
 simp only [two_some hg ho,in_node hc,in_node hr,Bool.and_self,Option.bind_some,Bool.not_true,Bool.false_eq_true,if_false,G_l3Times,hG,if_true,Int.toNat_natCast]
 by_cases h:(c:Int)=(r:Int)
 ·simp only [h,beq_self_eq_true,if_true]
 ·have b:((c:Int)==(r:Int))=false:=by simpa using h
  have hfl:G_l3Flee (((a:Int),es,v),timesT a (ballF a es),(c:Int),(r:Int),())=some (fleeL (tab2 (timesT a (ballF a es)) (c:Int)) (ballF a es (r:Int)) ((ballF a es (r:Int)).headD 0),()):=by
   unfold G_l3Flee twoB
   have hsq:sqL a (timesT a (ballF a es))=true:=tabL_sq _ _
   simp only [hG,Int.toNat_natCast,hsq,in_node hc,in_node hr,Bool.and_self,if_true]
  simp only [b,Bool.false_eq_true,if_false,h,hfl,Option.bind_some]
theorem edges_of (hg:graphB ((a:Int),es,v)=true):a<=8/\es.all (edgeB (a:Int))=true/\risingE es=true:=by
 have:=graphB_n hg
 have:=graphB_edges hg
 exact ⟨by omega,this.1,this.2⟩
theorem cop_impl (hg:graphB ((a:Int),es,v)=true) {c r:Nat} (hc:c<a) (hr:r<a) (u w:Unit) :
  G_copMove ((toI (netN a es),u),timesT a (ballF a es),(c:Int),(r:Int),w)=some (copT (ballF a es) (timesT a (ballF a es)) (c:Int) (r:Int),()):=by
 obtain ⟨ha,g1,g2⟩:=edges_of hg
 obtain ⟨nb,nl⟩:=netB_net ha g1
 obtain ⟨f1,f2⟩:=times_facts (ballF_ok a es)
 unfold G_copMove
 simp only [nb,nl,f1,in_node hc,in_node hr,Bool.and_self,if_true]
 have hb:=ball_same ha g1 hc
 have hp:chaseP (ballM (toI (netN a es))) (timesT a (ballF a es)) (c:Int) (r:Int)=chaseP (ballF a es) (timesT a (ballF a es)) (c:Int) (r:Int):=by
  funext b
  unfold chaseP afterT
  rw [ball_same ha g1 hr]
 rw [hb,hp]
 rfl
theorem rob_impl (hg:graphB ((a:Int),es,v)=true) {c r:Nat} (hc:c<a) (hr:r<a) (u w:Unit) :
  G_robberMove ((toI (netN a es),u),at_ K_Si (timesT a (ballF a es)) c,(r:Int),w)=some (fleeL (tab2 (timesT a (ballF a es)) (c:Int)) (ballF a es (r:Int)) ((ballF a es (r:Int)).headD 0),()):=by
 obtain ⟨ha,g1,g2⟩:=edges_of hg
 obtain ⟨nb,nl⟩:=netB_net ha g1
 have hsq:sqL a (timesT a (ballF a es))=true:=tabL_sq _ _
 obtain ⟨t1,t2⟩:=sqL_parts hsq
 unfold G_robberMove
 have e:decide ((at_ K_Si (timesT a (ballF a es)) c).length=a)=true:=decide_eq_true (t2 c hc)
 simp only [nb,nl,e,in_node hr,Bool.and_self,if_true,ball_same ha g1 hr]
 rw [flee_same _ _ (List.ne_nil_of_mem (ball_self es hr))]
 have hrow:rowI (at_ K_Si (timesT a (ballF a es)) c)=tab2 (timesT a (ballF a es)) (c:Int):=by
  funext z
  have hlt:c<(timesT a (ballF a es)).length:=by omega
  have ea:at_ K_Si (timesT a (ballF a es)) c=(timesT a (ballF a es))[c]:=at_get (e:=K_Si) hlt
  unfold rowI tab2
  simp only [ea,Int.toNat_natCast,List.getD_eq_getElem?_getD,List.getElem?_eq_getElem hlt,Option.getD_some]
 rw [hrow]
end moves
end Go.V.W
namespace Go.V.W
open Go.Proofs
theorem timesF_zero {n:Nat} {ball:Int->List Int}:∀(k:Nat) (t:Int) (f:Nat->Nat->Int),1<=t->(∀c r,f c r=0↔c=r) -> ∀c r,timesF n ball k t f c r=0↔c=r:=by
 intro k
 induction k with
 | zero=>intro t f _ h;exact h
 | succ k ih=>
  intro t f ht h
  unfold timesF
  split
  ·refine ih (t+1) _ (by omega) fun c r => ?_
   unfold stepF
   split
   ·rename_i hc
    unfold canF at hc
    rw [Bool.and_eq_true,decide_eq_true_eq] at hc
    have:=h c r
    constructor
    ·intro h0;omega
    ·intro h0;have:=this.2 h0;omega
   ·exact h c r
  ·exact h
theorem times_zero {n:Nat} {ball:Int->List Int} {c r:Nat} (hc:c<n) (hr:r<n):tab2 (timesT n ball) (c:Int) (r:Int)=0↔c=r:=by
 unfold timesT
 rw [tab2_tabL _ hc hr]
 refine timesF_zero 65 1 startF (by omega) (fun c r => ?_) c r
 unfold startF
 split<;>simp_all
theorem times_low {n:Nat} {ball:Int->List Int} (hb:okBall n ball) {c r:Nat} (hc:c<n) (hr:r<n) : -1<=tab2 (timesT n ball) (c:Int) (r:Int)/\tab2 (timesT n ball) (c:Int) (r:Int)<=66:=by
 have hst:InvC n ball startF:=fun c r _ _ h=>by
  unfold startF at h
  split at h<;>omega
 obtain ⟨t',k1,k2,k3⟩:=timesF_inv hb 65 1 startF (InvT.start n ball) hst
 unfold timesT
 rw [tab2_tabL _ hc hr]
 have h1:=k2.low c r hc hr
 have h2:=k2.high c r hc hr
 have:((t':Nat):Int)<=66:=by omega
 exact ⟨h1,Int.le_trans (Int.le_of_lt h2) (by omega)⟩
theorem flee_worst (row:Int->Int):∀(l:List Int) (b:Int),0<=row b->0<=worstL row l (row b)->row (fleeL row l b)=worstL row l (row b)/\(fleeL row l b=b\/fleeL row l b∈l):=by
 intro l
 induction l with
 | nil=>intro b _ _;exact ⟨rfl,.inl rfl⟩
 | cons x l ih=>
  intro b h h2
  simp only [worstL,fleeL] at h2 |-
  by_cases hx:row x<0
  ·rw [if_pos hx] at h2;omega
  ·rw [if_neg hx] at h2 |-
   rw [if_neg hx]
   by_cases hg:row b<row x
   ·have hg':row x>row b:=hg
    rw [if_pos hg] at h2 |-
    rw [if_pos hg']
    obtain ⟨e1,e2⟩:=ih x (by omega) h2
    refine ⟨e1,.inr ?_⟩
    rcases e2 with e2 | e2
    ·rw [e2];exact List.mem_cons_self ..
    ·exact List.mem_cons_of_mem _ e2
   ·have hg':¬row x>row b:=hg
    rw [if_neg hg] at h2 |-
    rw [if_neg hg']
    obtain ⟨e1,e2⟩:=ih b h h2
    refine ⟨e1,?_⟩
    rcases e2 with e2 | e2
    ·exact .inl e2
    ·exact .inr (List.mem_cons_of_mem _ e2)
theorem flee_most {row:Int->Int} {l:List Int} (hl:l≠[]) (h:0<=worstL row l 0):row (fleeL row l (l.headD 0))=worstL row l 0/\fleeL row l (l.headD 0)∈l:=by
 match l,hl with
 | x::l,_=>
  show row (if row x<0 then x else fleeL row l (if row x>row x then x else x))=_/\(if row x<0 then x else fleeL row l (if row x>row x then x else x))∈_
  simp only [worstL] at h |-
  by_cases hx:row x<0
  ·rw [if_pos hx] at h;omega
  ·rw [if_neg hx] at h |-
   rw [if_neg hx,if_neg (show ¬row x>row x by omega)]
   have e:(if 0<row x then row x else 0)=row x:=by split<;>omega
   rw [e] at h |-
   obtain ⟨e1,e2⟩:=flee_worst row l x (by omega) h
   refine ⟨e1,?_⟩
   rcases e2 with e2 | e2
   ·rw [e2];exact List.mem_cons_self ..
   ·exact List.mem_cons_of_mem _ e2
theorem chase_one {n:Nat} {es:List E} {c r:Nat} (hc:c<n) (hr:r<n) (hne:c≠r) (h0:0<=tab2 (timesT n (ballF n es)) (c:Int) (r:Int)) :
  ∃b q:Nat,b<n/\q<n/\copT (ballF n es) (timesT n (ballF n es)) (c:Int) (r:Int)=(b:Int)/\robT (ballF n es) (timesT n (ballF n es)) (b:Int) (r:Int)=(q:Int)/\1<=tab2 (timesT n (ballF n es)) (c:Int) (r:Int) /\
   tab2 (timesT n (ballF n es)) (b:Int) (q:Int)+1=tab2 (timesT n (ballF n es)) (c:Int) (r:Int)/\(b:Int)∈ballF n es (c:Int)/\(q:Int)∈ballF n es (r:Int) /\
   (b≠r -> ∀z∈ballF n es (r:Int),0<=tab2 (timesT n (ballF n es)) (b:Int) z/\tab2 (timesT n (ballF n es)) (b:Int) z<tab2 (timesT n (ballF n es)) (c:Int) (r:Int)):=by
 have hb:=ballF_ok n es
 obtain ⟨f1,f2⟩:=times_facts hb
 generalize hT:timesT n (ballF n es)=T at *
 have hz:=fun (x y:Nat) (hx:x<n) (hy:y<n)=>times_zero (n:=n) (ball:=ballF n es) hx hy
 rw [hT] at hz
 have h1:1<=tab2 T (c:Int) (r:Int):=by
  have:=(hz c r hc hr).1
  by_cases e:tab2 T (c:Int) (r:Int)=0
  ·exact absurd (this e) hne
  ·omega
 have ha:=f2 c r hc hr h1
 obtain ⟨x,hx1,hx2⟩:=List.any_eq_true.1 ha
 have hfind:∃z,(ballF n es (c:Int)).find? (chaseP (ballF n es) T (c:Int) (r:Int))=some z:=by
  cases hf:(ballF n es (c:Int)).find? (chaseP (ballF n es) T (c:Int) (r:Int)) with
  | none=>exact absurd hx2 (List.find?_eq_none.1 hf x hx1)
  | some z=>exact ⟨z,rfl⟩
 obtain ⟨z,hf⟩:=hfind
 have hzm:=List.mem_of_find?_eq_some hf
 have hzp:=List.find?_some hf
 obtain ⟨b,hbn,rfl⟩:=hb c hc z hzm
 have hcop:copT (ballF n es) T (c:Int) (r:Int)=(b:Int):=by
  unfold copT firstL
  rw [hf]
  rfl
 unfold chaseP at hzp
 rw [Bool.and_eq_true,decide_eq_true_eq,decide_eq_true_eq] at hzp
 obtain ⟨a1,a2⟩:=hzp
 by_cases hbr:b=r
 ·subst hbr
  refine ⟨b,b,hbn,hbn,hcop,by unfold robT;rw [if_pos rfl],h1,?_,hzm,ball_self es hr,fun h=>absurd rfl h⟩
  have:afterT (ballF n es) T (b:Int) (b:Int)=0:=by unfold afterT;rw [if_pos rfl]
  rw [(hz b b hbn hbn).2 rfl]
  omega
 ·have hbi:¬(b:Int)=(r:Int):=by omega
  have ea:afterT (ballF n es) T (b:Int) (r:Int)=worstL (tab2 T (b:Int)) (ballF n es (r:Int)) 0:=by unfold afterT;rw [if_neg hbi]
  rw [ea] at a1 a2
  have hnil:ballF n es (r:Int)≠[]:=List.ne_nil_of_mem (ball_self es hr)
  obtain ⟨e1,e2⟩:=flee_most (row:=tab2 T (b:Int)) hnil a2
  obtain ⟨q,hq,eq⟩:=hb r hr _ e2
  refine ⟨b,q,hbn,hq,hcop,?_,h1,?_,hzm,?_,fun _ z hz => ?_⟩
  ·unfold robT
   rw [if_neg hbi,eq]
  ·rw [eq] at e1
   omega
  ·rw [<- eq];exact e2
  ·rcases worst_spec (tab2 T (b:Int)) (ballF n es (r:Int)) 0 with ⟨_,h⟩ | ⟨h,_⟩
   ·omega
   ·have:=h z hz
    omega
theorem pl1_facts {n:Nat} {es:List E}:∀(k:Nat) (c r:Nat),c<n->r<n->0<=tab2 (timesT n (ballF n es)) (c:Int) (r:Int)->tab2 (timesT n (ballF n es)) (c:Int) (r:Int)<(k:Int) ->
  ((pl1L (ballF n es) (timesT n (ballF n es)) k (c:Int) (r:Int)).length:Int)=tab2 (timesT n (ballF n es)) (c:Int) (r:Int) /\
  ∃z:Nat,z<n/\(((c:Int),(r:Int),())::pl1L (ballF n es) (timesT n (ballF n es)) k (c:Int) (r:Int)).getLast? = some ((z:Int),(z:Int),()):=by
 intro k
 induction k with
 | zero=>intro c r _ _ h1 h2;omega
 | succ k ih=>
  intro c r hc hr h1 h2
  unfold pl1L
  by_cases e:c=r
  ·subst e
   rw [if_pos rfl]
   exact ⟨by rw [(times_zero hc hc).2 rfl];rfl,c,hc,rfl⟩
  ·have ei:¬(c:Int)=(r:Int):=by omega
   rw [if_neg ei]
   obtain ⟨b,q,hb,hq,e1,e2,e3,e4,_⟩:=chase_one (es:=es) hc hr e h1
   rw [e1,e2]
   obtain ⟨i1,z,hz,i2⟩:=ih b q hb hq (by omega) (by omega)
   refine ⟨?_,z,hz,?_⟩
   ·rw [List.length_cons]
    omega
   ·rw [List.getLast?_cons_cons]
    exact i2
end Go.V.W
namespace Go.V.W
open Go.Proofs
theorem vInts_lim (d) (r) (h:G_vInts d=some r):∃N,F_laws_vInts N d=some r:=by
 obtain ⟨l,m,u⟩:=d
 unfold G_vInts at h
 split at h
 ·rename_i hl
  simp only [Bool.and_eq_true,decide_eq_true_eq] at hl
  obtain ⟨h1,rfl⟩:=hl
  have hl:l.length<=lim:=of_decide_eq_true h1
  have hmx:=lim_max hl
  cases h
  have key:∀k i f,i+k=l.length->k<f->laws_vInts_l0 (l.length+1) f (l,l,(i:Int),())=some (.inr (.inl ())):=by
   intro k
   induction k with
   | zero=>
    intro i f h1 h2
    obtain ⟨f,rfl⟩:∃m,f=m+1:=⟨f-1,by omega⟩
    have hlt:decide ((i:Int)<(l.length:Int))=false:=decide_eq_false (by omega)
    show laws_vInts_l0_r _ _ _=_
    unfold laws_vInts_l0_r
    simp only [hlt,Bool.false_eq_true,if_false]
   | succ k ih=>
    intro i f h1 h2
    obtain ⟨f,rfl⟩:∃m,f=m+1:=⟨f-1,by omega⟩
    have hi:i<l.length:=by omega
    show laws_vInts_l0_r _ _ _=_
    unfold laws_vInts_l0_r
    simp only [lt_dec hi,if_true,idxIn_nat hi,Int.toNat_natCast,bne_self_eq_false,Bool.false_eq_true,if_false,wrap_up hi hmx]
    exact ih (i+1) f (by omega) (by omega)
  refine ⟨l.length+1,?_⟩
  unfold F_laws_vInts
  have hk:=key l.length 0 (l.length+1) (by omega) (by omega)
  simp only [Int.natCast_zero] at hk
  simp only [bne_self_eq_false,Bool.false_eq_true,if_false,hk,Option.bind_some]
 ·cases h
theorem vPairs_lim (d) (r) (h:G_vPairs d=some r):∃N,F_q73q N d=some r:=by
 obtain ⟨l,m,u⟩:=d
 unfold G_vPairs at h
 split at h
 ·rename_i hl
  simp only [Bool.and_eq_true,decide_eq_true_eq] at hl
  obtain ⟨h1,rfl⟩:=hl
  have hl:l.length<=lim:=of_decide_eq_true h1
  have hmx:=lim_max hl
  cases h
  have key:∀k i f,i+k=l.length->k<f->q73q_l0 (l.length+1) f (l,l,(i:Int),())=some (.inr (.inl ())):=by
   intro k
   induction k with
   | zero=>
    intro i f h1 h2
    obtain ⟨f,rfl⟩:∃m,f=m+1:=⟨f-1,by omega⟩
    have hlt:decide ((i:Int)<(l.length:Int))=false:=decide_eq_false (by omega)
    show q73q_l0_r _ _ _=_
    unfold q73q_l0_r
    simp only [hlt,Bool.false_eq_true,if_false]
   | succ k ih=>
    intro i f h1 h2
    obtain ⟨f,rfl⟩:∃m,f=m+1:=⟨f-1,by omega⟩
    have hi:i<l.length:=by omega
    show q73q_l0_r _ _ _=_
    unfold q73q_l0_r
    have he:eqB K_Piiq (at_ K_Piiq l i) (at_ K_Piiq l i)=true:=by rw [eqB_e];exact decide_eq_true rfl
    simp only [lt_dec hi,if_true,idxIn_nat hi,Int.toNat_natCast,he,Bool.not_true,Bool.false_eq_true,if_false,wrap_up hi hmx]
    exact ih (i+1) f (by omega) (by omega)
  refine ⟨l.length+1,?_⟩
  unfold F_q73q
  have hk:=key l.length 0 (l.length+1) (by omega) (by omega)
  simp only [Int.natCast_zero] at hk
  simp only [bne_self_eq_false,Bool.false_eq_true,if_false,hk,Option.bind_some]
 ·cases h
section plays
variable {a:Nat} {es:List E} {v:Unit}
theorem chase_some (hg:graphB ((a:Int),es,v)=true) (ho:okL es=true) {c r:Nat} (hc:c<a) (hr:r<a) (h:1<=tab2 (timesT a (ballF a es)) (c:Int) (r:Int)) (u:Unit) :
  G_l3Chase (((a:Int),es,v),timesT a (ballF a es),(c:Int),(r:Int),u)=some (copT (ballF a es) (timesT a (ballF a es)) (c:Int) (r:Int),()):=by
 obtain ⟨f1,f2⟩:=times_facts (ballF_ok a es)
 have hG:=graph_grB hg ho
 unfold G_l3Chase twoB
 have h1:decide (1<=tab2 (timesT a (ballF a es)) (c:Int) (r:Int))=true:=decide_eq_true h
 simp only [hG,Int.toNat_natCast,f1,in_node hc,in_node hr,h1,f2 c r hc hr (by omega),Bool.and_self,if_true]
 rfl
theorem flee_some (hg:graphB ((a:Int),es,v)=true) (ho:okL es=true) {c r:Nat} (hc:c<a) (hr:r<a) (u:Unit) :
  G_l3Flee (((a:Int),es,v),timesT a (ballF a es),(c:Int),(r:Int),u)=some (fleeL (tab2 (timesT a (ballF a es)) (c:Int)) (ballF a es (r:Int)) ((ballF a es (r:Int)).headD 0),()):=by
 have hG:=graph_grB hg ho
 unfold G_l3Flee twoB
 have hsq:sqL a (timesT a (ballF a es))=true:=tabL_sq _ _
 simp only [hG,Int.toNat_natCast,hsq,in_node hc,in_node hr,Bool.and_self,if_true]
theorem playS_l0 (N:Nat) (hg:graphB ((a:Int),es,v)=true) (ho:okL es=true):∀(k c r f:Nat) (out:List E),c<a->r<a->0<=tab2 (timesT a (ballF a es)) (c:Int) (r:Int)->tab2 (timesT a (ballF a es)) (c:Int) (r:Int)<(k:Int)->k<=f->out.length+k<=1000 ->
  q65q_l0 N f ((c:Int),(r:Int),((a:Int),es,v),timesT a (ballF a es),out,())=some (.inl (out++pl1L (ballF a es) (timesT a (ballF a es)) k (c:Int) (r:Int),())):=by
 intro k
 induction k with
 | zero=>intro c r f out _ _ h1 h2;omega
 | succ k ih=>
  intro c r f out hc hr h1 h2 h3 h4
  obtain ⟨f,rfl⟩:∃m,f=m+1:=⟨f-1,by omega⟩
  show q65q_l0_r _ _ _=_
  unfold q65q_l0_r pl1L
  by_cases e:c=r
  ·subst e
   simp only [bne_self_eq_false,Bool.false_eq_true,if_false,if_true,List.append_nil]
  ·have ei:¬(c:Int)=(r:Int):=by omega
   have hb:((c:Int) != (r:Int))=true:=by simpa using ei
   obtain ⟨b,q,hbn,hq,e1,e2,e3,e4,_⟩:=chase_one (es:=es) hc hr e h1
   simp only [hb,if_true,chase_some hg ho hc hr e3,Option.bind_some,if_neg ei,e1]
   have hi:=ih b q f (out++[((b:Int),(q:Int),())]) hbn hq (by omega) (by omega) (by omega) (by simp;omega)
   have hlen:decide (out.length+1<=lim)=true:=decide_eq_true (by unfold lim;omega)
   by_cases hbr:(b:Int)=(r:Int)
   ·have eq:(q:Int)=(r:Int):=by
     rw [<- e2]
     unfold robT
     rw [if_pos hbr]
    rw [hbr,eq] at hi
    rw [hbr] at e2
    rw [eq] at e2
    simp only [hbr,bne_self_eq_false,Bool.false_eq_true,if_false,List.length_singleton,hlen,if_true,e2]
    rw [hi,List.append_assoc]
    rfl
   ·have hb2:((b:Int) != (r:Int))=true:=by simpa using hbr
    have e2':=e2
    unfold robT at e2'
    rw [if_neg hbr] at e2'
    simp only [hb2,if_true,flee_some hg ho hbn hr,e2',Option.bind_some,List.length_singleton,hlen,e2]
    rw [hi,List.append_assoc]
    rfl
theorem playI_l0 (N:Nat) (hg:graphB ((a:Int),es,v)=true):∀(k c r f:Nat) (out:List E),c<a->r<a->0<=tab2 (timesT a (ballF a es)) (c:Int) (r:Int)->tab2 (timesT a (ballF a es)) (c:Int) (r:Int)<(k:Int)->k<=f->out.length+k<=1000 ->
  q64q_l0 N f ((c:Int),(r:Int),(toI (netN a es),()),timesT a (ballF a es),out,())=some (.inl (out++pl1L (ballF a es) (timesT a (ballF a es)) k (c:Int) (r:Int),())):=by
 intro k
 induction k with
 | zero=>intro c r f out _ _ h1 h2;omega
 | succ k ih=>
  intro c r f out hc hr h1 h2 h3 h4
  obtain ⟨f,rfl⟩:∃m,f=m+1:=⟨f-1,by omega⟩
  show q64q_l0_r _ _ _=_
  unfold q64q_l0_r pl1L
  by_cases e:c=r
  ·subst e
   simp only [bne_self_eq_false,Bool.false_eq_true,if_false,if_true,List.append_nil]
  ·have ei:¬(c:Int)=(r:Int):=by omega
   have hb:((c:Int) != (r:Int))=true:=by simpa using ei
   obtain ⟨b,q,hbn,hq,e1,e2,e3,e4,_⟩:=chase_one (es:=es) hc hr e h1
   simp only [hb,if_true,cop_impl hg hc hr,Option.bind_some,if_neg ei,e1]
   have hi:=ih b q f (out++[((b:Int),(q:Int),())]) hbn hq (by omega) (by omega) (by omega) (by simp;omega)
   have hlen:decide (out.length+1<=lim)=true:=decide_eq_true (by unfold lim;omega)
   obtain ⟨t1,_,_⟩:=times_at (ball:=ballF a es) hbn hr
   by_cases hbr:(b:Int)=(r:Int)
   ·have eq:(q:Int)=(r:Int):=by
     rw [<- e2]
     unfold robT
     rw [if_pos hbr]
    rw [hbr,eq] at hi
    rw [hbr] at e2
    rw [eq] at e2
    simp only [hbr,bne_self_eq_false,Bool.false_eq_true,if_false,List.length_singleton,hlen,if_true,e2]
    rw [hi,List.append_assoc]
    rfl
   ·have hb2:((b:Int) != (r:Int))=true:=by simpa using hbr
    have e2':=e2
    unfold robT at e2'
    rw [if_neg hbr] at e2'
    simp only [hb2,if_true,t1,Int.toNat_natCast,rob_impl hg hbn hr,e2',Option.bind_some,List.length_singleton,hlen,e2]
    rw [hi,List.append_assoc]
    rfl
end plays
theorem pl1B_parts {n:Int} {es:List E} {v:Unit} {c r:Int} (hg:graphB (n,es,v)=true) (hc:inB 0 (n-1) c=true) (hr:inB 0 (n-1) r=true) :
  ∃a c' r':Nat,n=(a:Int)/\c=(c':Int)/\r=(r':Int)/\c'<a/\r'<a:=by
 obtain ⟨n0,n8⟩:=graphB_n hg
 have h1:=inB_iff.1 hc
 have h2:=inB_iff.1 hr
 exact ⟨n.toNat,c.toNat,r.toNat,by omega,by omega,by omega,by omega,by omega⟩
theorem specPlayOut_lim (d) (r) (h:G_PlayOut d=some r):∃N,F_q65q N d=some r:=by
 obtain ⟨⟨n,es,v⟩,c,q,u⟩:=d
 unfold G_PlayOut at h
 split at h
 ·rename_i ho
  have ho:okL es=true:=ho
  refine ⟨100,?_⟩
  cases h
  unfold F_q65q pl1B
  cases hg:graphB (n,es,v) with
  | false=>
   have h2:F_spec_l3Two 0 ((n,es,v),c,q,())=some (false,()):=by
    unfold F_spec_l3Two G_graph
    simp only [ho,if_true,Option.bind_some,hg,Bool.false_eq_true,if_false]
   simp only [h2,Option.bind_some,Bool.not_false,if_true,Bool.false_and,Bool.false_eq_true,if_false]
  | true=>
   obtain ⟨n0,n8⟩:=graphB_n hg
   obtain ⟨a,rfl⟩:=nat_of n0
   simp only [two_some hg ho,Option.bind_some,Bool.true_and]
   cases hc:inB 0 ((a:Int)-1) c with
   | false=>simp only [Bool.false_and,Bool.not_false,if_true,Bool.false_eq_true,if_false]
   | true=>
    cases hq:inB 0 ((a:Int)-1) q with
    | false=>simp only [Bool.and_false,Bool.false_and,Bool.not_false,if_true,Bool.false_eq_true,if_false]
    | true=>
     obtain ⟨_,c',r',_,rfl,rfl,h1,h2⟩:=pl1B_parts hg hc hq
     have h1:c'<a:=by omega
     have h2:r'<a:=by omega
     obtain ⟨t1,t2,t3⟩:=times_at (ball:=ballF a es) h1 h2
     have hT:oneT ((a:Int),es,v)=timesT a (ballF a es):=rfl
     simp only [Bool.and_self,Bool.not_true,Bool.false_eq_true,if_false,G_l3Times,graph_grB hg ho,if_true,Option.bind_some,Int.toNat_natCast,t1,t2,t3,hT,Bool.true_and]
     by_cases hn:tab2 (timesT a (ballF a es)) (c':Int) (r':Int)<0
     ·have hn2:decide (0<=tab2 (timesT a (ballF a es)) (c':Int) (r':Int))=false:=decide_eq_false (by omega)
      simp only [decide_eq_true hn,if_true,hn2,Bool.false_eq_true,if_false]
     ·have hn2:decide (0<=tab2 (timesT a (ballF a es)) (c':Int) (r':Int))=true:=decide_eq_true (by omega)
      have hup:=(times_low (ballF_ok a es) h1 h2).2
      have hl:=playS_l0 100 hg ho 67 c' r' 100 [((c':Int),(r':Int),())] h1 h2 (by omega) (by omega) (by omega) (by simp)
      simp only [decide_eq_false hn,hn2,if_true,Bool.false_eq_true,if_false,hl,Option.bind_some]
      rfl
 ·cases h
theorem implPlayOut_lim (d) (r) (h:G_PlayOut d=some r):∃N,F_q64q N d=some r:=by
 obtain ⟨⟨n,es,v⟩,c,q,u⟩:=d
 unfold G_PlayOut at h
 split at h
 ·rename_i ho
  have ho:okL es=true:=ho
  refine ⟨100,?_⟩
  cases h
  unfold F_q64q pl1B
  have hl2:okL [c,q]=true:=rfl
  simp only [has_nodes n es v () [c,q] ho hl2,Option.bind_some,List.all_cons,List.all_nil,Bool.and_true]
  cases hg:graphB (n,es,v) with
  | false=>simp only [Bool.false_and,Bool.not_false,if_true,Bool.false_eq_true,if_false]
  | true=>
   obtain ⟨n0,n8⟩:=graphB_n hg
   obtain ⟨a,rfl⟩:=nat_of n0
   simp only [Bool.true_and]
   cases hc:inB 0 ((a:Int)-1) c with
   | false=>simp only [Bool.false_and,Bool.not_false,if_true,Bool.false_eq_true,if_false]
   | true=>
    cases hq:inB 0 ((a:Int)-1) q with
    | false=>simp only [Bool.and_false,Bool.false_and,Bool.not_false,if_true,Bool.false_eq_true,if_false]
    | true=>
     obtain ⟨_,c',r',_,rfl,rfl,h1,h2⟩:=pl1B_parts hg hc hq
     have h1:c'<a:=by omega
     have h2:r'<a:=by omega
     obtain ⟨ha,g1,g2⟩:=edges_of hg
     obtain ⟨nb,nl⟩:=netB_net ha g1
     have hTT:timesT (toI (netN a es)).length (ballM (toI (netN a es)))=timesT a (ballF a es):=by
      rw [nl]
      exact tabL_congr (timesF_congr (fun x hx=>ball_same ha g1 hx) 65 1 startF startF fun _ _ _ _=>rfl)
     obtain ⟨t1,t2,t3⟩:=times_at (ball:=ballF a es) h1 h2
     have hT:oneT ((a:Int),es,v)=timesT a (ballF a es):=rfl
     simp only [Bool.and_self,Bool.not_true,Bool.false_eq_true,if_false,net_some hg ho,G_copTimes,nb,hTT,if_true,Option.bind_some,Int.toNat_natCast,t1,t2,t3,hT,Bool.true_and]
     by_cases hn:tab2 (timesT a (ballF a es)) (c':Int) (r':Int)<0
     ·have hn2:decide (0<=tab2 (timesT a (ballF a es)) (c':Int) (r':Int))=false:=decide_eq_false (by omega)
      simp only [decide_eq_true hn,if_true,hn2,Bool.false_eq_true,if_false]
     ·have hn2:decide (0<=tab2 (timesT a (ballF a es)) (c':Int) (r':Int))=true:=decide_eq_true (by omega)
      have hup:=(times_low (ballF_ok a es) h1 h2).2
      have hl:=playI_l0 100 hg 67 c' r' 100 [((c':Int),(r':Int),())] h1 h2 (by omega) (by omega) (by omega) (by simp)
      simp only [decide_eq_false hn,hn2,if_true,Bool.false_eq_true,if_false,hl,Option.bind_some]
      rfl
 ·cases h
end Go.V.W
namespace Go.V.W
open Go.Proofs
theorem sortI_sorted (l:List Int):(sortI l).Pairwise (· <= ·):=by
 have:=List.pairwise_mergeSort (le:=fun x y:Int=>decide (x<=y)) (fun a b c h1 h2=>by simp at h1 h2 |-;omega) (fun a b=>by simp;omega) l
 unfold sortI
 exact this.imp fun h=>by simpa using h
theorem sortI_perm (l:List Int):(sortI l).Perm l:=by
 unfold sortI
 exact List.mergeSort_perm l _
end Go.V.W
namespace Go.V.W
open Go.Proofs
theorem flat_len (ball:List Int):∀now:List (List Int),(now.flatMap fun l=>ball.map fun x=>l++[x]).length=now.length*ball.length:=by
 intro now
 induction now with
 | nil=>simp
 | cons l now ih=>
  rw [List.flatMap_cons,List.length_append,ih,List.length_map,List.length_cons,Nat.succ_mul]
  omega
theorem flat_each {ball:List Int} {now:List (List Int)} {i:Nat} (h:∀l∈now,l.length=i):∀l∈now.flatMap (fun l=>ball.map fun x=>l++[x]),l.length=i+1:=by
 intro l hl
 obtain ⟨a,ha,h2⟩:=List.mem_flatMap.1 hl
 obtain ⟨x,_,rfl⟩:=List.mem_map.1 h2
 simp [h a ha]
theorem chL_facts {ball:Int->List Int}:∀{cs:List Int} {now:List (List Int)} {i:Nat},(∀c∈cs,(ball c).length<=8)->(∀l∈now,l.length=i)->(chL ball cs now).length<=now.length*8 ^ cs.length /\ ∀l∈chL ball cs now,l.length=i+cs.length:=by
 intro cs
 induction cs with
 | nil=>intro now i _ h;exact ⟨by simp [chL],fun l hl=>by simpa using h l hl⟩
 | cons c cs ih=>
  intro now i hb h
  obtain ⟨h1,h2⟩:=ih (fun c hc=>hb c (by simp [hc])) (flat_each (ball:=ball c) h)
  refine ⟨?_,fun l hl=>by rw [h2 l hl];simp;omega⟩
  refine Nat.le_trans h1 ?_
  rw [flat_len,List.length_cons,Nat.pow_succ,Nat.mul_comm (8 ^ cs.length) 8,<- Nat.mul_assoc]
  exact Nat.mul_le_mul_right _ (Nat.mul_le_mul_left _ (hb c (by simp)))
theorem nodes_parts {n:Int} {cops:List Int} (h:nodesB n cops=true):cops.length<=3 /\ ∀c∈cops,inB 0 (n-1) c=true:=by
 unfold nodesB at h
 simp only [Bool.and_eq_true,decide_eq_true_eq] at h
 exact ⟨h.1,fun c hc=>List.all_eq_true.1 h.2 c hc⟩
end Go.V.W
namespace Go.V.W
open Go.Proofs
theorem cm_l4 (N:Nat) (net:Nt) (cop:Int) (list cops:List Int) (n17 i:Int) (moves:List (List Int)) (n23 j:Int) (ball:List Int) (hb:ball.length<=8) (hlen:list.length<=1000):∀q k f (next:List (List Int)),k+q=ball.length->q<f->next.length+q<=1000 ->
  q21q_l4 N f (net,cop,next,list,cops,n17,i,moves,n23,j,ball,(ball.length:Int),(k:Int),())=some (.inl (net,cop,next++(ball.drop k).map (fun x=>list++[x]),cops,n17,i,moves,n23,j,())):=by
 intro q
 induction q with
 | zero=>
  intro k f next e1 e2 e3
  obtain ⟨f,rfl⟩:∃m,f=m+1:=⟨f-1,by omega⟩
  have e:k=ball.length:=by omega
  subst e
  rw [List.drop_of_length_le (Nat.le_refl _)]
  show q21q_l4_r _ _ _=_
  unfold q21q_l4_r
  simp only [lt_not,Bool.false_eq_true,if_false,List.map_nil,List.append_nil]
 | succ q ih=>
  intro k f next e1 e2 e3
  obtain ⟨f,rfl⟩:∃m,f=m+1:=⟨f-1,by omega⟩
  have hk:k<ball.length:=by omega
  have ek:at_ I ball k=ball[k]:=at_get (e:=I) hk
  have ht:G_toIntS (list,())=some (list,()):=by
   unfold G_toIntS
   rw [if_pos (show okL list=true from decide_eq_true (by unfold lim;omega))]
  have c1:decide (list.length+List.length [ball[k]]<=lim)=true:=by unfold lim;simp;omega
  have c2:decide (next.length+List.length [list++[ball[k]]]<=lim)=true:=by unfold lim;simp;omega
  show q21q_l4_r _ _ _=_
  unfold q21q_l4_r
  simp only [lt_dec hk,if_true,idxIn_nat hk,Int.toNat_natCast,ek,ht,Option.bind_some,c1,c2,wrap8 hk hb]
  rw [ih (k+1) f _ (by omega) (by omega) (by simp;omega),List.drop_eq_getElem_cons hk,List.map_cons,List.append_assoc,List.singleton_append]
theorem cm_l2 (N:Nat) (hN:10<=N) {l:List Int} (hn:netB l=true) (u:Unit) (c:Nat) (hc:c<l.length) (cops:List Int) (n17 i:Int) (now:List (List Int)) (hnow:now.length<=64) (hle:∀l∈now,l.length<=1000):∀q j f (next:List (List Int)),j+q=now.length->q<f->next.length+8*q<=900 ->
  q21q_l2 N f ((l,u),(c:Int),next,cops,n17,i,now,(now.length:Int),(j:Int),())=some (.inl ((l,u),next++(now.drop j).flatMap (fun l'=>(ballM l (c:Int)).map fun x=>l'++[x]),cops,n17,i,())):=by
 intro q
 have hb:=ballM_len l (c:Int)
 induction q with
 | zero=>
  intro j f next e1 e2 e3
  obtain ⟨f,rfl⟩:∃m,f=m+1:=⟨f-1,by omega⟩
  have e:j=now.length:=by omega
  subst e
  rw [List.drop_of_length_le (Nat.le_refl _)]
  show q21q_l2_r _ _ _=_
  unfold q21q_l2_r
  simp only [lt_not,Bool.false_eq_true,if_false,List.flatMap_nil,List.append_nil]
 | succ q ih=>
  intro j f next e1 e2 e3
  obtain ⟨f,rfl⟩:∃m,f=m+1:=⟨f-1,by omega⟩
  have hj:j<now.length:=by omega
  have ej:at_ K_Si now j=now[j]:=at_get (e:=K_Si) hj
  have hin:=cm_l4 N (l,u) (c:Int) now[j] cops n17 i now (now.length:Int) (j:Int) (ballM l (c:Int)) hb (hle _ (List.getElem_mem hj)) (ballM l (c:Int)).length 0 N next (by omega) (by omega) (by omega)
  simp only [Int.natCast_zero,List.drop_zero] at hin
  have hw:IntKind.wrap .i64 ((j:Int)+1)=((j+1:Nat):Int):=by
   rw [wrap_in _ (by omega) (by omega)]
   rfl
  show q21q_l2_r _ _ _=_
  unfold q21q_l2_r
  simp only [lt_dec hj,if_true,idxIn_nat hj,Int.toNat_natCast,ej,closedM hn u hc,setOfM hn hc,Option.bind_some,hin,hw]
  rw [ih (j+1) f _ (by omega) (by omega) (by simp;omega),List.drop_eq_getElem_cons hj,List.flatMap_cons,List.append_assoc]
theorem cm_l0 (N:Nat) (hN:100<=N) {l:List Int} (hn:netB l=true) (u:Unit) (cops:List Int) (h3:cops.length<=3) (hc:∀c∈cops,inB 0 ((l.length:Int)-1) c=true):∀q i f (now:List (List Int)),i+q=cops.length->q<f->now.length<=8 ^ i->(∀l∈now,l.length=i) ->
  q21q_l0 N f ((l,u),now,cops,(cops.length:Int),(i:Int),())=some (.inl (chL (ballM l) (cops.drop i) now,())):=by
 intro q
 induction q with
 | zero=>
  intro i f now e1 e2 e3 e4
  obtain ⟨f,rfl⟩:∃m,f=m+1:=⟨f-1,by omega⟩
  have e:i=cops.length:=by omega
  subst e
  rw [List.drop_of_length_le (Nat.le_refl _)]
  show q21q_l0_r _ _ _=_
  unfold q21q_l0_r
  simp only [lt_not,Bool.false_eq_true,if_false,chL]
 | succ q ih=>
  intro i f now e1 e2 e3 e4
  obtain ⟨f,rfl⟩:∃m,f=m+1:=⟨f-1,by omega⟩
  have hi:i<cops.length:=by omega
  have ei:at_ I cops i=cops[i]:=at_get (e:=I) hi
  obtain ⟨b1,b2⟩:=inB_len (hc _ (List.getElem_mem hi))
  have hbl:=ballM_len l cops[i]
  have h64:now.length<=64:=by
   have:8 ^ i<=8 ^ 2:=Nat.pow_le_pow_right (by omega) (by omega)
   omega
  have hin:=cm_l2 N (by omega) hn u cops[i].toNat b2 cops (cops.length:Int) (i:Int) now h64 (fun l hl=>by rw [e4 l hl];omega) now.length 0 N [] (by omega) (by omega) (by simp;omega)
  rw [<- b1] at hin
  simp only [Int.natCast_zero,List.drop_zero,List.nil_append] at hin
  have hw:IntKind.wrap .i64 ((i:Int)+1)=((i+1:Nat):Int):=by
   rw [wrap_in _ (by omega) (by omega)]
   rfl
  show q21q_l0_r _ _ _=_
  unfold q21q_l0_r
  simp only [lt_dec hi,if_true,idxIn_nat hi,Int.toNat_natCast,ei,hin,Option.bind_some,hw]
  rw [List.drop_eq_getElem_cons hi]
  refine ih (i+1) f _ (by omega) (by omega) ?_ (flat_each e4)
  rw [flat_len,Nat.pow_succ]
  exact Nat.mul_le_mul e3 hbl
theorem cm_l6 (N:Nat):∀(rest pre:List (List Int)) f,rest.length<f->pre.length+rest.length<=900->(∀l∈rest,l.length<=900) ->
  q21q_l6 N f (pre++rest,(),((pre.length+rest.length:Nat):Int),(pre.length:Int),())=some (.inl (pre++rest.map sortI,())):=by
 intro rest
 induction rest with
 | nil=>
  intro pre f e1 e2 e3
  obtain ⟨f,rfl⟩:∃m,f=m+1:=⟨f-1,by omega⟩
  show q21q_l6_r _ _ _=_
  unfold q21q_l6_r
  simp only [List.length_nil,Nat.add_zero,lt_not,Bool.false_eq_true,if_false,List.map_nil]
 | cons x rest ih=>
  intro pre f e1 e2 e3
  obtain ⟨f,rfl⟩:∃m,f=m+1:=⟨f-1,by omega⟩
  have e2':pre.length+(rest.length+1)<=900:=by simpa using e2
  have hlt:decide ((pre.length:Int)<((pre.length+(x::rest).length:Nat):Int))=true:=decide_eq_true (by simp;omega)
  have hix:idxIn (pre.length:Int) (pre++x::rest).length=true:=idxIn_nat (by simp)
  have hs:G_sortI (x,())=some (sortI x,()):=by
   unfold G_sortI
   rw [if_pos (decide_eq_true (by have:=e3 x (by simp);unfold lim;show x.length<=_;omega))]
  have hw:IntKind.wrap .i64 ((pre.length:Int)+1)=((pre.length+1:Nat):Int):=by
   rw [wrap_in _ (by omega) (by omega)]
   rfl
  show q21q_l6_r _ _ _=_
  unfold q21q_l6_r
  simp only [hlt,hix,if_true,Int.toNat_natCast,at_midS,hs,Option.bind_some,set_midS,hw]
  have:=ih (pre++[sortI x]) f (by simp at e1;omega) (by simp;omega) (fun l hl=>e3 l (by simp [hl]))
  simp only [List.length_append,List.length_singleton,List.append_assoc,List.singleton_append] at this
  rw [show ((pre.length+(x::rest).length:Nat):Int)=((pre.length+1+rest.length:Nat):Int) by simp;omega]
  rw [this,List.map_cons]
theorem copMoves47_lim (d) (r) (h:G_copMoves d=some r):∃N,F_q21q N d=some r:=by
 obtain ⟨⟨l,u⟩,cops,_⟩:=d
 unfold G_copMoves at h
 split at h
 ·rename_i hc
  simp only [Bool.and_eq_true] at hc
  obtain ⟨hn,hc⟩:=hc
  have hn:netB l=true:=hn
  obtain ⟨h3,hin⟩:=nodes_parts hc
  have h:=Option.some.inj h
  subst h
  refine ⟨1000,?_⟩
  unfold F_q21q
  have h0:=cm_l0 1000 (by omega) hn u cops h3 hin cops.length 0 1000 [[]] (by omega) (by omega) (by simp) (by simp)
  simp only [Int.natCast_zero,List.drop_zero] at h0
  obtain ⟨f1,f2⟩:=chL_facts (ball:=ballM l) (cs:=cops) (now:=[[]]) (i:=0) (fun c _=>ballM_len l c) (by simp)
  have hlen:(chL (ballM l) cops [[]]).length<=512:=by
   have:8 ^ cops.length<=8 ^ 3:=Nat.pow_le_pow_right (by omega) h3
   have e:([[]]:List (List Int)).length=1:=rfl
   rw [e] at f1
   omega
  have h6:=cm_l6 1000 (chL (ballM l) cops [[]]) [] 1000 (by omega) (by simp;omega) (fun l hl=>by rw [f2 l hl];omega)
  simp only [List.nil_append,List.length_nil,Nat.zero_add,Int.natCast_zero] at h6
  have hok:okLL ((chL (ballM l) cops [[]]).map sortI)=true:=by
   unfold okLL
   rw [Bool.and_eq_true]
   refine ⟨decide_eq_true (by rw [List.length_map];unfold lim;omega),List.all_eq_true.2 fun y hy => ?_⟩
   obtain ⟨x,hx,rfl⟩:=List.mem_map.1 hy
   exact decide_eq_true (by rw [sort_len,f2 x hx];unfold lim;omega)
  have hok2:okLL (sortS ((chL (ballM l) cops [[]]).map sortI))=true:=by
   unfold okLL at hok |-
   rw [Bool.and_eq_true] at hok |-
   refine ⟨decide_eq_true (by rw [sortS_len];exact okL_lim hok.1),List.all_eq_true.2 fun y hy => ?_⟩
   exact List.all_eq_true.1 hok.2 y ((sortS_perm _).mem_iff.1 hy)
  simp only [h0,Option.bind_some,h6,G_sortF,hok,if_true,G_compactF,hok2]
  rfl
 ·cases h
end Go.V.W
namespace Go.V.W
open Go.Proofs
theorem cops_nodes {n:Int} {c:List Int} (h:copsB n c=true) (h3:c.length<=3):nodesB n c=true:=by
 unfold copsB at h
 rw [Bool.and_eq_true] at h
 unfold nodesB
 rw [Bool.and_eq_true]
 exact ⟨decide_eq_true h3,h.1⟩
end Go.V.W
namespace Go.V.W
open Go.Proofs
theorem has2 {S:List Int} {y:Int} (h:okL S=true) (u:Unit):F_q7q 0 (S,y,u)=some (hasL S y,()):=by
 unfold F_q7q G_index
 have hge:=idxI_ge (fun z=>y==z) S 0
 simp only [h,if_true,Option.bind_some,ge_iff_le,hge]
 unfold hasL
 have:(fun z=>y==z)=fun z:Int=>z==y:=by
  funext z
  rw [Bool.beq_comm]
 rw [this]
theorem nodeX {m:Nat} {z:Int} (h:inB 0 ((m:Int)-1) z=true):∃x:Nat,z=(x:Int)/\x<m:=by
 have:=inB_iff.1 h
 exact ⟨z.toNat,by omega,by omega⟩
end Go.V.W
namespace Go.V.W
open Go.Proofs
theorem lt_snoc1:∀{a b:List Int} {x y:Int},a.length=b.length->cmpL a b<0->cmpL (a++[x]) (b++[y])<0:=by
 intro a
 induction a with
 | nil=>
  intro b x y h1 h2
  cases b with
  | nil=>simp [cmpL] at h2
  | cons c b=>simp at h1
 | cons c a ih=>
  intro b x y h1 h2
  cases b with
  | nil=>simp at h1
  | cons e b=>
   simp only [cmpL,List.cons_append] at h2 |-
   by_cases h3:c<e
   ·rw [if_pos h3];omega
   ·rw [if_neg h3] at h2 |-
    by_cases h4:e<c
    ·rw [if_pos h4] at h2;omega
    ·rw [if_neg h4] at h2 |-
     exact ih (by simpa using h1) h2
theorem lt_snoc2:∀{a:List Int} {x y:Int},x<y->cmpL (a++[x]) (a++[y])<0:=by
 intro a
 induction a with
 | nil=>intro x y h;simp [cmpL,h]
 | cons c a ih=>
  intro x y h
  simp only [cmpL,List.cons_append,Int.lt_irrefl,if_false]
  exact ih h
theorem upTo_mem {a n:Nat} {x:Int}:x∈upTo a n ↔ ∃y:Nat,a<=y/\y<n/\x=(y:Int):=by
 unfold upTo
 simp only [List.mem_map,List.mem_range'_1]
 constructor
 ·rintro ⟨y,hy,rfl⟩
  exact ⟨y,by omega,by omega,rfl⟩
 ·rintro ⟨y,h1,h2,rfl⟩
  exact ⟨y,by omega,rfl⟩
theorem confL_len {n:Nat}:∀{k:Nat} {l:List Int},l∈confL n k->l.length=k:=by
 intro k
 induction k with
 | zero=>intro l h;simp [confL] at h;simp [h]
 | succ k ih=>
  intro l h
  unfold confL at h
  obtain ⟨a,ha,h2⟩:=List.mem_flatMap.1 h
  obtain ⟨x,_,rfl⟩:=List.mem_map.1 h2
  simp [ih ha]
theorem confL_rise (n:Nat):∀k:Nat,(confL n k).Pairwise ltL:=by
 intro k
 induction k with
 | zero=>simp [confL]
 | succ k ih=>
  unfold confL
  rw [List.pairwise_flatMap]
  refine ⟨fun a _ => ?_,?_⟩
  ·rw [List.pairwise_map]
   unfold upTo
   rw [List.pairwise_map]
   refine List.Pairwise.imp (fun {i j} h => ?_) (List.pairwise_lt_range' (s:=(a.getLastD 0).toNat) (n:=n-(a.getLastD 0).toNat))
   exact lt_snoc2 (by omega)
  ·refine List.Pairwise.imp_of_mem (fun {a b} ha hb h x hx y hy => ?_) ih
   obtain ⟨p,_,rfl⟩:=List.mem_map.1 hx
   obtain ⟨q,_,rfl⟩:=List.mem_map.1 hy
   exact lt_snoc1 (by rw [confL_len ha,confL_len hb]) h
theorem ndB_snoc:∀{l:List Int} {x:Int},ndB (l++[x])=(ndB l&&(match l.getLast? with | none=>true | some y=>decide (y<=x))):=by
 intro l
 induction l with
 | nil=>intro x;rfl
 | cons a l ih=>
  intro x
  cases l with
  | nil=>simp [ndB]
  | cons b l=>
   have:=ih (x:=x)
   simp only [List.cons_append,ndB] at this |-
   rw [this,List.getLast?_cons_cons,Bool.and_assoc]
theorem confL_mem {n:Nat}:∀{k:Nat} {l:List Int},l∈confL n k↔l.length=k/\copsB (n:Int) l=true:=by
 intro k
 induction k with
 | zero=>
  intro l
  simp only [confL,List.mem_singleton,List.length_eq_zero_iff]
  constructor
  ·rintro rfl;exact ⟨rfl,rfl⟩
  ·intro h;exact h.1
 | succ k ih=>
  intro l
  unfold confL
  rw [List.mem_flatMap]
  constructor
  ·rintro ⟨a,ha,h2⟩
   obtain ⟨x,hx,rfl⟩:=List.mem_map.1 h2
   obtain ⟨y,h3,h4,rfl⟩:=upTo_mem.1 hx
   obtain ⟨h5,h6⟩:=ih.1 ha
   refine ⟨by simp [h5],?_⟩
   unfold copsB at h6 |-
   rw [Bool.and_eq_true] at h6
   rw [List.all_append,ndB_snoc,h6.1,h6.2]
   simp only [List.all_cons,List.all_nil,Bool.true_and,Bool.and_true,Bool.and_eq_true]
   refine ⟨inB_iff.2 (by omega),?_⟩
   cases hg:a.getLast? with
   | none=>rfl
   | some z=>
    rw [List.getLastD_eq_getLast?,hg] at h3
    simp only [Option.getD_some] at h3
    exact decide_eq_true (by omega)
  ·rintro ⟨h1,h2⟩
   have hne:l≠[]:=fun h=>by simp [h] at h1
   refine ⟨l.dropLast,ih.2 ⟨by simp [h1],?_⟩,List.mem_map.2 ⟨l.getLast hne,?_,List.dropLast_concat_getLast hne⟩⟩
   ·have e:=List.dropLast_concat_getLast hne
    rw [<- e] at h2
    unfold copsB at h2 |-
    rw [List.all_append,ndB_snoc] at h2
    simp only [Bool.and_eq_true] at h2
    rw [Bool.and_eq_true]
    exact ⟨h2.1.1,h2.2.1⟩
   ·have e:=List.dropLast_concat_getLast hne
    rw [<- e] at h2
    unfold copsB at h2
    rw [List.all_append,ndB_snoc] at h2
    simp only [Bool.and_eq_true,List.all_cons,List.all_nil,and_true] at h2
    have h3:=inB_iff.1 h2.1.2
    refine upTo_mem.2 ⟨(l.getLast hne).toNat,?_,by omega,by omega⟩
    rw [List.getLastD_eq_getLast?]
    have h4:=h2.2.2
    cases hg:l.dropLast.getLast? with
    | none=>simp
    | some z=>
     rw [hg] at h4
     have h4:=of_decide_eq_true h4
     simp only [Option.getD_some]
     omega
theorem confL_120 {n k:Nat} (hn:n<=8) (hk:k<=3):(confL n k).length<=120:=by
 have key:∀n:Fin 9,∀k:Fin 4,(confL n.1 k.1).length<=120:=by decide +kernel
 exact key ⟨n,by omega⟩ ⟨k,by omega⟩
theorem riseB_iff:∀{l:List (List Int)},riseB l=true↔l.Pairwise ltL:=by
 intro l
 induction l with
 | nil=>simp [riseB]
 | cons a l ih=>
  cases l with
  | nil=>simp [riseB]
  | cons b l=>
   unfold riseB
   rw [Bool.and_eq_true,ih,decide_eq_true_eq]
   constructor
   ·rintro ⟨h1,h2⟩
    refine List.pairwise_cons.2 ⟨fun c hc => ?_,h2⟩
    rcases List.mem_cons.1 hc with rfl | hc
    ·exact h1
    ·exact ltL_trans h1 ((List.pairwise_cons.1 h2).1 c hc)
   ·intro h
    obtain ⟨h1,h2⟩:=List.pairwise_cons.1 h
    exact ⟨h1 b (by simp),h2⟩
theorem memB_iff {cf:List (List Int)} {c:List Int}:memB cf c=true↔c∈cf:=by
 unfold memB
 rw [List.any_eq_true]
 constructor
 ·rintro ⟨x,h1,h2⟩
  rw [<- of_decide_eq_true h2]
  exact h1
 ·intro h
  exact ⟨c,h,decide_eq_true rfl⟩
theorem idxN_at {α:Type} {q:α->Bool}:∀{l:List α} {i:Nat},(∃x∈l,q x=true) -> ∃j,j<l.length/\idxN q l i=some (i+j) /\ ∃h:j<l.length,q l[j]=true:=by
 intro l
 induction l with
 | nil=>intro i ⟨x,hx,_⟩;simp at hx
 | cons a l ih=>
  intro i ⟨x,hx,hq⟩
  unfold idxN
  by_cases ha:q a=true
  ·rw [if_pos ha]
   exact ⟨0,by simp,by simp,by simp,by simpa using ha⟩
  ·rw [if_neg ha]
   have:∃x∈l,q x=true:=by
    rcases List.mem_cons.1 hx with rfl | hx
    ·exact absurd hq ha
    ·exact ⟨x,hx,hq⟩
   obtain ⟨j,h1,h2,h3,h4⟩:=ih (i:=i+1) this
   exact ⟨j+1,by simp;omega,by rw [h2];congr 1;omega,by simp;omega,by simpa using h4⟩
theorem place_at {cf:List (List Int)} {c:List Int} (h:c∈cf):∃i,i<cf.length/\placeL cf c=(i:Int)/\cf.getD i []=c:=by
 obtain ⟨j,h1,h2,h3,h4⟩:=idxN_at (q:=fun y=>decide (y=c)) (i:=0) ⟨c,h,decide_eq_true rfl⟩
 refine ⟨j,h1,?_,?_⟩
 ·unfold placeL
  rw [h2]
  simp [idxI]
 ·rw [List.getD_eq_getElem?_getD,List.getElem?_eq_getElem h3]
  simpa using h4
theorem place_rng {cf:List (List Int)} {c:List Int} (h:c∈cf):inB 0 ((cf.length:Int)-1) (placeL cf c)=true:=by
 obtain ⟨i,h1,h2,_⟩:=place_at h
 exact inB_iff.2 (by omega)
theorem ndB_of {l:List Int} (h:l.Pairwise (· <= ·)):ndB l=true:=by
 induction l with
 | nil=>rfl
 | cons a l ih=>
  rw [List.pairwise_cons] at h
  cases l with
  | nil=>rfl
  | cons b l=>
   unfold ndB
   rw [Bool.and_eq_true]
   exact ⟨decide_eq_true (h.1 b (by simp)),ih h.2⟩
theorem chL_all {p:Int->Bool} {ball:Int->List Int}:∀{cs:List Int} {now:List (List Int)},(∀c∈cs,∀x∈ball c,p x=true)->(∀l∈now,l.all p=true) -> ∀l∈chL ball cs now,l.all p=true:=by
 intro cs
 induction cs with
 | nil=>intro now _ h;exact h
 | cons c cs ih=>
  intro now hb h
  refine ih (fun c hc=>hb c (by simp [hc])) fun l hl => ?_
  obtain ⟨a,ha,h2⟩:=List.mem_flatMap.1 hl
  obtain ⟨x,hx,rfl⟩:=List.mem_map.1 h2
  rw [List.all_append,h a ha]
  simp [hb c (by simp) x hx]
theorem moves_mem {n:Nat} {ball:Int->List Int} {c:List Int} (hb:∀x∈c,(ball x).length<=8) (hb2:∀x∈c,∀y∈ball x,inB 0 ((n:Int)-1) y=true) {m:List Int} (h:m∈movesL ball c):m∈confL n c.length:=by
 have h2:=(sortS_perm _).mem_iff.1 ((comp_mem m).1 h)
 obtain ⟨x,hx,rfl⟩:=List.mem_map.1 h2
 obtain ⟨f1,f2⟩:=chL_facts (ball:=ball) (cs:=c) (now:=[[]]) (i:=0) hb (by simp)
 have f3:=chL_all (p:=inB 0 ((n:Int)-1)) (ball:=ball) (cs:=c) (now:=[[]]) hb2 (by simp) x hx
 refine confL_mem.2 ⟨by rw [sort_len,f2 x hx];simp,?_⟩
 unfold copsB
 rw [Bool.and_eq_true]
 refine ⟨List.all_eq_true.2 fun y hy=>List.all_eq_true.1 f3 y ((sortI_perm x).mem_iff.1 hy),ndB_of (sortI_sorted x)⟩
theorem moves_len {ball:Int->List Int} {cs:List Int} (h3:cs.length<=3) (hb:∀c∈cs,(ball c).length<=8):(movesL ball cs).length<=512:=by
 obtain ⟨f1,f2⟩:=chL_facts (ball:=ball) (cs:=cs) (now:=[[]]) (i:=0) hb (by simp)
 have hlen:(chL ball cs [[]]).length<=512:=by
  have:8 ^ cs.length<=8 ^ 3:=Nat.pow_le_pow_right (by omega) h3
  have e:([[]]:List (List Int)).length=1:=rfl
  rw [e] at f1
  omega
 unfold movesL compL
 rw [List.length_map]
 refine Nat.le_trans (keepI_le _ _) ?_
 rw [sortS_len,List.length_map]
 exact hlen
theorem copsB_in {n:Int} {l:List Int} (h:copsB n l=true):∀x∈l,inB 0 (n-1) x=true:=by
 unfold copsB at h
 rw [Bool.and_eq_true] at h
 exact List.all_eq_true.1 h.1
theorem board_ok {n:Nat} (hn:n<=8) {k:Nat} (hk:k<=3) {ball:Int->List Int} (hb:∀x:Nat,x<n->(ball (x:Int)).length<=8) (hb2:∀x:Nat,x<n -> ∀y∈ball (x:Int),inB 0 ((n:Int)-1) y=true):gmB n (confL n k) (movesI ball (confL n k))=true:=by
 unfold gmB
 simp only [Bool.and_eq_true,decide_eq_true_eq,List.all_eq_true]
 refine ⟨⟨⟨confL_120 hn hk,by simp [movesI]⟩,fun c hc => ?_⟩,fun l hl => ?_⟩
 ·obtain ⟨h1,h2⟩:=confL_mem.1 hc
  exact ⟨by omega,copsB_in h2⟩
 ·obtain ⟨c,hc,rfl⟩:=List.mem_map.1 hl
  obtain ⟨h1,h2⟩:=confL_mem.1 hc
  have h3:=copsB_in h2
  have g1:∀x∈c,(ball x).length<=8:=fun x hx=>by
   have:=inB_iff.1 (h3 x hx)
   have e:x=((x.toNat:Nat):Int):=by omega
   rw [e]
   exact hb _ (by omega)
  have g2:∀x∈c,∀y∈ball x,inB 0 ((n:Int)-1) y=true:=fun x hx=>by
   have:=inB_iff.1 (h3 x hx)
   have e:x=((x.toNat:Nat):Int):=by omega
   rw [e]
   exact hb2 _ (by omega)
  refine ⟨?_,fun p hp => ?_⟩
  ·rw [List.length_map]
   have:=moves_len (ball:=ball) (cs:=c) (by omega) g1
   omega
  ·obtain ⟨m,hm,rfl⟩:=List.mem_map.1 hp
   have:=moves_mem g1 g2 hm
   rw [h1] at this
   exact place_rng this
theorem okLL_conf {n k:Nat} (hn:n<=8) (hk:k<=3):okLL (confL n k)=true:=by
 have h:=confL_120 hn hk
 unfold okLL
 rw [Bool.and_eq_true]
 refine ⟨decide_eq_true (by unfold lim;omega),List.all_eq_true.2 fun l hl=>decide_eq_true ?_⟩
 rw [confL_len hl]
 unfold lim
 omega
end Go.V.W
namespace Go.V.W
open Go.Proofs
def growL (n:Nat) (l:List Int):List (List Int):=(upTo (l.getLastD 0).toNat n).map fun x=>l++[x]
theorem confL_succ (n k:Nat):confL n (k+1)=(confL n k).flatMap (growL n):=rfl
theorem upTo_cons {a n:Nat} (h:a<n):upTo a n=(a:Int)::upTo (a+1) n:=by
 unfold upTo
 rw [show n-a=(n-(a+1))+1 by omega,List.range'_succ]
 rfl
theorem upTo_nil (n:Nat):upTo n n=[]:=by simp [upTo]
theorem growL_len (n:Nat) (l:List Int):(growL n l).length<=n:=by simp [growL,upTo]
theorem conf_last {n k:Nat} {l:List Int} (h:l∈confL n k):0<=l.getLastD 0/\l.getLastD 0<=(n:Int):=by
 obtain ⟨h1,h2⟩:=confL_mem.1 h
 rw [List.getLastD_eq_getLast?]
 cases hg:l.getLast? with
 | none=>simp
 | some z=>
  have:=inB_iff.1 (copsB_in h2 z (List.mem_of_getLast? hg))
  simp only [Option.getD_some]
  omega
theorem last_at {l:List Int} (h:0<l.length):at_ I l (l.length-1)=l.getLastD 0:=by
 have e:at_ I l (l.length-1)=l[l.length-1]:=at_get (e:=I) (by omega)
 rw [e,List.getLastD_eq_getLast?,List.getLast?_eq_getElem?,List.getElem?_eq_getElem (by omega)]
 rfl
theorem small_wrap {j:Nat} (h:j<=100000):IntKind.wrap .i64 ((j:Int)+1)=((j+1:Nat):Int):=by
 rw [wrap_in _ (by omega) (by omega)]
 rfl
theorem conf_parts {d:Int×Int×Unit} {r} (h:G_configs d=some r):∃n k:Nat,n<=8/\k<=3/\d=((n:Int),(k:Int),())/\r=(confL n k,()):=by
 obtain ⟨n,k,_⟩:=d
 unfold G_configs at h
 split at h
 ·rename_i hc
  simp only [Bool.and_eq_true] at hc
  have h1:=inB_iff.1 hc.1
  have h2:=inB_iff.1 hc.2
  have h:=Option.some.inj h
  subst h
  refine ⟨n.toNat,k.toNat,by omega,by omega,?_,rfl⟩
  rw [show ((n.toNat:Nat):Int)=n by omega,show ((k.toNat:Nat):Int)=k by omega]
 ·cases h
theorem cl_l4 (N n:Nat) (hn:n<=8) (l:List Int) (hlen:l.length<=1000) (a b:Int) (now:List (List Int)) (c e:Int):∀q x f (next:List (List Int)),x+q=n->q<f->next.length+q<=1000 ->
  q57q_l4 N f ((n:Int),next,l,(x:Int),a,b,now,c,e,())=some (.inl ((n:Int),next++(upTo x n).map (fun x=>l++[x]),a,b,now,c,e,())):=by
 intro q
 induction q with
 | zero=>
  intro x f next e1 e2 e3
  obtain ⟨f,rfl⟩:∃m,f=m+1:=⟨f-1,by omega⟩
  have e:x=n:=by omega
  subst e
  rw [upTo_nil]
  show q57q_l4_r _ _ _=_
  unfold q57q_l4_r
  simp only [lt_not,Bool.false_eq_true,if_false,List.map_nil,List.append_nil]
 | succ q ih=>
  intro x f next e1 e2 e3
  obtain ⟨f,rfl⟩:∃m,f=m+1:=⟨f-1,by omega⟩
  have hx:x<n:=by omega
  have c0:okL l=true:=okL_of (by omega)
  have c1:decide (l.length+List.length [(x:Int)]<=lim)=true:=by unfold lim;simp;omega
  have c2:decide (next.length+List.length [l++[(x:Int)]]<=lim)=true:=by unfold lim;simp;omega
  show q57q_l4_r _ _ _=_
  unfold q57q_l4_r
  simp only [lt_dec hx,if_true,G_toIntS,c0,Option.bind_some,c1,c2,wrap8 hx hn]
  rw [ih (x+1) f _ (by omega) (by omega) (by simp;omega),upTo_cons hx,List.map_cons,List.append_assoc,List.singleton_append]
theorem cl_l2 (N:Nat) (hN:10<=N) (n:Nat) (hn:n<=8) (a b:Int) (now:List (List Int)) (hnow:now.length<=120) (hle:∀l∈now,l.length<=3/\0<=l.getLastD 0/\l.getLastD 0<=(n:Int)):∀q j f (next:List (List Int)),j+q=now.length->q<f->next.length+8*q<=990 ->
  q57q_l2 N f ((n:Int),next,a,b,now,(now.length:Int),(j:Int),())=some (.inl ((n:Int),next++(now.drop j).flatMap (growL n),a,b,())):=by
 intro q
 induction q with
 | zero=>
  intro j f next e1 e2 e3
  obtain ⟨f,rfl⟩:∃m,f=m+1:=⟨f-1,by omega⟩
  have e:j=now.length:=by omega
  subst e
  rw [List.drop_of_length_le (Nat.le_refl _)]
  show q57q_l2_r _ _ _=_
  unfold q57q_l2_r
  simp only [lt_not,Bool.false_eq_true,if_false,List.flatMap_nil,List.append_nil]
 | succ q ih=>
  intro j f next e1 e2 e3
  obtain ⟨f,rfl⟩:∃m,f=m+1:=⟨f-1,by omega⟩
  have hj:j<now.length:=by omega
  obtain ⟨h1,h2,h3⟩:=hle _ (List.getElem_mem hj)
  have ej:at_ K_Si now j=now[j]:=at_get (e:=K_Si) hj
  have hin:=cl_l4 N n hn now[j] (by omega) a b now (now.length:Int) (j:Int) (n-(now[j].getLastD 0).toNat) (now[j].getLastD 0).toNat N next (by omega) (by omega) (by omega)
  have e4:(((now[j].getLastD 0).toNat:Nat):Int)=now[j].getLastD 0:=by omega
  rw [e4] at hin
  have hg:(upTo (now[j].getLastD 0).toNat n).map (fun x=>now[j]++[x])=growL n now[j]:=rfl
  rw [hg] at hin
  have hgl:=growL_len n now[j]
  have fin:=ih (j+1) f (next++growL n now[j]) (by omega) (by omega) (by simp;omega)
  rw [List.append_assoc,<- List.flatMap_cons,<- List.drop_eq_getElem_cons hj] at fin
  show q57q_l2_r _ _ _=_
  unfold q57q_l2_r
  by_cases hi:0<now[j].length
  ·have hp:decide ((now[j].length:Int)>0)=true:=by simp;omega
   have hw:IntKind.wrap .i64 ((now[j].length:Int)-1)=((now[j].length-1:Nat):Int):=wrap_down hi (by unfold maxLen;omega)
   have hx:idxIn ((now[j].length-1:Nat):Int) now[j].length=true:=idxIn_nat (by omega)
   simp only [lt_dec hj,if_true,idxIn_nat hj,Int.toNat_natCast,ej,hp,hw,hx,last_at hi,hin,Option.bind_some,small_wrap (show j<=100000 by omega),fin]
  ·have hp:decide ((now[j].length:Int)>0)=false:=decide_eq_false (by omega)
   have hl:now[j].getLastD 0=0:=by
    have:now[j]=[]:=List.length_eq_zero_iff.1 (by omega)
    rw [this]
    rfl
   rw [hl] at hin
   simp only [lt_dec hj,if_true,idxIn_nat hj,Int.toNat_natCast,ej,hp,Bool.false_eq_true,if_false,hin,Option.bind_some,small_wrap (show j<=100000 by omega),fin]
theorem cl_l0 (N:Nat) (hN:200<=N) (n:Nat) (hn:n<=8) (k:Nat) (hk:k<=3):∀q i f,i+q=k->q<f ->
  q57q_l0 N f ((n:Int),confL n i,(k:Int),(i:Int),())=some (.inl (confL n k,())):=by
 intro q
 induction q with
 | zero=>
  intro i f e1 e2
  obtain ⟨f,rfl⟩:∃m,f=m+1:=⟨f-1,by omega⟩
  have e:i=k:=by omega
  subst e
  show q57q_l0_r _ _ _=_
  unfold q57q_l0_r
  simp only [lt_not,Bool.false_eq_true,if_false]
 | succ q ih=>
  intro i f e1 e2
  obtain ⟨f,rfl⟩:∃m,f=m+1:=⟨f-1,by omega⟩
  have hi:i<k:=by omega
  have h120:=confL_120 hn (show i<=3 by omega)
  have hin:=cl_l2 N (by omega) n hn (k:Int) (i:Int) (confL n i) h120 (fun l hl=>⟨by rw [confL_len hl];omega,conf_last hl⟩) (confL n i).length 0 N [] (by omega) (by omega) (by simp;omega)
  simp only [Int.natCast_zero,List.drop_zero,List.nil_append] at hin
  show q57q_l0_r _ _ _=_
  unfold q57q_l0_r
  simp only [lt_dec hi,if_true,hin,Option.bind_some,small_wrap (show i<=100000 by omega),<- confL_succ]
  exact ih (i+1) f (by omega) (by omega)
theorem copLists_lim (d) (r) (h:G_configs d=some r):∃N,F_q57q N d=some r:=by
 obtain ⟨n,k,hn,hk,rfl,rfl⟩:=conf_parts h
 refine ⟨200,?_⟩
 have:=cl_l0 200 (by omega) n hn k hk k 0 200 (by omega) (by omega)
 unfold F_q57q
 simp only [Int.natCast_zero] at this
 have e:confL n 0=[[]]:=rfl
 rw [e] at this
 simp only [this,Option.bind_some]
theorem mid_eq {i j:Nat} (h:i+j<=100000):IntKind.wrap .i64 (shr .u64 (IntKind.wrap .u64 (IntKind.wrap .i64 ((i:Int)+(j:Int)))) (1:Int))=(((i+j) / 2:Nat):Int):=by
 have e1:IntKind.wrap .i64 ((i:Int)+(j:Int))=((i+j:Nat):Int):=by
  rw [wrap_in _ (by omega) (by omega)]
  omega
 have e2:IntKind.wrap .u64 ((i+j:Nat):Int)=((i+j:Nat):Int):=Go.IntWalk.u64_in _ (by omega)
 have e3:shr .u64 ((i+j:Nat):Int) 1=(((i+j) / 2:Nat):Int):=by
  show ((i+j:Nat):Int).fdiv 2=_
  rw [Int.fdiv_eq_ediv_of_nonneg _ (by omega)]
  omega
 rw [e1,e2,e3]
 exact wrap_in _ (by omega) (by omega)
theorem bs_l0 (N:Nat) (cf:List (List Int)) (hr:cf.Pairwise ltL) (h1000:cf.length<=1000) (hok:okLL cf=true) (c:List Int) (hc:okL c=true) (p:Nat) (hp:p<cf.length) (hpc:cf[p]=c) (n:Int) (u:Unit×Unit):∀q i j f,i+q=j->i<=p->p<=j->j<=cf.length->q<f ->
  q0q_l0 N f (cf,c,u,n,(i:Int),(j:Int),())=some (.inl (cf,c,u,n,(p:Int),())):=by
 have hrise:=List.pairwise_iff_getElem.1 hr
 intro q
 induction q using Nat.strongRecOn with
 | ind q ih=>
  intro i j f e1 e2 e3 e4 e5
  obtain ⟨f,rfl⟩:∃m,f=m+1:=⟨f-1,by omega⟩
  by_cases hij:i<j
  ·have hm:(i+j) / 2<cf.length:=by omega
   have em:at_ K_Si cf ((i+j) / 2)=cf[(i+j) / 2]:=at_get (e:=K_Si) hm
   have hokm:okL cf[(i+j) / 2]=true:=by
    unfold okLL at hok
    rw [Bool.and_eq_true] at hok
    exact List.all_eq_true.1 hok.2 _ (List.getElem_mem hm)
   have hcmp:FV_q8q (cf[(i+j) / 2],c,u,())=some (cmpL cf[(i+j) / 2] c,()):=by
    unfold FV_q8q G_compare
    simp only [hokm,hc,Bool.and_self,if_true]
   have h01:decide ((0:Int)<=1)=true:=by decide
   show q0q_l0_r _ _ _=_
   unfold q0q_l0_r
   simp only [lt_dec hij,if_true,h01,mid_eq (show i+j<=100000 by omega),idxIn_nat hm,Int.toNat_natCast,em,hcmp,Option.bind_some]
   by_cases hlt:cmpL cf[(i+j) / 2] c<0
   ·have hpm:(i+j) / 2<p:=by
     rcases Nat.lt_trichotomy ((i+j) / 2) p with h | h | h
     ·exact h
     ·subst h
      rw [hpc,cmpL_self] at hlt
      omega
     ·have:=hrise p ((i+j) / 2) hp hm h
      rw [hpc] at this
      exact absurd (ltL_trans this hlt) (ltL_irr c)
    simp only [hlt,decide_true,if_true,small_wrap (show (i+j) / 2<=100000 by omega)]
    exact ih (j-((i+j) / 2+1)) (by omega) ((i+j) / 2+1) j f (by omega) (by omega) e3 e4 (by omega)
   ·have hpm:p<=(i+j) / 2:=by
     rcases Nat.lt_or_ge ((i+j) / 2) p with h | h
     ·have:=hrise ((i+j) / 2) p hm hp h
      rw [hpc] at this
      exact absurd this hlt
     ·exact h
    simp only [hlt,decide_false,Bool.false_eq_true,if_false]
    exact ih ((i+j) / 2-i) (by omega) i ((i+j) / 2) f (by omega) e2 hpm (by omega) (by omega)
  ·have e:i=j:=by omega
   subst e
   have e:i=p:=by omega
   subst e
   show q0q_l0_r _ _ _=_
   unfold q0q_l0_r
   simp only [lt_not,Bool.false_eq_true,if_false]
theorem binSearch_lim (d) (r) (h:G_bin d=some r):∃N,F_q0q N d=some r:=by
 obtain ⟨cf,c,u,_⟩:=d
 unfold G_bin at h
 split at h
 ·rename_i hc
  simp only [Bool.and_eq_true,decide_eq_true_eq] at hc
  obtain ⟨⟨⟨⟨h1,h2⟩,h3⟩,h4⟩,h5⟩:=hc
  have h:=Option.some.inj h
  subst h
  obtain ⟨p,p1,p2,p3⟩:=place_at (memB_iff.1 h5)
  have p4:cf[p]=c:=by
   rw [List.getD_eq_getElem?_getD,List.getElem?_eq_getElem p1] at p3
   simpa using p3
  refine ⟨2000,?_⟩
  have hl:=bs_l0 2000 cf (riseB_iff.1 h4) h1 h2 c h3 p p1 p4 (cf.length:Int) ((),()) cf.length 0 cf.length 2000 (by omega) (by omega) (by omega) (by omega) (by omega)
  have ep:at_ K_Si cf p=cf[p]:=at_get (e:=K_Si) p1
  have hokm:okL cf[p]=true:=by rw [p4];exact h3
  have hcmp:FV_q8q (cf[p],c,((),()),())=some (0,()):=by
   unfold FV_q8q G_compare
   simp only [hokm,h3,Bool.and_self,if_true,p4,cmpL_self]
  unfold F_q0q
  simp only [Int.natCast_zero] at hl
  simp only [hl,Option.bind_some,lt_dec p1,if_true,idxIn_nat p1,Int.toNat_natCast,ep,hcmp,p2,beq_self_eq_true]
 ·cases h
end Go.V.W
namespace Go.V.W
open Go.Proofs
theorem conf_nodes {n k:Nat} (hk:k<=3) {c:List Int} (h:c∈confL n k):nodesB (n:Int) c=true:=by
 obtain ⟨h1,h2⟩:=confL_mem.1 h
 exact cops_nodes h2 (by omega)
theorem place_some {cf:List (List Int)} (h1:cf.length<=120) (h2:okLL cf=true) (h3:cf.Pairwise ltL) {c:List Int} (hm:c∈cf) (net:Nt) (mv:List (List Int)) (T:Tab) (u v:Unit):F_q18q 0 ((net,cf,mv,T,u),c,v)=some (placeL cf c,()):=by
 unfold F_q18q G_bin
 have a1:decide (cf.length<=1000)=true:=decide_eq_true (by omega)
 have a2:okL c=true:=List.all_eq_true.1 (okLL_of h2).2 c hm
 simp only [a1,h2,a2,riseB_iff.2 h3,memB_iff.2 hm,Bool.and_self,if_true,Option.bind_some]
theorem cb_l2 (N:Nat) (w:Nt) (cf:List (List Int)) (h1:cf.length<=120) (h2:okLL cf=true) (h3:cf.Pairwise ltL) (net:Nt) (mv:List (List Int)) (T:Tab) (u:Unit) (a:List (List Int)) (b c:Int) (L:List (List Int)) (hL:L.length<=512) (hLm:∀m∈L,m∈cf):∀q j f (acc:List Int),j+q=L.length->q<f->acc.length+q<=1000 ->
  q19q_l2 N f (w,(net,cf,mv,T,u),acc,a,b,c,L,(L.length:Int),(j:Int),())=some (.inl (w,(net,cf,mv,T,u),acc++(L.drop j).map (placeL cf),a,b,c,())):=by
 intro q
 induction q with
 | zero=>
  intro j f acc e1 e2 e3
  obtain ⟨f,rfl⟩:∃m,f=m+1:=⟨f-1,by omega⟩
  have e:j=L.length:=by omega
  subst e
  rw [List.drop_of_length_le (Nat.le_refl _)]
  show q19q_l2_r _ _ _=_
  unfold q19q_l2_r
  simp only [lt_not,Bool.false_eq_true,if_false,List.map_nil,List.append_nil]
 | succ q ih=>
  intro j f acc e1 e2 e3
  obtain ⟨f,rfl⟩:∃m,f=m+1:=⟨f-1,by omega⟩
  have hj:j<L.length:=by omega
  have ej:at_ K_Si L j=L[j]:=at_get (e:=K_Si) hj
  have c1:decide (acc.length+List.length [placeL cf L[j]]<=lim)=true:=by unfold lim;simp;omega
  show q19q_l2_r _ _ _=_
  unfold q19q_l2_r
  simp only [lt_dec hj,if_true,idxIn_nat hj,Int.toNat_natCast,ej,place_some h1 h2 h3 (hLm _ (List.getElem_mem hj)),Option.bind_some,c1,small_wrap (show j<=100000 by omega)]
  rw [ih (j+1) f _ (by omega) (by omega) (by simp;omega),List.drop_eq_getElem_cons hj,List.map_cons,List.append_assoc,List.singleton_append]
theorem ballM_in {l:List Int} (h:netB l=true) {x:Nat} (hx:x<l.length):∀y∈ballM l (x:Int),inB 0 ((l.length:Int)-1) y=true:=fun y hy=>by
 obtain ⟨z,hz,rfl⟩:=ballM_ok h x hx y hy
 exact inB_iff.2 (by omega)
theorem ballF_in {n:Nat} (es:List E) (x:Int):∀y∈ballF n es x,inB 0 ((n:Int)-1) y=true:=fun y hy=>by
 obtain ⟨z,hz,rfl⟩:=setF_nat y hy
 exact inB_iff.2 (by omega)
theorem conf_moves {l:List Int} (h:netB l=true) {k:Nat} {c:List Int} (hc:c∈confL l.length k):∀m∈movesL (ballM l) c,m∈confL l.length k:=by
 obtain ⟨h1,h2⟩:=confL_mem.1 hc
 have h3:=copsB_in h2
 intro m hm
 have:=moves_mem (n:=l.length) (fun x _=>ballM_len l x) (fun x hx=>by
  have:=inB_iff.1 (h3 x hx)
  have e:x=((x.toNat:Nat):Int):=by omega
  rw [e]
  exact ballM_in h (by omega)) hm
 rw [h1] at this
 exact this
theorem cb_l0 (N:Nat) (hN:1000<=N) (l:List Int) (hl:netB l=true) (v:Unit) (k:Nat) (hk:k<=3) (T:Tab) (u:Unit):∀q i f (acc:List (List Int)),i+q=(confL l.length k).length->q<f->acc.length+q<=1000 ->
  q19q_l0 N f ((l,v),((l,v),confL l.length k,acc,T,u),confL l.length k,((confL l.length k).length:Int),(i:Int),())=some (.inl (((l,v),confL l.length k,acc++((confL l.length k).drop i).map (fun c=>(movesL (ballM l) c).map (placeL (confL l.length k))),T,u),())):=by
 obtain ⟨p1,p2,p3,p4⟩:=netB_parts hl
 have h120:=confL_120 p3 hk
 have hok:=okLL_conf p3 hk
 have hrise:=confL_rise l.length k
 intro q
 induction q with
 | zero=>
  intro i f acc e1 e2 e3
  obtain ⟨f,rfl⟩:∃m,f=m+1:=⟨f-1,by omega⟩
  have e:i=(confL l.length k).length:=by omega
  subst e
  rw [List.drop_of_length_le (Nat.le_refl _)]
  show q19q_l0_r _ _ _=_
  unfold q19q_l0_r
  simp only [lt_not,Bool.false_eq_true,if_false,List.map_nil,List.append_nil]
 | succ q ih=>
  intro i f acc e1 e2 e3
  obtain ⟨f,rfl⟩:∃m,f=m+1:=⟨f-1,by omega⟩
  have hi:i<(confL l.length k).length:=by omega
  have ei:at_ K_Si (confL l.length k) i=(confL l.length k)[i]:=at_get (e:=K_Si) hi
  have hnb:=conf_nodes hk (List.getElem_mem hi)
  have hmv:G_copMoves ((l,v),(confL l.length k)[i],())=some (movesL (ballM l) (confL l.length k)[i],()):=by
   unfold G_copMoves
   simp only [hl,hnb,Bool.and_self,if_true]
  obtain ⟨n1,n2⟩:=nodes_parts hnb
  have hml:=moves_len (ball:=ballM l) n1 (fun c hc=>ballM_len l c)
  have hin:=cb_l2 N (l,v) (confL l.length k) h120 hok hrise (l,v) acc T u (confL l.length k) ((confL l.length k).length:Int) (i:Int) (movesL (ballM l) (confL l.length k)[i]) hml (conf_moves hl (List.getElem_mem hi)) (movesL (ballM l) (confL l.length k)[i]).length 0 N [] (by omega) (by omega) (by simp;omega)
  simp only [Int.natCast_zero,List.drop_zero,List.nil_append] at hin
  have c1:∀x:List Int,decide (acc.length+List.length [x]<=lim)=true:=fun x=>by unfold lim;simp;omega
  show q19q_l0_r _ _ _=_
  unfold q19q_l0_r
  simp only [lt_dec hi,if_true,idxIn_nat hi,Int.toNat_natCast,ei,hmv,Option.bind_some,hin,c1,small_wrap (show i<=100000 by omega)]
  rw [ih (i+1) f _ (by omega) (by omega) (by simp;omega),List.drop_eq_getElem_cons hi,List.map_cons,List.append_assoc,List.singleton_append]
theorem copBoard_lim (d) (r) (h:G_copBoard d=some r):∃N,F_q19q N d=some r:=by
 obtain ⟨⟨l,v⟩,k,_⟩:=d
 unfold G_copBoard at h
 split at h
 ·rename_i hc
  simp only [Bool.and_eq_true] at hc
  obtain ⟨hl,hk⟩:=hc
  have hk2:=inB_iff.1 hk
  obtain ⟨p1,p2,p3,p4⟩:=netB_parts hl
  have h:=Option.some.inj h
  subst h
  refine ⟨1000,?_⟩
  have h120:=confL_120 p3 (show k.toNat<=3 by omega)
  have hcf:G_configs ((l.length:Int),k,())=some (confL l.length k.toNat,()):=by
   unfold G_configs
   have i1:inB 0 8 (l.length:Int)=true:=inB_iff.2 (by omega)
   simp only [i1,hk,Bool.and_self,if_true,Int.toNat_natCast]
  have h0:=cb_l0 1000 (by omega) l hl v k.toNat (by omega) [] () (confL l.length k.toNat).length 0 1000 [] (by omega) (by omega) (by simp;omega)
  simp only [Int.natCast_zero,List.drop_zero,List.nil_append] at h0
  unfold F_q19q g_q55q
  simp only [hcf,Option.bind_some,h0]
  rfl
 ·cases h
end Go.V.W
namespace Go.V.W
open Go.Proofs
theorem tabM_len (m n:Nat) (f:Nat->Nat->Int):(tabM m n f).length=m:=by simp [tabM]
theorem tabM_row {m n c:Nat} (f:Nat->Nat->Int) (h:c<m):(tabM m n f)[c]? = some ((List.range n).map fun x=>f c x):=by
 unfold tabM
 rw [List.getElem?_map,List.getElem?_range h]
 rfl
theorem tab2_tabM {m n c x:Nat} (f:Nat->Nat->Int) (hc:c<m) (hx:x<n):tab2 (tabM m n f) (c:Int) (x:Int)=f c x:=by
 unfold tab2
 simp only [Int.toNat_natCast,List.getD_eq_getElem?_getD,tabM_row f hc,Option.getD_some,rowR_get _ hx]
theorem tabM_congr {m n:Nat} {f g:Nat->Nat->Int} (h:∀c x,c<m->x<n->f c x=g c x):tabM m n f=tabM m n g:=by
 unfold tabM
 refine List.map_congr_left fun c hc=>List.map_congr_left fun x hx=>h c x (List.mem_range.1 hc) (List.mem_range.1 hx)
theorem rcB_parts {m n:Nat} {T:Tab} (h:rcB m n T=true):T.length=m /\ ∀c,c<m->(at_ K_Si T c).length=n:=by
 unfold rcB at h
 simp only [Bool.and_eq_true,decide_eq_true_eq,List.all_eq_true] at h
 refine ⟨h.1,fun c hc => ?_⟩
 have hlt:c<T.length:=by omega
 have e:at_ K_Si T c=T[c]:=at_get (e:=K_Si) hlt
 rw [e]
 exact h.2 _ (List.getElem_mem hlt)
theorem tab2_rc {m n:Nat} {T:Tab} (h:rcB m n T=true) {c x:Nat} (hc:c<m) (hx:x<n):at_ I (at_ K_Si T c) x=tab2 T (c:Int) (x:Int):=by
 obtain ⟨h1,h2⟩:=rcB_parts h
 have hlt:c<T.length:=by omega
 have e:at_ K_Si T c=T[c]:=at_get (e:=K_Si) hlt
 have h3:=h2 c hc
 rw [e] at h3 |-
 have e2:at_ I T[c] x=T[c][x]:=at_get (e:=I) (by omega)
 rw [e2]
 unfold tab2
 simp only [Int.toNat_natCast,List.getD_eq_getElem?_getD,List.getElem?_eq_getElem hlt,Option.getD_some]
 rw [List.getElem?_eq_getElem (by omega)]
 rfl
theorem rc_tabM (m n:Nat) (f:Nat->Nat->Int):rcB m n (tabM m n f)=true:=by
 unfold rcB tabM
 simp
theorem row_rc {m n:Nat} {T:Tab} (h:rcB m n T=true) {c:Nat} (hc:c<m):at_ K_Si T c=(List.range n).map fun (x:Nat)=>tab2 T (c:Int) (x:Int):=by
 obtain ⟨h1,h2⟩:=rcB_parts h
 have h3:=h2 c hc
 apply List.ext_getElem
 ·simp [h3]
 ·intro i i1 i2
  have hi:i<n:=by omega
  rw [List.getElem_map,List.getElem_range,<- tab2_rc h hc hi]
  exact (at_get (e:=I) i1).symm
theorem tabM_self {m n:Nat} {T:Tab} (h:rcB m n T=true):tabM m n (fun c x=>tab2 T (c:Int) (x:Int))=T:=by
 obtain ⟨h1,h2⟩:=rcB_parts h
 apply List.ext_getElem
 ·rw [tabM_len,h1]
 ·intro c c1 c2
  have hc:c<m:=by omega
  have e:at_ K_Si T c=T[c]:=at_get (e:=K_Si) c2
  rw [<- e,row_rc h hc]
  simp [tabM]
def negsM (m n:Nat) (T:Tab):Nat:=(List.range (m*n)).countP fun i=>decide (tab2 T ((i / n:Nat):Int) ((i % n:Nat):Int)<0)
theorem anyG_spec {cf mv:List (List Int)} {ball:Int->List Int} {n:Nat} {T:Tab}:anyG cf mv ball n T=true ↔ ∃c x,c<cf.length/\x<n/\canG cf mv ball T c x=true:=by
 unfold anyG
 simp only [List.any_eq_true,List.mem_range]
 constructor
 ·rintro ⟨c,hc,r,hr,h⟩
  exact ⟨c,r,hc,hr,h⟩
 ·rintro ⟨c,r,hc,hr,h⟩
  exact ⟨c,hc,r,hr,h⟩
theorem stepG_at {cf mv:List (List Int)} {ball:Int->List Int} {n:Nat} {t:Int} {T:Tab} {c x:Nat} (hc:c<cf.length) (hx:x<n):tab2 (stepG cf mv ball n t T) (c:Int) (x:Int)=if canG cf mv ball T c x=true then t else tab2 T (c:Int) (x:Int):=tab2_tabM _ hc hx
theorem negsM_step {cf mv:List (List Int)} {ball:Int->List Int} {n:Nat} {t:Int} (ht:0<=t) {T:Tab} (h:anyG cf mv ball n T=true):negsM cf.length n (stepG cf mv ball n t T)<negsM cf.length n T:=by
 obtain ⟨c,x,hc,hx,hcan⟩:=anyG_spec.1 h
 have hdiv:∀i,i<cf.length*n->i / n<cf.length/\i % n<n:=fun i hi=>by
  have hn:0<n:=by omega
  exact ⟨(Nat.div_lt_iff_lt_mul hn).2 hi,Nat.mod_lt _ hn⟩
 have hsub:=countP_lt (p:=fun i=>decide (tab2 T ((i / n:Nat):Int) ((i % n:Nat):Int)<0)) (q:=fun i=>decide (tab2 (stepG cf mv ball n t T) ((i / n:Nat):Int) ((i % n:Nat):Int)<0)) (l:=List.range (cf.length*n)) (fun i hi h=>by
  obtain ⟨d1,d2⟩:=hdiv i (List.mem_range.1 hi)
  have h:=of_decide_eq_true h
  rw [stepG_at d1 d2] at h
  split at h
  ·omega
  ·exact decide_eq_true h)
 refine hsub.2 ⟨c*n+x,?_,?_,?_⟩
 ·rw [List.mem_range]
  have:(c+1)*n<=cf.length*n:=Nat.mul_le_mul_right _ hc
  rw [Nat.succ_mul] at this
  omega
 all_goals
  have e1:(c*n+x) / n=c:=by
   rw [Nat.mul_comm,Nat.mul_add_div (by omega),Nat.div_eq_of_lt hx]
   omega
  have e2:(c*n+x) % n=x:=by
   rw [Nat.mul_comm,Nat.mul_add_mod,Nat.mod_eq_of_lt hx]
  simp only [e1,e2]
 ·unfold canG at hcan
  simp only [Bool.and_eq_true] at hcan
  exact hcan.1
 ·rw [stepG_at hc hx,if_pos hcan]
  simpa using ht
theorem negsM_le (m n:Nat) (T:Tab):negsM m n T<=m*n:=by
 unfold negsM
 have:=List.countP_le_length (p:=fun i=>decide (tab2 T ((i / n:Nat):Int) ((i % n:Nat):Int)<0)) (l:=List.range (m*n))
 simpa using this
theorem stepG_none {cf mv:List (List Int)} {ball:Int->List Int} {n:Nat} {t:Int} {T:Tab} (hT:rcB cf.length n T=true) (h:anyG cf mv ball n T=false):stepG cf mv ball n t T=T:=by
 refine Eq.trans (tabM_congr fun c x hc hx=>if_neg fun hh => ?_) (tabM_self hT)
 have:=anyG_spec.2 ⟨c,x,hc,hx,hh⟩
 rw [h] at this
 cases this
theorem gmB_parts {n:Nat} {cf mv:List (List Int)} (h:gmB n cf mv=true):cf.length<=120/\mv.length=cf.length/\(∀c,c<cf.length->(at_ K_Si cf c).length<=3/\cf.getD c []=at_ K_Si cf c /\ ∀x∈at_ K_Si cf c,inB 0 ((n:Int)-1) x=true) /\
  (∀c,c<cf.length->(at_ K_Si mv c).length<=1000/\mv.getD c []=at_ K_Si mv c /\ ∀d∈at_ K_Si mv c,inB 0 ((cf.length:Int)-1) d=true):=by
 unfold gmB at h
 simp only [Bool.and_eq_true,decide_eq_true_eq,List.all_eq_true] at h
 obtain ⟨⟨⟨h1,h2⟩,h3⟩,h4⟩:=h
 refine ⟨h1,h2,fun c hc => ?_,fun c hc => ?_⟩
 ·have e:at_ K_Si cf c=cf[c]:=at_get (e:=K_Si) hc
  have:=h3 _ (List.getElem_mem hc)
  rw [e]
  refine ⟨this.1,?_,this.2⟩
  rw [List.getD_eq_getElem?_getD,List.getElem?_eq_getElem hc]
  rfl
 ·have hc2:c<mv.length:=by omega
  have e:at_ K_Si mv c=mv[c]:=at_get (e:=K_Si) hc2
  have:=h4 _ (List.getElem_mem hc2)
  rw [e]
  refine ⟨this.1,?_,this.2⟩
  rw [List.getD_eq_getElem?_getD,List.getElem?_eq_getElem hc2]
  rfl
end Go.V.W
namespace Go.V.W
open Go.Proofs
theorem cgB_parts {l:List Int} {v u:Unit} {cf mv:List (List Int)} {T:Tab} (h:cgB ((l,v),cf,mv,T,u)=true):netB l=true/\1<=l.length/\gmB l.length cf mv=true/\rcB cf.length l.length T=true:=by
 unfold cgB at h
 simp only [Bool.and_eq_true,decide_eq_true_eq] at h
 exact ⟨h.1.1.1,h.1.1.2,h.1.2,h.2⟩
theorem timeAfter_some {l:List Int} (hl:netB l=true) {cf:List (List Int)} {T:Tab} (hT:rcB cf.length l.length T=true) {d x:Nat} (hd:d<cf.length) (hx:x<l.length) (v u:Unit):G_timeAfter ((l,v),at_ K_Si T d,(x:Int),u)=some (worstL (tab2 T (d:Int)) (ballM l (x:Int)) 0,()):=by
 obtain ⟨t1,t2⟩:=rcB_parts hT
 have hlen:decide ((at_ K_Si T d).length=l.length)=true:=decide_eq_true (t2 d hd)
 have i2:inB 0 ((l.length:Int)-1) (x:Int)=true:=inB_iff.2 (by omega)
 have hlt:d<T.length:=by omega
 have ea:at_ K_Si T d=T.getD d []:=by
  have:at_ K_Si T d=T[d]:=at_get (e:=K_Si) hlt
  rw [this,List.getD_eq_getElem?_getD,List.getElem?_eq_getElem hlt]
  rfl
 unfold G_timeAfter
 simp only [hl,hlen,i2,Bool.and_self,if_true]
 rw [ea]
 rfl
theorem can1g_some {l:List Int} {v u:Unit} {cf mv:List (List Int)} {T:Tab} (h:cgB ((l,v),cf,mv,T,u)=true) {d x:Nat} (hd:d<cf.length) (hx:x<l.length) (a b e:Unit):FV_q17q ((d:Int),(a,((l,v),cf,mv,T,u),(x:Int),b),e)=some (decide (0<=afterG cf (ballM l) T (d:Int) (x:Int)),()):=by
 obtain ⟨h1,h2,h3,h4⟩:=cgB_parts h
 obtain ⟨g1,g2,g3,g4⟩:=gmB_parts h3
 obtain ⟨y1,y2,y3⟩:=g3 d hd
 obtain ⟨t1,t2⟩:=rcB_parts h4
 have i1:idxIn (d:Int) T.length=true:=idxIn_nat (by omega)
 unfold FV_q17q F_q17q afterG
 simp only [idxIn_nat hd,if_true,Int.toNat_natCast,has2 (okL_of (show (at_ K_Si cf d).length<=1048576 by omega)),Option.bind_some,y2,i1,timeAfter_some h1 h4 hd hx]
 by_cases hh:hasL (at_ K_Si cf d) (x:Int)=true
 ·simp only [hh,if_true]
  rfl
 ·simp only [hh,Bool.false_eq_true,if_false]
theorem gameCan_lim (d) (r) (h:G_gameCan d=some r):∃N,F_q5q N d=some r:=by
 obtain ⟨xs,⟨a,⟨⟨l,v⟩,cf,mv,T,u⟩,q,b⟩,_⟩:=d
 unfold G_gameCan at h
 split at h
 ·rename_i hc
  simp only [Bool.and_eq_true,decide_eq_true_eq] at hc
  obtain ⟨⟨⟨hg,hq'⟩,hlen⟩,hxs⟩:=hc
  obtain ⟨q,rfl,hq⟩:=nodeX hq'
  have h:=Option.some.inj h
  subst h
  have hlen:xs.length<=1000:=hlen
  have hmx:xs.length<=maxLen:=by unfold maxLen;omega
  refine ⟨xs.length+1,?_⟩
  unfold F_q5q
  have:=loop_idx (L:=q5q_l0 (xs.length+1)) (r:=q5q_l0_r (xs.length+1)) (fun _ _=>rfl) (e:=I) xs (mk:=fun i=>(xs,(a,((l,v),cf,mv,T,u),(q:Int),b),(xs.length:Int),(i:Int),())) (q:=fun b=>decide (0<=afterG cf (ballM l) T b (q:Int))) (o:=fun i=>.inl ((i:Int),())) (f:=.inr (.inl ()))
   (by
    intro back i hi
    have hx:at_ I xs i=xs[i]:=at_get (e:=I) hi
    obtain ⟨y,b1,b2⟩:=nodeX (List.all_eq_true.1 hxs xs[i] (List.getElem_mem hi))
    have hcan:=can1g_some hg b2 hq a b ()
    rw [<- b1] at hcan
    unfold q5q_l0_r
    simp only [lt_dec hi,if_true,idxIn_nat hi,Int.toNat_natCast,wrap_up hi hmx,hx,hcan,Option.bind_some])
   (by intro back;unfold q5q_l0_r;simp only [lt_not,Bool.false_eq_true,if_false]) xs.length 0 (by omega) (by omega)
  simp only [Int.natCast_zero,List.drop_zero] at this
  simp only [this,Option.bind_some]
  cases idxN (fun b=>decide (0<=afterG cf (ballM l) T b (q:Int))) xs 0<;>rfl
 ·cases h
theorem gcan_some {l:List Int} {v u:Unit} {cf mv:List (List Int)} {T:Tab} (h:cgB ((l,v),cf,mv,T,u)=true) {c x:Nat} (hc:c<cf.length) (hx:x<l.length) (b:Unit):F_q33q 0 (((l,v),cf,mv,T,u),(c:Int),(x:Int),b)=some ((at_ K_Si mv c).any (fun d=>decide (0<=afterG cf (ballM l) T d (x:Int))),()):=by
 obtain ⟨h1,h2,h3,h4⟩:=cgB_parts h
 obtain ⟨g1,g2,g3,g4⟩:=gmB_parts h3
 obtain ⟨m1,m2,m3⟩:=g4 c hc
 have i1:idxIn (c:Int) mv.length=true:=idxIn_nat (by omega)
 have i2:inB 0 ((l.length:Int)-1) (x:Int)=true:=inB_iff.2 (by omega)
 have hall:(at_ K_Si mv c).all (inB 0 ((cf.length:Int)-1))=true:=List.all_eq_true.2 m3
 have hlen:decide ((at_ K_Si mv c).length<=1000)=true:=decide_eq_true m1
 unfold F_q33q F_q3q
 simp only [i1,if_true,Int.toNat_natCast,G_gameCan,h,i2,hlen,hall,Bool.and_self,Option.bind_some,idxI_ge]
theorem has_take {c:List Int} {j:Nat} (hj:j<c.length) (x:Int):hasL (c.take (j+1)) x=(hasL (c.take j) x||c[j]==x):=by
 unfold hasL
 rw [List.take_add_one,List.any_append,List.getElem?_eq_getElem hj]
 simp
theorem cg_l2 (N:Nat) (w:Nt) (y:Cg) (a:List (List Int)) (b e:Int) (n:Nat) (c:List Int) (hc3:c.length<=3) (hc:∀x∈c,inB 0 ((n:Int)-1) x=true):∀q j f,j+q=c.length->q<f ->
  q36q_l2 N f (w,y,(List.range n).map (fun (x:Nat)=>if hasL (c.take j) (x:Int)=true then (0:Int) else -1),a,b,e,c,(c.length:Int),(j:Int),())=some (.inl (w,y,(List.range n).map (fun (x:Nat)=>if hasL c (x:Int)=true then (0:Int) else -1),a,b,e,())):=by
 intro q
 induction q with
 | zero=>
  intro j f e1 e2
  obtain ⟨f,rfl⟩:∃m,f=m+1:=⟨f-1,by omega⟩
  have e:j=c.length:=by omega
  subst e
  rw [List.take_of_length_le (Nat.le_refl _)]
  show q36q_l2_r _ _ _=_
  unfold q36q_l2_r
  simp only [lt_not,Bool.false_eq_true,if_false]
 | succ q ih=>
  intro j f e1 e2
  obtain ⟨f,rfl⟩:∃m,f=m+1:=⟨f-1,by omega⟩
  have hj:j<c.length:=by omega
  obtain ⟨z,hz,hzn⟩:=nodeX (hc c[j] (List.getElem_mem hj))
  have ej:at_ I c j=(z:Int):=(at_get (e:=I) hj).trans hz
  have i1:∀g:Nat->Int,idxIn (z:Int) ((List.range n).map g).length=true:=fun g=>idxIn_nat (by simpa using hzn)
  have fin:=ih (j+1) f (by omega) (by omega)
  have er:(List.range n).map (fun (x:Nat)=>if hasL (c.take (j+1)) (x:Int)=true then (0:Int) else -1)=((List.range n).map (fun (x:Nat)=>if hasL (c.take j) (x:Int)=true then (0:Int) else -1)).set z 0:=by
   rw [map_set]
   refine List.map_congr_left fun x _ => ?_
   rw [has_take hj,hz]
   by_cases exz:x=z
   ·subst exz;simp
   ·have:((z:Int)==(x:Int))=false:=by simp;omega
    rw [this,Bool.or_false,if_neg exz]
  rw [er] at fin
  show q36q_l2_r _ _ _=_
  unfold q36q_l2_r
  simp only [lt_dec hj,if_true,idxIn_nat hj,Int.toNat_natCast,ej,i1,small_wrap (show j<=100000 by omega)]
  exact fin
theorem cg_l0 (N:Nat) (hN:10<=N) (l:List Int) (v:Unit) (h1:1<=l.length) (h8:l.length<=8) (net:Nt) (cf mv:List (List Int)) (u:Unit) (hg:gmB l.length cf mv=true):∀q i f (acc:Tab),i+q=cf.length->q<f->acc.length+q<=1000 ->
  q36q_l0 N f ((l,v),(net,cf,mv,acc,u),cf,(cf.length:Int),(i:Int),())=some (.inl ((net,cf,mv,acc++(List.range' i q).map (fun c=>(List.range l.length).map (fun (x:Nat)=>if hasL (cf.getD c []) (x:Int)=true then (0:Int) else -1)),u),())):=by
 obtain ⟨g1,g2,g3,g4⟩:=gmB_parts hg
 intro q
 induction q with
 | zero=>
  intro i f acc e1 e2 e3
  obtain ⟨f,rfl⟩:∃m,f=m+1:=⟨f-1,by omega⟩
  have e:i=cf.length:=by omega
  subst e
  show q36q_l0_r _ _ _=_
  unfold q36q_l0_r
  simp only [lt_not,Bool.false_eq_true,if_false,List.range'_zero,List.map_nil,List.append_nil]
 | succ q ih=>
  intro i f acc e1 e2 e3
  obtain ⟨f,rfl⟩:∃m,f=m+1:=⟨f-1,by omega⟩
  have hi:i<cf.length:=by omega
  obtain ⟨y1,y2,y3⟩:=g3 i hi
  have hr:G_repeat ([-1],(l.length:Int),())=some ((List.range l.length).map (fun (x:Nat)=>if hasL ((at_ K_Si cf i).take 0) (x:Int)=true then (0:Int) else -1),()):=by
   unfold G_repeat
   have e1:decide (1<=(l.length:Int))=true:=by simp;omega
   have e2:decide ((l.length:Int)<=8)=true:=by simp;omega
   simp only [List.length_singleton,decide_true,e1,e2,Bool.and_self,if_true,Int.toNat_natCast,List.headD_cons]
   congr 2
   apply List.ext_getElem
   ·simp
   ·intro i h1 h2
    simp [hasL]
  have hin:=cg_l2 N (l,v) (net,cf,mv,acc,u) cf (cf.length:Int) (i:Int) l.length (at_ K_Si cf i) y1 y3 (at_ K_Si cf i).length 0 N (by omega) (by omega)
  simp only [Int.natCast_zero] at hin
  have c1:∀x:List Int,decide (acc.length+List.length [x]<=lim)=true:=fun x=>by unfold lim;simp;omega
  show q36q_l0_r _ _ _=_
  unfold q36q_l0_r g_q55q
  simp only [lt_dec hi,if_true,idxIn_nat hi,Int.toNat_natCast,hr,Option.bind_some,hin,c1,small_wrap (show i<=100000 by omega)]
  rw [ih (i+1) f _ (by omega) (by omega) (by simp;omega),List.range'_succ,List.map_cons,List.append_assoc,List.singleton_append,y2]
theorem cg_l8 (N:Nat) {l:List Int} {v u:Unit} {cf mv:List (List Int)} {T:Tab} (h:cgB ((l,v),cf,mv,T,u)=true) (t:Int) (fd:Bool) (c:Nat) (hc:c<cf.length) (a b:Int):∀(k x f:Nat) (fresh:List E),x+k=l.length->k<f->fresh.length+k<=2000 ->
  q36q_l8 N f (((l,v),cf,mv,T,u),t,fd,fresh,(c:Int),a,b,(l.length:Int),(x:Int),(),(c:Int),()) =
   some (.inl (((l,v),cf,mv,T,u),t,fd,fresh++rowE (canG cf mv (ballM l) T) c k x,a,b,(),())):=by
 obtain ⟨h1,h2,h3,h4⟩:=cgB_parts h
 obtain ⟨g1,g2,g3,g4⟩:=gmB_parts h3
 obtain ⟨m1,m2,m3⟩:=g4 c hc
 obtain ⟨t1,t2⟩:=rcB_parts h4
 obtain ⟨p1,p2,p3,p4⟩:=netB_parts h1
 intro k
 induction k with
 | zero=>
  intro x f fresh e1 e2 e3
  obtain ⟨f,rfl⟩:∃m,f=m+1:=⟨f-1,by omega⟩
  have e:x=l.length:=by omega
  subst e
  show q36q_l8_r _ _ _=_
  unfold q36q_l8_r
  simp only [lt_not,Bool.false_eq_true,if_false,rowE,List.append_nil]
 | succ k ih=>
  intro x f fresh e1 e2 e3
  obtain ⟨f,rfl⟩:∃m,f=m+1:=⟨f-1,by omega⟩
  have hx:x<l.length:=by omega
  have i2:idxIn (x:Int) (at_ K_Si T c).length=true:=idxIn_nat (by rw [t2 c hc];exact hx)
  have hv:=tab2_rc h4 hc hx
  have hle:decide (fresh.length+List.length [(((c:Int),(x:Int),()):E)]<=lim)=true:=by
   unfold lim
   simp
   omega
  show q36q_l8_r _ _ _=_
  unfold q36q_l8_r
  simp only [lt_dec hx,if_true,Int.toNat_natCast,i2,hv,gcan_some h hc hx,Option.bind_some,hle,small_wrap (show x<=100000 by omega),rowE]
  have hcan:canG cf mv (ballM l) T c x=(decide (tab2 T (c:Int) (x:Int)<0)&&(at_ K_Si mv c).any (fun d=>decide (0<=afterG cf (ballM l) T d (x:Int)))):=by
   unfold canG
   rw [m2]
  by_cases hf:tab2 T (c:Int) (x:Int)<0
  ·cases hany:(at_ K_Si mv c).any (fun d=>decide (0<=afterG cf (ballM l) T d (x:Int))) with
   | true=>
    rw [hany] at hcan
    simp only [hf,decide_true,Bool.and_self] at hcan
    simp only [hf,decide_true,if_true,hcan]
    rw [ih (x+1) f _ (by omega) (by omega) (by simp;omega)]
    simp
   | false=>
    rw [hany,Bool.and_false] at hcan
    simp only [hf,decide_true,if_true,hcan,Bool.false_eq_true,if_false]
    exact ih (x+1) f fresh (by omega) (by omega) (by omega)
  ·simp only [hf,decide_false,Bool.false_and] at hcan
   simp only [hf,decide_false,Bool.false_eq_true,if_false,hcan]
   exact ih (x+1) f fresh (by omega) (by omega) (by omega)
theorem cg_l6 (N:Nat) (hN:10<=N) {l:List Int} {v u:Unit} {cf mv:List (List Int)} {T:Tab} (h:cgB ((l,v),cf,mv,T,u)=true) (t:Int) (fd:Bool):∀(k c f:Nat) (fresh:List E),c+k=cf.length->k<f->fresh.length+8*k<=1000 ->
  q36q_l6 N f (((l,v),cf,mv,T,u),t,fd,fresh,(cf.length:Int),(c:Int),(),()) =
   some (.inl (((l,v),cf,mv,T,u),t,fd,fresh++allP (canG cf mv (ballM l) T) l.length k c,())):=by
 obtain ⟨h1,h2,h3,h4⟩:=cgB_parts h
 obtain ⟨g1,g2,g3,g4⟩:=gmB_parts h3
 obtain ⟨t1,t2⟩:=rcB_parts h4
 obtain ⟨p1,p2,p3,p4⟩:=netB_parts h1
 intro k
 induction k with
 | zero=>
  intro c f fresh e1 e2 e3
  obtain ⟨f,rfl⟩:∃m,f=m+1:=⟨f-1,by omega⟩
  have e:c=cf.length:=by omega
  subst e
  show q36q_l6_r _ _ _=_
  unfold q36q_l6_r
  simp only [lt_not,Bool.false_eq_true,if_false,allP,List.append_nil]
 | succ k ih=>
  intro c f fresh e1 e2 e3
  obtain ⟨f,rfl⟩:∃m,f=m+1:=⟨f-1,by omega⟩
  have hc:c<cf.length:=by omega
  have i1:idxIn (c:Int) T.length=true:=idxIn_nat (by omega)
  have hin:=cg_l8 N h t fd c hc (cf.length:Int) (c:Int) l.length 0 N fresh (by omega) (by omega) (by omega)
  simp only [Int.natCast_zero] at hin
  have hrl:=rowE_len (p:=canG cf mv (ballM l) T) (x:=c) (m:=l.length) (y:=0)
  show q36q_l6_r _ _ _=_
  unfold q36q_l6_r
  simp only [lt_dec hc,if_true,i1,Int.toNat_natCast,t2 c hc,hin,Option.bind_some,small_wrap (show c<=100000 by omega),allP]
  rw [ih (c+1) f _ (by omega) (by omega) (by simp;omega),List.append_assoc]
theorem tabM_set {m n:Nat} {g:Nat->Nat->Int} {x z:Nat} (hx:x<m) (hz:z<n) (t:Int):List.set (tabM m n g) x (List.set (at_ K_Si (tabM m n g) x) z t)=tabM m n fun c r=>if c=x/\r=z then t else g c r:=by
 have hl:x<(tabM m n g).length:=by rw [tabM_len];exact hx
 have e:at_ K_Si (tabM m n g) x=(tabM m n g)[x]:=at_get (e:=K_Si) hl
 have hrow:=tabM_row (n:=n) g hx
 rw [List.getElem?_eq_getElem hl] at hrow
 rw [e,Option.some.inj hrow,map_set]
 apply List.ext_getElem
 ·simp [tabM]
 ·intro i h1 h2
  rw [List.getElem_set]
  by_cases ei:x=i
  ·subst ei
   simp only [if_true,tabM,List.getElem_map,List.getElem_range,true_and]
  ·have ei':¬i=x:=fun h=>ei h.symm
   simp only [ei,if_false,tabM,List.getElem_map,List.getElem_range,ei',false_and]
theorem cg_l10 (N:Nat) (w:Nt) (cf mv:List (List Int)) (u:Unit) (m n:Nat) (t:Int) (fresh:List E) (hfr:∀e∈fresh,∃x z:Nat,x<m/\z<n/\e=((x:Int),(z:Int),())) (hl:fresh.length<=1000):∀(k i f:Nat) (g:Nat->Nat->Int) (fd:Bool),i+k=fresh.length->k<f ->
  q36q_l10 N f ((w,cf,mv,tabM m n g,u),t,fd,fresh,(fresh.length:Int),(i:Int),()) =
   some (.inl ((w,cf,mv,tabM m n (fun c r=>if (fresh.drop i).any (isP c r)=true then t else g c r),u),t,fd||decide (0<k),())):=by
 intro k
 induction k with
 | zero=>
  intro i f g fd h1 h2
  obtain ⟨f,rfl⟩:∃m,f=m+1:=⟨f-1,by omega⟩
  have e:i=fresh.length:=by omega
  subst e
  show q36q_l10_r _ _ _=_
  unfold q36q_l10_r
  rw [List.drop_of_length_le (Nat.le_refl _)]
  simp only [lt_not,Bool.false_eq_true,if_false,List.any_nil,Nat.lt_irrefl,decide_false,Bool.or_false]
 | succ k ih=>
  intro i f g fd h1 h2
  obtain ⟨f,rfl⟩:∃m,f=m+1:=⟨f-1,by omega⟩
  have hi:i<fresh.length:=by omega
  obtain ⟨x,z,hx,hz,ee⟩:=hfr fresh[i] (List.getElem_mem hi)
  have e:at_ K_Piiq fresh i=((x:Int),(z:Int),()):=(at_get (e:=K_Piiq) hi).trans ee
  obtain ⟨t1,t2⟩:=rcB_parts (rc_tabM m n g)
  have i1:idxIn (x:Int) (tabM m n g).length=true:=idxIn_nat (by omega)
  have i2:idxIn (z:Int) (at_ K_Si (tabM m n g) x).length=true:=idxIn_nat (by rw [t2 x hx];exact hz)
  show q36q_l10_r _ _ _=_
  unfold q36q_l10_r
  simp only [lt_dec hi,if_true,idxIn_nat hi,Int.toNat_natCast,e,i1,i2,small_wrap (show i<=100000 by omega),tabM_set hx hz]
  rw [ih (i+1) f _ true (by omega) (by omega),List.drop_eq_getElem_cons hi,ee]
  have et:tabM m n (fun c r=>if (fresh.drop (i+1)).any (isP c r)=true then t else if c=x/\r=z then t else g c r)=tabM m n fun c r=>if (((x:Int),(z:Int),())::fresh.drop (i+1)).any (isP c r)=true then t else g c r:=tabM_congr fun c r _ _=>by
   rw [List.any_cons]
   by_cases h3:(fresh.drop (i+1)).any (isP c r)=true
   ·simp [h3]
   ·have h3':(fresh.drop (i+1)).any (isP c r)=false:=by simpa using h3
    by_cases h4:c=x/\r=z
    ·have:isP c r ((x:Int),(z:Int),())=true:=by
      unfold isP
      simp [h4.1,h4.2]
     rw [if_neg h3,if_pos h4,this,Bool.true_or,if_pos rfl]
    ·have:isP c r ((x:Int),(z:Int),())=false:=by
      unfold isP
      simp only [Bool.and_eq_false_iff,beq_eq_false_iff_ne,ne_eq]
      by_cases h5:c=x
      ·exact .inr fun h=>h4 ⟨h5,by omega⟩
      ·exact .inl fun h=>h5 (by omega)
     simp [h3',h4,this]
  rw [et]
  simp
theorem allP_anyM {p:Nat->Nat->Bool} {m n c r:Nat} (hc:c<m) (hr:r<n):(allP p n m 0).any (isP c r)=p c r:=by
 apply Bool.eq_iff_iff.2
 rw [List.any_eq_true]
 constructor
 ·rintro ⟨e,he,h⟩
  obtain ⟨x,z,h1,h2,h3,h4,rfl⟩:=allP_mem.1 he
  unfold isP at h
  simp only [Bool.and_eq_true,beq_iff_eq] at h
  have e1:x=c:=by omega
  have e2:z=r:=by omega
  subst e1 e2
  exact h4
 ·intro h
  exact ⟨((c:Int),(r:Int),()),allP_mem.2 ⟨c,r,Nat.zero_le _,by omega,hr,h,rfl⟩,by unfold isP;simp⟩
theorem allP_posM {cf mv:List (List Int)} {ball:Int->List Int} {n:Nat} {T:Tab}:decide (0<(allP (canG cf mv ball T) n cf.length 0).length)=anyG cf mv ball n T:=by
 apply Bool.eq_iff_iff.2
 rw [decide_eq_true_eq,anyG_spec]
 constructor
 ·intro h
  obtain ⟨x,z,h1,h2,h3,h4,_⟩:=allP_mem.1 (List.getElem_mem h)
  exact ⟨x,z,by omega,h3,h4⟩
 ·rintro ⟨c,r,hc,hr,h⟩
  exact List.length_pos_of_mem (allP_mem.2 ⟨c,r,Nat.zero_le _,by omega,hr,h,rfl⟩)
theorem cg_l4 (N:Nat) (hN:2000<=N) {l:List Int} {v u:Unit} {cf mv:List (List Int)} (hl:netB l=true) (h1:1<=l.length) (hg:gmB l.length cf mv=true):∀(k t:Nat) (T:Tab),rcB cf.length l.length T=true->t+k<=2000->negsM cf.length l.length T<k -> ∀f,k+1<=f ->
  q36q_l4 N f (((l,v),cf,mv,T,u),(t:Int),true,())=some (.inl (((l,v),cf,mv,gameT cf mv (ballM l) l.length k (t:Int) T,u),())):=by
 obtain ⟨g1,g2,g3,g4⟩:=gmB_parts hg
 obtain ⟨p1,p2,p3,p4⟩:=netB_parts hl
 intro k
 induction k with
 | zero=>intro t T _ _ h;omega
 | succ k ih=>
  intro t T hT ht hng f hf
  obtain ⟨f,rfl⟩:∃m,f=m+1:=⟨f-1,by omega⟩
  have h:cgB ((l,v),cf,mv,T,u)=true:=by
   unfold cgB
   simp only [hl,hg,hT,h1,decide_true,Bool.and_self]
  obtain ⟨t1,t2⟩:=rcB_parts hT
  have h6:=cg_l6 N (by omega) h (t:Int) false cf.length 0 N [] (by omega) (by omega) (by simp;omega)
  simp only [Int.natCast_zero,List.nil_append] at h6
  have hlen:=allP_len (p:=canG cf mv (ballM l) T) (n:=l.length) (k:=cf.length) (c:=0)
  have hnn:l.length*cf.length<=8*120:=Nat.mul_le_mul p3 g1
  have h10:=cg_l10 N (l,v) cf mv u cf.length l.length (t:Int) (allP (canG cf mv (ballM l) T) l.length cf.length 0) (fun e he=>by
   obtain ⟨x,z,_,h2,h3,_,h5⟩:=allP_mem.1 he
   exact ⟨x,z,by omega,h3,h5⟩) (by omega) (allP (canG cf mv (ballM l) T) l.length cf.length 0).length 0 N (fun c x=>tab2 T (c:Int) (x:Int)) false (by omega) (by omega)
  rw [tabM_self hT] at h10
  simp only [Int.natCast_zero,List.drop_zero,Bool.false_or,allP_posM] at h10
  have et:tabM cf.length l.length (fun c r=>if (allP (canG cf mv (ballM l) T) l.length cf.length 0).any (isP c r)=true then (t:Int) else tab2 T (c:Int) (r:Int))=stepG cf mv (ballM l) l.length (t:Int) T:=tabM_congr fun c r hc hr=>by
   rw [allP_anyM hc hr]
  rw [et] at h10
  show q36q_l4_r _ _ _=_
  unfold q36q_l4_r
  simp only [if_true,t1,h6,Option.bind_some,h10,small_wrap (show t<=100000 by omega),gameT]
  by_cases ha:anyG cf mv (ballM l) l.length T=true
  ·rw [if_pos ha,ha]
   have:=negsM_step (t:=(t:Int)) (by omega) ha
   exact ih (t+1) (stepG cf mv (ballM l) l.length (t:Int) T) (rc_tabM _ _ _) (by omega) (by omega) f (by omega)
  ·have ha':anyG cf mv (ballM l) l.length T=false:=(Bool.not_eq_true _).mp ha
   rw [if_neg ha,ha',stepG_none hT ha']
   obtain ⟨f,rfl⟩:∃m,f=m+1:=⟨f-1,by omega⟩
   rfl
theorem copGame_lim (d) (r) (h:G_copGame d=some r):∃N,F_q36q N d=some r:=by
 obtain ⟨⟨l,v⟩,k,_⟩:=d
 unfold G_copGame at h
 split at h
 ·rename_i hc
  simp only [Bool.and_eq_true,decide_eq_true_eq] at hc
  obtain ⟨⟨hl,h1⟩,hk⟩:=hc
  have hl:netB l=true:=hl
  have h1:1<=l.length:=h1
  have hk2:=inB_iff.1 hk
  obtain ⟨p1,p2,p3,p4⟩:=netB_parts hl
  have h:=Option.some.inj h
  subst h
  refine ⟨2000,?_⟩
  have hg:=board_ok (n:=l.length) p3 (k:=k.toNat) (by omega) (ball:=ballM l) (fun x _=>ballM_len l _) (fun x hx=>ballM_in hl hx)
  obtain ⟨g1,g2,g3,g4⟩:=gmB_parts hg
  have hb:G_copBoard ((l,v),k,())=some (((l,v),confL l.length k.toNat,movesI (ballM l) (confL l.length k.toNat),[],()),()):=by
   unfold G_copBoard
   simp only [hl,hk,Bool.and_self,if_true]
  have h0:=cg_l0 2000 (by omega) l v h1 p3 (l,v) (confL l.length k.toNat) (movesI (ballM l) (confL l.length k.toNat)) () hg (confL l.length k.toNat).length 0 2000 [] (by omega) (by omega) (by simp;omega)
  simp only [Int.natCast_zero,List.nil_append,<- List.range_eq_range'] at h0
  have e0:(List.range (confL l.length k.toNat).length).map (fun c=>(List.range l.length).map (fun (x:Nat)=>if hasL ((confL l.length k.toNat).getD c []) (x:Int)=true then (0:Int) else -1))=startG (confL l.length k.toNat) l.length:=rfl
  rw [e0] at h0
  have hneg:=negsM_le (confL l.length k.toNat).length l.length (startG (confL l.length k.toNat) l.length)
  have hmul:(confL l.length k.toNat).length*l.length<=120*8:=Nat.mul_le_mul g1 p3
  have h4:=cg_l4 2000 (by omega) (v:=v) (u:=()) hl h1 hg 1000 1 (startG (confL l.length k.toNat) l.length) (rc_tabM _ _ _) (by omega) (by omega) 2000 (by omega)
  have e1:((1:Nat):Int)=1:=rfl
  rw [e1] at h4
  unfold F_q36q
  simp only [hb,Option.bind_some,h0,h4]
  rfl
 ·cases h
end Go.V.W
namespace Go.V.W
open Go.Proofs
theorem after_congr {cf:List (List Int)} {b1 b2:Int->List Int} {T:Tab} {d x:Int} (h:b1 x=b2 x):afterG cf b1 T d x=afterG cf b2 T d x:=by
 unfold afterG
 rw [h]
theorem canG_congr {cf mv:List (List Int)} {b1 b2:Int->List Int} {T:Tab} {c x:Nat} (h:b1 (x:Int)=b2 (x:Int)):canG cf mv b1 T c x=canG cf mv b2 T c x:=by
 unfold canG
 simp only [after_congr (cf:=cf) (T:=T) h]
theorem anyG_congr {cf mv:List (List Int)} {b1 b2:Int->List Int} {n:Nat} (h:∀x:Nat,x<n->b1 (x:Int)=b2 (x:Int)) (T:Tab):anyG cf mv b1 n T=anyG cf mv b2 n T:=by
 apply bool_eq_iff
 rw [anyG_spec,anyG_spec]
 constructor
 ·rintro ⟨c,x,hc,hx,h2⟩
  exact ⟨c,x,hc,hx,by rw [<- canG_congr (h x hx)];exact h2⟩
 ·rintro ⟨c,x,hc,hx,h2⟩
  exact ⟨c,x,hc,hx,by rw [canG_congr (h x hx)];exact h2⟩
theorem gameT_congr {cf mv:List (List Int)} {b1 b2:Int->List Int} {n:Nat} (h:∀x:Nat,x<n->b1 (x:Int)=b2 (x:Int)):∀(k:Nat) (t:Int) (T:Tab),gameT cf mv b1 n k t T=gameT cf mv b2 n k t T:=by
 intro k
 induction k with
 | zero=>intro t T;rfl
 | succ k ih=>
  intro t T
  unfold gameT
  rw [anyG_congr h T]
  have:stepG cf mv b1 n t T=stepG cf mv b2 n t T:=tabM_congr fun c x hc hx=>by rw [canG_congr (h x hx)]
  rw [this,ih]
theorem times_congr {cf mv:List (List Int)} {b1 b2:Int->List Int} {n:Nat} (h:∀x:Nat,x<n->b1 (x:Int)=b2 (x:Int)):timesG cf mv b1 n=timesG cf mv b2 n:=gameT_congr h _ _ _
theorem gameT_rc {cf mv:List (List Int)} {ball:Int->List Int} {n:Nat}:∀(k:Nat) (t:Int) (T:Tab),rcB cf.length n T=true->rcB cf.length n (gameT cf mv ball n k t T)=true:=by
 intro k
 induction k with
 | zero=>intro t T h;exact h
 | succ k ih=>
  intro t T h
  unfold gameT
  split
  ·exact ih _ _ (rc_tabM _ _ _)
  ·exact h
theorem times_rc (cf mv:List (List Int)) (ball:Int->List Int) (n:Nat):rcB cf.length n (timesG cf mv ball n)=true:=gameT_rc _ _ _ (rc_tabM _ _ _)
theorem tm_rc (g:Gr) (k:Nat):rcB (cfG g k).length g.1.toNat (tmG g k)=true:=times_rc _ _ _ _
theorem field_parts {n:Int} {es:List E} {v:Unit} {k:Int} (h:fieldB (n,es,v) k=true):graphB (n,es,v)=true /\ ∃m q:Nat,n=(m:Int)/\k=(q:Int)/\1<=m/\m<=8/\1<=q/\q<=3:=by
 unfold fieldB at h
 simp only [Bool.and_eq_true,decide_eq_true_eq] at h
 obtain ⟨⟨h1,h2⟩,h3⟩:=h
 obtain ⟨h4,h5⟩:=graphB_n h1
 have h3:=inB_iff.1 h3
 exact ⟨h1,n.toNat,k.toNat,by omega,by omega,by omega,by omega,by omega,by omega⟩
theorem game_impl {m q:Nat} {es:List E} {v:Unit} (hg:graphB ((m:Int),es,v)=true) (ho:okL es=true) (h1:1<=m) (hq:q<=3) (u:Unit) :
  G_copGame ((toI (netN m es),()),(q:Int),u)=some (((toI (netN m es),()),cfG ((m:Int),es,v) q,mvG ((m:Int),es,v) q,tmG ((m:Int),es,v) q,()),())/\cgB ((toI (netN m es),()),cfG ((m:Int),es,v) q,mvG ((m:Int),es,v) q,tmG ((m:Int),es,v) q,())=true:=by
 obtain ⟨h0,h8⟩:=graphB_n hg
 have hm:m<=8:=by omega
 obtain ⟨g1,_⟩:=graphB_edges hg
 obtain ⟨n1,n2⟩:=netB_net hm g1
 have hk:inB 0 3 (q:Int)=true:=inB_iff.2 (by omega)
 have e1:movesI (ballM (toI (netN m es))) (confL m q)=movesI (ballF m es) (confL m q):=by
  unfold movesI
  refine List.map_congr_left fun c hc => ?_
  rw [moves_congr fun x hx => ?_]
  have:=copsB_in (confL_mem.1 hc).2 x hx
  obtain ⟨y,rfl,hy⟩:=nodeX this
  exact ball_same hm g1 hy
 have e2:timesG (confL m q) (movesI (ballF m es) (confL m q)) (ballM (toI (netN m es))) m=timesG (confL m q) (movesI (ballF m es) (confL m q)) (ballF m es) m:=times_congr fun x hx=>ball_same hm g1 hx
 have hb:=board_ok (n:=m) hm hq (ball:=ballF m es) (fun x _=>by have:=ballF_len m es (x:Int);omega) (fun x _=>ballF_in es (x:Int))
 constructor
 ·unfold G_copGame
  have h1':decide (1<=m)=true:=decide_eq_true h1
  simp only [n1,n2,h1',hk,Bool.and_self,if_true,Int.toNat_natCast,e1,e2]
  rfl
 ·unfold cgB
  have h1':decide (1<=m)=true:=decide_eq_true h1
  have h2:=tm_rc ((m:Int),es,v) q
  simp only [Int.toNat_natCast] at h2
  have h3:gmB m (cfG ((m:Int),es,v) q) (mvG ((m:Int),es,v) q)=true:=by
   unfold mvG cfG
   simp only [Int.toNat_natCast]
   exact hb
  simp only [n1,n2,h1',h2,h3,Bool.and_self]
theorem implField {g:Gr} (ho:okL g.2.1=true) (k:Int) (u:Unit):F_q48q 0 (g,k,u)=some (fieldB g k,()):=by
 unfold F_q48q G_graph fieldB
 simp only [ho,if_true,Option.bind_some,within_eq]
 cases graphB g with
 | false=>simp only [Bool.false_eq_true,if_false,Bool.false_and]
 | true=>
  cases decide (g.1>0) with
  | false=>simp only [Bool.false_eq_true,if_false,if_true,Bool.and_false,Bool.false_and]
  | true=>simp only [if_true,Bool.true_and]
def capB (g:Gr) (k:Int):Tab×Bool×Unit:=if fieldB g k=true then (tmG g k.toNat,true,()) else ([],false,())
theorem implCT {n:Int} {es:List E} {v:Unit} (ho:okL es=true) (k:Int) (u:Unit):F_q22q 0 ((n,es,v),k,u)=some (capB (n,es,v) k):=by
 unfold F_q22q capB
 simp only [implField (g:=(n,es,v)) ho]
 cases h:fieldB (n,es,v) k with
 | false=>simp only [Option.bind_some,Bool.not_false,if_true,Bool.false_eq_true,if_false]
 | true=>
  obtain ⟨hg,m,q,rfl,rfl,m1,m8,q1,q3⟩:=field_parts h
  obtain ⟨h1,_⟩:=game_impl (v:=v) hg ho m1 q3 ()
  simp only [Option.bind_some,Bool.not_true,Bool.false_eq_true,if_false,net_some hg ho,h1,if_true,Int.toNat_natCast]
end Go.V.W
namespace Go.V.W
open Go.Proofs
theorem at_getDS {l:List (List Int)} {i:Nat} (h:i<l.length):at_ K_Si l i=l.getD i []:=by
 have e:at_ K_Si l i=l[i]:=at_get (e:=K_Si) h
 rw [e,List.getD_eq_getElem?_getD,List.getElem?_eq_getElem h]
 rfl
end Go.V.W
namespace Go.V.W
open Go.Proofs
def BestI (T:Tab) (b l:Int):Prop:=b<0 \/ ∃p:Nat,p<T.length/\b=(p:Int)/\l=worstR (at_ K_Si T p)
theorem bestRow_inv (T:Tab):∀(k c:Nat) (b l:Int),c+k=T.length->BestI T b l->BestI T (bestRow (T.drop c) (c:Int) b l).1 (bestRow (T.drop c) (c:Int) b l).2:=by
 intro k
 induction k with
 | zero=>
  intro c b l h h2
  rw [List.drop_of_length_le (by omega)]
  exact h2
 | succ k ih=>
  intro c b l h h2
  have hc:c<T.length:=by omega
  have ec:at_ K_Si T c=T[c]:=at_get (e:=K_Si) hc
  rw [List.drop_eq_getElem_cons hc]
  unfold bestRow
  have e1:((c:Int)+1)=((c+1:Nat):Int):=rfl
  rw [e1]
  split
  ·exact ih (c+1) (c:Int) (worstR T[c]) (by omega) (.inr ⟨c,hc,rfl,by rw [ec]⟩)
  ·exact ih (c+1) b l (by omega) h2
theorem worstR_max:∀{l:List Int} {m:Int},(∀x∈l,0<=x)->worstL (fun z=>z) l m=l.foldl (fun a b=>if a<b then b else a) m:=by
 intro l
 induction l with
 | nil=>intro m _;rfl
 | cons a l ih=>
  intro m h
  have ha:=h a (by simp)
  simp only [worstL,List.foldl_cons]
  rw [if_neg (by omega)]
  exact ih fun x hx=>h x (by simp [hx])
theorem max_eq {l:List Int} (h:∀x∈l,0<=x) (h1:0<l.length):l.foldl (fun a b=>if a<b then b else a) (l.headD 0)=worstR l:=by
 unfold worstR
 rw [worstR_max h]
 cases l with
 | nil=>simp at h1
 | cons a l=>
  have ha:=h a (by simp)
  simp only [List.foldl_cons,List.headD_cons,Int.lt_irrefl,if_false]
  congr 1
  by_cases h0:(0:Int)<a
  ·rw [if_pos h0]
  ·rw [if_neg h0]
   omega
theorem has_neg {l:List Int} (h:∀x∈l,-1<=x):(hasL l (-1)=true->worstR l<0)/\(hasL l (-1)=false->0<=worstR l /\ ∀x∈l,0<=x):=by
 unfold hasL worstR
 rcases worst_spec (fun z=>z) l 0 with ⟨⟨x,hx,h1⟩,h2⟩ | ⟨h1,h2,h3⟩
 ·refine ⟨fun _=>by omega,fun hh => ?_⟩
  have:=h x hx
  have e:x = -1:=by omega
  subst e
  have:(l.any fun z=>z == -1)=true:=List.any_eq_true.2 ⟨-1,hx,by simp⟩
  rw [hh] at this
  cases this
 ·refine ⟨fun hh => ?_,fun _=>⟨h2,fun x hx=>(h1 x hx).1⟩⟩
  obtain ⟨x,hx,h4⟩:=List.any_eq_true.1 hh
  have:=(h1 x hx).1
  have e:x = -1:=by simpa using h4
  have:0<=x:=this
  omega
theorem gb_l0 (N:Nat) (y:Cg) (T:Tab) (hT:T.length<=1000) (hr:∀r∈T,1<=r.length/\r.length<=1000 /\ ∀x∈r,-1<=x):∀(k c f:Nat) (b l:Int),c+k=T.length->k<f ->
  q25q_l0 N f (y,b,l,T,(T.length:Int),(c:Int),())=some (.inl (y,(bestRow (T.drop c) (c:Int) b l).1,(bestRow (T.drop c) (c:Int) b l).2,())):=by
 intro k
 induction k with
 | zero=>
  intro c f b l h1 h2
  obtain ⟨f,rfl⟩:∃m,f=m+1:=⟨f-1,by omega⟩
  have e:c=T.length:=by omega
  subst e
  rw [List.drop_of_length_le (Nat.le_refl _)]
  show q25q_l0_r _ _ _=_
  unfold q25q_l0_r
  simp only [lt_not,Bool.false_eq_true,if_false,bestRow]
 | succ k ih=>
  intro c f b l h1 h2
  obtain ⟨f,rfl⟩:∃m,f=m+1:=⟨f-1,by omega⟩
  have hc:c<T.length:=by omega
  have ec:at_ K_Si T c=T[c]:=at_get (e:=K_Si) hc
  obtain ⟨r1,r2,r3⟩:=hr _ (List.getElem_mem hc)
  obtain ⟨n1,n2⟩:=has_neg r3
  have e1:((c:Int)+1)=((c+1:Nat):Int):=rfl
  have hok:okL T[c]=true:=okL_of (by omega)
  rw [List.drop_eq_getElem_cons hc]
  show q25q_l0_r _ _ _=_
  unfold q25q_l0_r
  simp only [lt_dec hc,if_true,idxIn_nat hc,Int.toNat_natCast,ec,has2 hok,Option.bind_some,small_wrap (show c<=100000 by omega),bestRow]
  simp only [e1]
  cases hh:hasL T[c] (-1) with
  | true=>
   have hw:¬0<=worstR T[c]:=by have:=n1 hh;omega
   simp only [if_true,hw,if_false,false_and]
   exact ih (c+1) f b l (by omega) (by omega)
  | false=>
   obtain ⟨hw,hall⟩:=n2 hh
   have hmx:G_max (T[c],())=some (worstR T[c],()):=by
    unfold G_max
    have a1:decide (0<T[c].length)=true:=decide_eq_true (by omega)
    simp only [hok,a1,Bool.and_self,if_true]
    rw [max_eq hall (by omega)]
   simp only [Bool.false_eq_true,if_false,hmx,Option.bind_some,hw,true_and]
   by_cases hb:b<0
   ·simp only [hb,decide_true,if_true,true_or]
    exact ih (c+1) f (c:Int) (worstR T[c]) (by omega) (by omega)
   ·by_cases hlt:worstR T[c]<l
    ·simp only [hb,hlt,decide_true,decide_false,Bool.false_eq_true,if_true,if_false,or_true]
     exact ih (c+1) f (c:Int) (worstR T[c]) (by omega) (by omega)
    ·simp only [hb,hlt,decide_false,Bool.false_eq_true,if_false,or_self]
     exact ih (c+1) f b l (by omega) (by omega)
theorem gameBest_lim (d) (r) (h:G_copBest d=some r):∃N,F_q25q N d=some r:=by
 obtain ⟨⟨⟨l,v⟩,cf,mv,T,u⟩,_⟩:=d
 unfold G_copBest at h
 split at h
 ·rename_i hc
  rw [Bool.and_eq_true] at hc
  obtain ⟨hcg,hlow⟩:=hc
  have hlow:lowB T=true:=hlow
  obtain ⟨c1,c2,c3,c4⟩:=cgB_parts hcg
  obtain ⟨g1,g2,g3,g4⟩:=gmB_parts c3
  obtain ⟨p1,p2,p3,p4⟩:=netB_parts c1
  obtain ⟨t1,t2⟩:=rcB_parts c4
  have h:=Option.some.inj h
  subst h
  have hr:∀r∈T,1<=r.length/\r.length<=1000 /\ ∀x∈r,-1<=x:=fun r hr=>by
   unfold rcB at c4
   simp only [Bool.and_eq_true,decide_eq_true_eq,List.all_eq_true] at c4
   have h1:=c4.2 r hr
   refine ⟨by omega,by omega,fun x hx => ?_⟩
   unfold lowB at hlow
   exact of_decide_eq_true (List.all_eq_true.1 (List.all_eq_true.1 hlow r hr) x hx)
  have hl:=gb_l0 1010 ((l,v),cf,mv,T,u) T (by omega) hr T.length 0 1010 (-1) 0 (by omega) (by omega)
  have hI:=bestRow_inv T T.length 0 (-1) 0 (by omega) (.inl (by omega))
  simp only [Int.natCast_zero,List.drop_zero] at hl hI
  refine ⟨1010,?_⟩
  unfold F_q25q bestOut
  simp only [hl,Option.bind_some]
  rcases hI with hI | ⟨p,p1,p2,p3⟩
  ·simp only [hI,decide_true,if_true]
  ·have hp:p<cf.length:=by omega
   have hneg:¬((p:Int)<0):=by omega
   have hok:okL (at_ K_Si cf p)=true:=okL_of (by have:=(g3 p hp).1;omega)
   rw [at_getDS hp] at hok
   simp only [p2,hneg,decide_false,Bool.false_eq_true,if_false,idxIn_nat hp,if_true,Int.toNat_natCast,at_getDS hp,G_toIntS,hok,Option.bind_some]
 ·cases h
theorem low_tabM {m n:Nat} {f:Nat->Nat->Int} (h:∀c x,c<m->x<n -> -1<=f c x):lowB (tabM m n f)=true:=by
 unfold lowB tabM
 simp only [List.all_map,List.all_eq_true,Function.comp,List.mem_range,decide_eq_true_eq]
 intro c hc x hx
 exact h c x hc hx
theorem low_tab2 {m n:Nat} {T:Tab} (hT:rcB m n T=true) (h:lowB T=true) {c x:Nat} (hc:c<m) (hx:x<n) : -1<=tab2 T (c:Int) (x:Int):=by
 obtain ⟨t1,t2⟩:=rcB_parts hT
 have hlt:c<T.length:=by omega
 have ec:at_ K_Si T c=T[c]:=at_get (e:=K_Si) hlt
 have hl:=t2 c hc
 rw [ec] at hl
 have ex:at_ I T[c] x=T[c][x]:=at_get (e:=I) (by omega)
 rw [<- tab2_rc hT hc hx,ec,ex]
 unfold lowB at h
 exact of_decide_eq_true (List.all_eq_true.1 (List.all_eq_true.1 h _ (List.getElem_mem hlt)) _ (List.getElem_mem (by omega)))
theorem gameT_low {cf mv:List (List Int)} {ball:Int->List Int} {n:Nat}:∀(k:Nat) (t:Int) (T:Tab),0<=t->rcB cf.length n T=true->lowB T=true->lowB (gameT cf mv ball n k t T)=true:=by
 intro k
 induction k with
 | zero=>intro t T _ _ h;exact h
 | succ k ih=>
  intro t T ht h h2
  unfold gameT
  split
  ·refine ih _ _ (by omega) (rc_tabM _ _ _) (low_tabM fun c x hc hx => ?_)
   split
   ·omega
   ·exact low_tab2 h h2 hc hx
  ·exact h2
theorem tm_low (g:Gr) (k:Nat):lowB (tmG g k)=true:=gameT_low _ _ _ (by omega) (rc_tabM _ _ _) (low_tabM fun c x _ _=>by split<;>omega)
theorem implBC {n:Int} {es:List E} {v:Unit} (ho:okL es=true) (k:Int) (u:Unit):F_q52q 0 ((n,es,v),k,u)=some (bestCB (n,es,v) k):=by
 unfold F_q52q bestCB
 simp only [implField (g:=(n,es,v)) ho]
 cases h:fieldB (n,es,v) k with
 | false=>simp only [Option.bind_some,Bool.not_false,if_true,Bool.false_eq_true,if_false]
 | true=>
  obtain ⟨hg,m,q,rfl,rfl,m1,m8,q1,q3⟩:=field_parts h
  obtain ⟨h1,h2⟩:=game_impl (v:=v) hg ho m1 q3 ()
  have h3:G_copBest (((toI (netN m es),()),cfG ((m:Int),es,v) q,mvG ((m:Int),es,v) q,tmG ((m:Int),es,v) q,()),())=some (bestOut (cfG ((m:Int),es,v) q) (bestRow (tmG ((m:Int),es,v) q) 0 (-1) 0)):=by
   unfold G_copBest
   simp only [h2,tm_low,Bool.and_self,if_true]
  simp only [Option.bind_some,Bool.not_true,Bool.false_eq_true,if_false,net_some hg ho,h1,h3,if_true,Int.toNat_natCast]
end Go.V.W
namespace Go.V.W
open Go.Proofs
structure TimI (cf mv:List (List Int)) (ball:Int->List Int) (n:Nat) (T:Tab):Prop where
 caught:∀c x:Nat,c<cf.length->x<n->hasL (cf.getD c []) (x:Int)=true->tab2 T (c:Int) (x:Int)=0
 some:∀c x:Nat,c<cf.length->x<n->0<=tab2 T (c:Int) (x:Int)->hasL (cf.getD c []) (x:Int)=true\/(1<=tab2 T (c:Int) (x:Int) /\ ∃d∈mv.getD c [],0<=afterG cf ball T d (x:Int))
end Go.V.W
namespace Go.V.W
open Go.Proofs
structure PlayI (m q:Nat) (es:List E) (v:Unit):Prop where
 hg:graphB ((m:Int),es,v)=true
 ho:okL es=true
 m1:1<=m
 m8:m<=8
 q3:q<=3
end Go.V.W
namespace Go.V.W
open Go.Proofs
structure RoundI (cf mv:List (List Int)) (ball:Int->List Int) (n:Nat) (t:Int) (T:Tab):Prop where
 pos:1<=t
 low:∀c x:Nat,c<cf.length->x<n -> -1<=tab2 T (c:Int) (x:Int)
 high:∀c x:Nat,c<cf.length->x<n->tab2 T (c:Int) (x:Int)<t
 none:∀c x:Nat,c<cf.length->x<n->tab2 T (c:Int) (x:Int)<0 -> ∀d∈mv.getD c [],0<=afterG cf ball T d (x:Int)->t-1<=afterG cf ball T d (x:Int)
 ex:∀c x:Nat,c<cf.length->x<n->1<=tab2 T (c:Int) (x:Int) -> ∃d∈mv.getD c [],0<=afterG cf ball T d (x:Int)/\afterG cf ball T d (x:Int)+1<=tab2 T (c:Int) (x:Int)
 least:∀c x:Nat,c<cf.length->x<n->1<=tab2 T (c:Int) (x:Int) -> ∀d∈mv.getD c [],0<=afterG cf ball T d (x:Int)->tab2 T (c:Int) (x:Int)<=afterG cf ball T d (x:Int)+1
 zero:∀c x:Nat,c<cf.length->x<n->(tab2 T (c:Int) (x:Int)=0↔hasL (cf.getD c []) (x:Int)=true)
structure TimesI (cf mv:List (List Int)) (ball:Int->List Int) (n:Nat) (T:Tab):Prop where
 low:∀c x:Nat,c<cf.length->x<n -> -1<=tab2 T (c:Int) (x:Int)
 none:∀c x:Nat,c<cf.length->x<n->tab2 T (c:Int) (x:Int)<0 -> ∀d∈mv.getD c [],afterG cf ball T d (x:Int)<0
 ex:∀c x:Nat,c<cf.length->x<n->1<=tab2 T (c:Int) (x:Int) -> ∃d∈mv.getD c [],0<=afterG cf ball T d (x:Int)/\afterG cf ball T d (x:Int)+1<=tab2 T (c:Int) (x:Int)
 least:∀c x:Nat,c<cf.length->x<n->1<=tab2 T (c:Int) (x:Int) -> ∀d∈mv.getD c [],0<=afterG cf ball T d (x:Int)->tab2 T (c:Int) (x:Int)<=afterG cf ball T d (x:Int)+1
 zero:∀c x:Nat,c<cf.length->x<n->(tab2 T (c:Int) (x:Int)=0↔hasL (cf.getD c []) (x:Int)=true)
end Go.V.W
namespace Go.V.W
open Go.Proofs
theorem conf_one (n:Nat):confL n 1=(List.range n).map fun (i:Nat)=>[(i:Int)]:=by
 show ([[]]:List (List Int)).flatMap _=_
 simp only [List.flatMap_cons,List.flatMap_nil,List.append_nil,upTo,List.getLastD_nil,Int.toNat_zero,Nat.sub_zero,List.map_map,List.range_eq_range']
 rfl
theorem conf_one_len (n:Nat):(confL n 1).length=n:=by rw [conf_one];simp
theorem conf_one_get {n c:Nat} (hc:c<n):(confL n 1).getD c []=[(c:Int)]:=by
 rw [conf_one,List.getD_eq_getElem?_getD]
 simp [hc]
theorem place_one {n y:Nat} (hy:y<n):placeL (confL n 1) [(y:Int)]=(y:Int):=by
 have hm:[(y:Int)]∈confL n 1:=by
  rw [conf_one]
  exact List.mem_map.2 ⟨y,List.mem_range.2 hy,rfl⟩
 obtain ⟨i,hi,h1,h2⟩:=place_at hm
 rw [conf_one_len] at hi
 rw [conf_one_get hi] at h2
 rw [h1]
 simpa using h2
theorem sortI_one (y:Int):sortI [y]=[y]:=List.perm_singleton.1 (sortI_perm [y])
theorem moves_one {ball:Int->List Int} {c:Int} {m:List Int}:m∈movesL ball [c] ↔ ∃y∈ball c,m=[y]:=by
 unfold movesL
 rw [comp_mem,(sortS_perm _).mem_iff]
 simp only [chL,List.flatMap_cons,List.flatMap_nil,List.append_nil,List.nil_append,List.map_map,List.mem_map,Function.comp]
 constructor
 ·rintro ⟨y,hy,rfl⟩
  exact ⟨y,hy,sortI_one y⟩
 ·rintro ⟨y,hy,rfl⟩
  exact ⟨y,hy,sortI_one y⟩
theorem mv_one {n:Nat} {ball:Int->List Int} (hb:okBall n ball) {c:Nat} (hc:c<n) {d:Int}:d∈(movesI ball (confL n 1)).getD c []↔d∈ball (c:Int):=by
 have hl:c<(confL n 1).length:=by rw [conf_one_len];exact hc
 have e:(movesI ball (confL n 1)).getD c []=(movesL ball [(c:Int)]).map (placeL (confL n 1)):=by
  unfold movesI
  have hg:=conf_one_get hc
  rw [List.getD_eq_getElem?_getD,List.getElem?_eq_getElem hl,Option.getD_some] at hg
  rw [List.getD_eq_getElem?_getD,List.getElem?_map,List.getElem?_eq_getElem hl,Option.map_some,Option.getD_some,hg]
 rw [e,List.mem_map]
 constructor
 ·rintro ⟨m,hm,rfl⟩
  obtain ⟨y,hy,rfl⟩:=moves_one.1 hm
  obtain ⟨y',h1,rfl⟩:=hb c hc y hy
  rw [place_one h1]
  exact hy
 ·intro hd
  obtain ⟨y',h1,rfl⟩:=hb c hc d hd
  exact ⟨[(y':Int)],moves_one.2 ⟨_,hd,rfl⟩,place_one h1⟩
theorem after_one {n:Nat} {ball:Int->List Int} {T:Tab} {d:Nat} (hd:d<n) (x:Int):afterG (confL n 1) ball T (d:Int) x=afterT ball T (d:Int) x:=by
 unfold afterG afterT
 rw [Int.toNat_natCast,conf_one_get hd]
 by_cases e:(d:Int)=x
 ·rw [if_pos (show hasL [(d:Int)] x=true by simp [hasL,e]),if_pos e]
 ·rw [if_neg (show ¬hasL [(d:Int)] x=true by simp [hasL,e]),if_neg e]
theorem can_one {n:Nat} {ball:Int->List Int} (hb:okBall n ball) {f:Nat->Nat->Int} {c x:Nat} (hc:c<n) (hx:x<n):canG (confL n 1) (movesI ball (confL n 1)) ball (tabL n f) c x=canF n ball f c x:=by
 unfold canG canF
 rw [tab2_tabL f hc hx]
 congr 1
 rw [Bool.eq_iff_iff,List.any_eq_true,List.any_eq_true]
 constructor
 ·rintro ⟨d,h1,h2⟩
  have h1:=(mv_one hb hc).1 h1
  obtain ⟨y,hy,rfl⟩:=hb c hc d h1
  rw [after_one hy] at h2
  exact ⟨_,h1,h2⟩
 ·rintro ⟨d,h1,h2⟩
  obtain ⟨y,hy,rfl⟩:=hb c hc d h1
  rw [<- after_one hy] at h2
  exact ⟨_,(mv_one hb hc).2 h1,h2⟩
theorem game_one {n:Nat} {ball:Int->List Int} (hb:okBall n ball):∀(k k2:Nat) (t:Int) (f:Nat->Nat->Int),negs n f<k->negs n f<k2->0<=t ->
  gameT (confL n 1) (movesI ball (confL n 1)) ball n k t (tabL n f)=tabL n (timesF n ball k2 t f):=by
 intro k
 induction k with
 | zero=>intro k2 t f h;omega
 | succ k ih=>
  intro k2 t f h1 h2 ht
  obtain ⟨k2,rfl⟩:∃m,k2=m+1:=⟨k2-1,by omega⟩
  unfold gameT timesF
  have ea:anyG (confL n 1) (movesI ball (confL n 1)) ball n (tabL n f)=anyF n (canF n ball f):=by
   unfold anyG anyF
   rw [conf_one_len,Bool.eq_iff_iff,List.any_eq_true,List.any_eq_true]
   constructor
   ·rintro ⟨c,hc,h⟩
    obtain ⟨x,hx,h⟩:=List.any_eq_true.1 h
    exact ⟨c,hc,List.any_eq_true.2 ⟨x,hx,by rw [<- can_one hb (List.mem_range.1 hc) (List.mem_range.1 hx)];exact h⟩⟩
   ·rintro ⟨c,hc,h⟩
    obtain ⟨x,hx,h⟩:=List.any_eq_true.1 h
    exact ⟨c,hc,List.any_eq_true.2 ⟨x,hx,by rw [can_one hb (List.mem_range.1 hc) (List.mem_range.1 hx)];exact h⟩⟩
  rw [ea]
  by_cases h:anyF n (canF n ball f)=true
  ·rw [if_pos h,if_pos h]
   have es:stepG (confL n 1) (movesI ball (confL n 1)) ball n t (tabL n f)=tabL n (stepF n ball t f):=by
    unfold stepG
    rw [conf_one_len]
    refine tabL_congr fun c x hc hx => ?_
    unfold stepF
    rw [can_one hb hc hx,tab2_tabL f hc hx]
   rw [es]
   have hs:=negs_step (ball:=ball) ht h
   exact ih k2 (t+1) _ (by omega) (by omega) (by omega)
  ·rw [if_neg h,if_neg h]
theorem tm_one {n:Nat} (hn:n<=8) (es:List E) (v:Unit):tmG ((n:Int),es,v) 1=timesT n (ballF n es):=by
 unfold tmG cfG mvG cfG timesG timesT
 simp only [Int.toNat_natCast]
 have es':startG (confL n 1) n=tabL n startF:=by
  unfold startG
  rw [conf_one_len]
  refine tabL_congr fun c x hc hx => ?_
  rw [conf_one_get hc]
  unfold startF hasL
  by_cases e:c=x
  ·simp [e]
  ·have e2:¬(c:Int)=(x:Int):=by omega
   simp [e,e2]
 rw [es']
 have h1:=negs_le n startF
 have h2:n*n<=64:=by
  have:=Nat.mul_le_mul hn hn
  omega
 exact game_one (ballF_ok n es) 1000 65 1 startF (by omega) (by omega) (by omega)
end Go.V.W
namespace Go.V.W
open Go.Proofs
theorem vTable_lim (d) (r) (h:G_vTable d=some r):∃N,F_q82q N d=some r:=by
 obtain ⟨l,m,u⟩:=d
 unfold G_vTable at h
 split at h
 ·rename_i hl
  simp only [Bool.and_eq_true,decide_eq_true_eq] at hl
  obtain ⟨⟨h1,hrow⟩,rfl⟩:=hl
  have hl:l.length<=lim:=of_decide_eq_true h1
  have hmx:=lim_max hl
  cases h
  have key:∀k i f,i+k=l.length->k<f->q82q_l0 (l.length+1) f (l,l,(i:Int),())=some (.inr (.inl ())):=by
   intro k
   induction k with
   | zero=>
    intro i f h1 h2
    obtain ⟨f,rfl⟩:∃m,f=m+1:=⟨f-1,by omega⟩
    have hlt:decide ((i:Int)<(l.length:Int))=false:=decide_eq_false (by omega)
    show q82q_l0_r _ _ _=_
    unfold q82q_l0_r
    simp only [hlt,Bool.false_eq_true,if_false]
   | succ k ih=>
    intro i f h1 h2
    obtain ⟨f,rfl⟩:∃m,f=m+1:=⟨f-1,by omega⟩
    have hi:i<l.length:=by omega
    have ei:at_ K_Si l i=l[i]:=at_get (e:=K_Si) hi
    have hv:G_vInts (l[i],l[i],())=some (true,()):=by
     unfold G_vInts
     have:=List.all_eq_true.1 hrow _ (List.getElem_mem hi)
     simp only [this,decide_true,Bool.and_self,if_true]
    show q82q_l0_r _ _ _=_
    unfold q82q_l0_r
    simp only [lt_dec hi,if_true,idxIn_nat hi,Int.toNat_natCast,ei,hv,Option.bind_some,Bool.not_true,Bool.false_eq_true,if_false,wrap_up hi hmx]
    exact ih (i+1) f (by omega) (by omega)
  refine ⟨l.length+1,?_⟩
  unfold F_q82q
  have hk:=key l.length 0 (l.length+1) (by omega) (by omega)
  simp only [Int.natCast_zero] at hk
  simp only [bne_self_eq_false,Bool.false_eq_true,if_false,hk,Option.bind_some]
 ·cases h
theorem vMost_lim (d) (r) (h:G_vMost d=some r):∃N,F_laws_vMost N d=some r:=by
 obtain ⟨l,u⟩:=d
 unfold G_vMost at h
 split at h
 ·rename_i hl
  have hl:l.length<=lim:=of_decide_eq_true hl
  have hmx:=lim_max hl
  cases h
  have key:∀k i f (m:Int),i+k=l.length->k<f->laws_vMost_l0 (l.length+1) f (l,m,(i:Int),())=some (.inl ((l.drop i).foldl (fun m x=>if x>m then x else m) m,())):=by
   intro k
   induction k with
   | zero=>
    intro i f m h1 h2
    obtain ⟨f,rfl⟩:∃m,f=m+1:=⟨f-1,by omega⟩
    have hlt:decide ((i:Int)<(l.length:Int))=false:=decide_eq_false (by omega)
    rw [List.drop_of_length_le (by omega)]
    show laws_vMost_l0_r _ _ _=_
    unfold laws_vMost_l0_r
    simp only [hlt,Bool.false_eq_true,if_false,List.foldl_nil]
   | succ k ih=>
    intro i f m h1 h2
    obtain ⟨f,rfl⟩:∃m,f=m+1:=⟨f-1,by omega⟩
    have hi:i<l.length:=by omega
    have ei:at_ I l i=l[i]:=at_get (e:=I) hi
    rw [List.drop_eq_getElem_cons hi,List.foldl_cons]
    show laws_vMost_l0_r _ _ _=_
    unfold laws_vMost_l0_r
    simp only [lt_dec hi,if_true,idxIn_nat hi,Int.toNat_natCast,ei,wrap_up hi hmx]
    by_cases hg:l[i]>m
    ·simp only [hg,decide_true,if_true]
     exact ih (i+1) f _ (by omega) (by omega)
    ·simp only [hg,decide_false,Bool.false_eq_true,if_false]
     exact ih (i+1) f _ (by omega) (by omega)
  refine ⟨l.length+1,?_⟩
  unfold F_laws_vMost
  have hk:=key l.length 0 (l.length+1) 0 (by omega) (by omega)
  simp only [Int.natCast_zero,List.drop_zero] at hk
  simp only [hk,Option.bind_some]
  rfl
 ·cases h
theorem vNear_lim (d) (r) (h:G_vNear d=some r):∃N,F_laws_vNear N d=some r:=by
 obtain ⟨⟨n,es,v⟩,a,b,u⟩:=d
 unfold G_vNear at h
 split at h
 ·rename_i hl
  have hl:es.length<=lim:=of_decide_eq_true hl
  have hmx:=lim_max hl
  cases h
  have key:∀k i f,i+k=es.length->k<f->laws_vNear_l0 (es.length+1) f (a,b,(n,es,v),(i:Int),())=some (if nearI (es.drop i) a b=true then .inl (true,()) else .inr (.inl ())):=by
   intro k
   induction k with
   | zero=>
    intro i f h1 h2
    obtain ⟨f,rfl⟩:∃m,f=m+1:=⟨f-1,by omega⟩
    have hlt:decide ((i:Int)<(es.length:Int))=false:=decide_eq_false (by omega)
    rw [List.drop_of_length_le (by omega)]
    show laws_vNear_l0_r _ _ _=_
    unfold laws_vNear_l0_r
    simp only [hlt,Bool.false_eq_true,if_false,nearI,List.any_nil]
   | succ k ih=>
    intro i f h1 h2
    obtain ⟨f,rfl⟩:∃m,f=m+1:=⟨f-1,by omega⟩
    have hi:i<es.length:=by omega
    have ei:at_ K_Piiq es i=es[i]:=at_get (e:=K_Piiq) hi
    rw [List.drop_eq_getElem_cons hi]
    have hc:=ih (i+1) f (by omega) (by omega)
    show laws_vNear_l0_r _ _ _=_
    unfold laws_vNear_l0_r
    generalize es[i]=e at ei |-
    obtain ⟨p,q,w⟩:=e
    have q1:eqB K_Piiq ((p,q,w):E) ((a,b,()):E)=(p==a&&q==b):=by
     rw [eqB_e,Bool.eq_iff_iff]
     simp
    have q2:eqB K_Piiq ((p,q,w):E) ((b,a,()):E)=(p==b&&q==a):=by
     rw [eqB_e,Bool.eq_iff_iff]
     simp
    simp only [lt_dec hi,if_true,idxIn_nat hi,Int.toNat_natCast,ei,q1,q2,wrap_up hi hmx,nearI,List.any_cons]
    unfold nearI at hc
    by_cases h1:(p==a&&q==b)=true
    ·simp only [h1,if_true,Bool.true_or]
    ·by_cases h2:(p==b&&q==a)=true
     ·simp only [h1,h2,if_true,Bool.false_eq_true,if_false,Bool.or_true,Bool.true_or]
     ·simp only [h1,h2,if_false,Bool.false_or,Bool.not_eq_true] at h1 h2 |-
      simp only [h1,h2,Bool.false_eq_true,if_false,Bool.false_or]
      exact hc
  refine ⟨es.length+1,?_⟩
  unfold F_laws_vNear
  have hk:=key es.length 0 (es.length+1) (by omega) (by omega)
  simp only [Int.natCast_zero,List.drop_zero] at hk
  cases hab:(a==b) with
  | true=>simp only [hab,if_true,Bool.true_or]
  | false=>
   simp only [hab,Bool.false_eq_true,if_false,hk,Option.bind_some,Bool.false_or]
   cases nearI es a b<;>simp
 ·cases h
theorem start_l0 (N:Nat) (T:Tab) (c:Nat) (hc:c<T.length) (hlen:(at_ K_Si T c).length=T.length) (h100:T.length<=100):∀k r f (m:Int),r+k=T.length->k<f->0<=m ->
  ∃o,q63q_l0 N f (T,(c:Int),m,(r:Int),())=some o/\((o=.inl (-1,())/\worstL (fun z=>z) ((at_ K_Si T c).drop r) m = -1)\/(o=.inr (.inl (worstL (fun z=>z) ((at_ K_Si T c).drop r) m,())))):=by
 intro k
 induction k with
 | zero=>
  intro r f m h1 h2 h3
  obtain ⟨f,rfl⟩:∃m,f=m+1:=⟨f-1,by omega⟩
  have hlt:decide ((r:Int)<(T.length:Int))=false:=decide_eq_false (by omega)
  rw [List.drop_of_length_le (by omega)]
  refine ⟨.inr (.inl (m,())),?_,.inr rfl⟩
  show q63q_l0_r _ _ _=_
  unfold q63q_l0_r
  simp only [hlt,Bool.false_eq_true,if_false]
 | succ k ih=>
  intro r f m h1 h2 h3
  obtain ⟨f,rfl⟩:∃m,f=m+1:=⟨f-1,by omega⟩
  have hr:r<T.length:=by omega
  have hr2:r<(at_ K_Si T c).length:=by omega
  have er:at_ I (at_ K_Si T c) r=(at_ K_Si T c)[r]:=at_get (e:=I) hr2
  rw [List.drop_eq_getElem_cons hr2]
  simp only [worstL]
  by_cases hn:(at_ K_Si T c)[r]<0
  ·refine ⟨.inl (-1,()),?_,.inl ⟨rfl,by rw [if_pos hn]⟩⟩
   show q63q_l0_r _ _ _=_
   unfold q63q_l0_r
   simp only [lt_dec hr,if_true,idxIn_nat hc,idxIn_nat hr2,Int.toNat_natCast,er,hn,decide_true]
  ·rw [if_neg hn]
   obtain ⟨o,e1,e2⟩:=ih (r+1) f (if m<(at_ K_Si T c)[r] then (at_ K_Si T c)[r] else m) (by omega) (by omega) (by split<;>omega)
   refine ⟨o,?_,e2⟩
   rw [<- e1]
   show q63q_l0_r _ _ _=_
   unfold q63q_l0_r
   simp only [lt_dec hr,if_true,idxIn_nat hc,idxIn_nat hr2,Int.toNat_natCast,er,hn,decide_false,Bool.false_eq_true,if_false,most_eq,small_wrap (show r<=100000 by omega)]
theorem l3Start_lim (d) (r) (h:G_l3Start d=some r):∃N,F_q63q N d=some r:=by
 obtain ⟨T,c,u⟩:=d
 unfold G_l3Start at h
 split at h
 ·rename_i hh
  simp only [Bool.and_eq_true,decide_eq_true_eq] at hh
  obtain ⟨⟨hq,h100⟩,hc⟩:=hh
  have hc:=inB_iff.1 hc
  obtain ⟨c,rfl⟩:=nat_of hc.1
  have hcl:c<T.length:=by omega
  obtain ⟨hsq,hbd⟩:=sqB_bound hq
  obtain ⟨t1,t2⟩:=sqL_parts hsq
  have ec:at_ K_Si T c=T[c]:=at_get (e:=K_Si) hcl
  have hT:T.getD c []=at_ K_Si T c:=by rw [List.getD_eq_getElem?_getD,List.getElem?_eq_getElem hcl,Option.getD_some,ec]
  cases h
  obtain ⟨o,e1,e2⟩:=start_l0 101 T c hcl (t2 c hcl) h100 T.length 0 101 0 (by omega) (by omega) (by omega)
  simp only [Int.natCast_zero,List.drop_zero] at e1 e2
  refine ⟨101,?_⟩
  unfold F_q63q worstR
  simp only [e1,Option.bind_some,Int.toNat_natCast,hT]
  rcases e2 with ⟨rfl,e2⟩ | rfl
  ·rw [e2]
  ·rfl
 ·cases h
theorem bc_l0 (N:Nat) (T:Tab) (hT:T.length<=1000) (hr:∀r∈T,1<=r.length/\r.length<=1000 /\ ∀x∈r,-1<=x):∀(k c f:Nat) (b l:Int),c+k=T.length->k<f ->
  q29q_l0 N f ((oneOut (b,l)).1,(oneOut (b,l)).2.1,(oneOut (b,l)).2.2.1,T,(T.length:Int),(c:Int),())=some (.inl (oneOut (bestRow (T.drop c) (c:Int) b l))):=by
 intro k
 induction k with
 | zero=>
  intro c f b l h1 h2
  obtain ⟨f,rfl⟩:∃m,f=m+1:=⟨f-1,by omega⟩
  have e:c=T.length:=by omega
  subst e
  rw [List.drop_of_length_le (Nat.le_refl _)]
  show q29q_l0_r _ _ _=_
  unfold q29q_l0_r
  simp only [lt_not,Bool.false_eq_true,if_false,bestRow]
 | succ k ih=>
  intro c f b l h1 h2
  obtain ⟨f,rfl⟩:∃m,f=m+1:=⟨f-1,by omega⟩
  have hc:c<T.length:=by omega
  have ec:at_ K_Si T c=T[c]:=at_get (e:=K_Si) hc
  obtain ⟨r1,r2,r3⟩:=hr _ (List.getElem_mem hc)
  obtain ⟨n1,n2⟩:=has_neg r3
  have e1:((c:Int)+1)=((c+1:Nat):Int):=rfl
  have hok:okL T[c]=true:=okL_of (by omega)
  have hc0:oneOut ((c:Int),worstR T[c])=((c:Int),worstR T[c],true,()):=by unfold oneOut;rw [if_neg (by simp only;omega)]
  rw [List.drop_eq_getElem_cons hc]
  show q29q_l0_r _ _ _=_
  unfold q29q_l0_r
  simp only [lt_dec hc,if_true,idxIn_nat hc,Int.toNat_natCast,ec,has2 hok,Option.bind_some,small_wrap (show c<=100000 by omega),bestRow]
  simp only [e1]
  cases hh:hasL T[c] (-1) with
  | true=>
   have hw:¬0<=worstR T[c]:=by have:=n1 hh;omega
   simp only [if_true,hw,if_false,false_and]
   exact ih (c+1) f b l (by omega) (by omega)
  | false=>
   obtain ⟨hw,hall⟩:=n2 hh
   have hmx:G_max (T[c],())=some (worstR T[c],()):=by
    unfold G_max
    have a1:decide (0<T[c].length)=true:=decide_eq_true (by omega)
    simp only [hok,a1,Bool.and_self,if_true]
    rw [max_eq hall (by omega)]
   have hi:=ih (c+1) f (c:Int) (worstR T[c]) (by omega) (by omega)
   rw [hc0] at hi
   simp only [Bool.false_eq_true,if_false,hmx,Option.bind_some,hw,true_and]
   by_cases hb:b<0
   ·have ho:oneOut (b,l)=(0,0,false,()):=by unfold oneOut;rw [if_pos hb]
    simp only [ho,hb,Bool.not_false,if_true,true_or]
    exact hi
   ·have ho:oneOut (b,l)=(b,l,true,()):=by unfold oneOut;rw [if_neg hb]
    have hi2:=ih (c+1) f b l (by omega) (by omega)
    rw [ho] at hi2
    simp only [ho,Bool.not_true,Bool.false_eq_true,if_false]
    by_cases hlt:worstR T[c]<l
    ·simp only [hb,hlt,decide_true,if_true,or_true]
     exact hi
    ·simp only [hb,hlt,decide_false,Bool.false_eq_true,if_false,or_self]
     exact hi2
theorem bestCop_lim (d) (r) (h:G_bestCop d=some r):∃N,F_q29q N d=some r:=by
 obtain ⟨⟨l,v⟩,u⟩:=d
 unfold G_bestCop at h
 split at h
 ·rename_i hn
  have hn:netB l=true:=hn
  obtain ⟨p1,p2,p3,p4⟩:=netB_parts hn
  cases h
  have hsq:sqL l.length (timesT l.length (ballM l))=true:=tabL_sq _ _
  obtain ⟨t1,t2⟩:=sqL_parts hsq
  have hr:∀r∈timesT l.length (ballM l),1<=r.length/\r.length<=1000 /\ ∀x∈r,-1<=x:=fun r hr=>by
   obtain ⟨i,hi,rfl⟩:=List.getElem_of_mem hr
   have hil:i<l.length:=by omega
   have ei:at_ K_Si (timesT l.length (ballM l)) i=(timesT l.length (ballM l))[i]:=at_get (e:=K_Si) hi
   have hlen:=t2 i hil
   rw [ei] at hlen
   refine ⟨by omega,by omega,fun x hx => ?_⟩
   obtain ⟨j,hj,rfl⟩:=List.getElem_of_mem hx
   have hb:=(sqB_bound (times_facts (ballM_ok hn)).1).2 i j hil (by omega)
   rw [<- tab2_at hsq hil (show j<l.length by omega),ei] at hb
   rw [at_get (e:=I) hj] at hb
   exact hb.1
  have hl:=bc_l0 1010 (timesT l.length (ballM l)) (by omega) hr (timesT l.length (ballM l)).length 0 1010 (-1) 0 (by omega) (by omega)
  simp only [Int.natCast_zero,List.drop_zero] at hl
  have ho:oneOut ((-1:Int),(0:Int))=(0,0,false,()):=rfl
  rw [ho] at hl
  refine ⟨1010,?_⟩
  unfold F_q29q G_copTimes
  simp only [hn,if_true,Option.bind_some,hl]
 ·cases h
theorem sc_l0 (N:Nat) (y:Gr) (T:Tab) (hy:y.1=(T.length:Int)) (hq:sqB T.length T=true) (h100:T.length<=100):∀(k c f:Nat) (b l:Int),c+k=T.length->k<f->BestI T b l -> -1<=b ->
  q27q_l0 N f (y,T,b,(c:Int),())=some (.inl (T,(bestRow (T.drop c) (c:Int) b l).1,())):=by
 have hst:∀c:Nat,c<T.length->G_l3Start (T,(c:Int),())=some (worstR (at_ K_Si T c),()):=fun c hc=>by
  unfold G_l3Start
  have h1:inB 0 ((T.length:Int)-1) (c:Int)=true:=inB_iff.2 (by omega)
  have ec:at_ K_Si T c=T[c]:=at_get (e:=K_Si) hc
  simp only [hq,h1,h100,decide_true,Bool.and_self,if_true,Int.toNat_natCast,List.getD_eq_getElem?_getD,List.getElem?_eq_getElem hc,Option.getD_some,ec]
 intro k
 induction k with
 | zero=>
  intro c f b l h1 h2 h3 h4
  obtain ⟨f,rfl⟩:∃m,f=m+1:=⟨f-1,by omega⟩
  have e:c=T.length:=by omega
  subst e
  rw [List.drop_of_length_le (Nat.le_refl _)]
  show q27q_l0_r _ _ _=_
  unfold q27q_l0_r
  simp only [hy,lt_not,Bool.false_eq_true,if_false,bestRow]
 | succ k ih=>
  intro c f b l h1 h2 h3 h4
  obtain ⟨f,rfl⟩:∃m,f=m+1:=⟨f-1,by omega⟩
  have hc:c<T.length:=by omega
  have ec:at_ K_Si T c=T[c]:=at_get (e:=K_Si) hc
  have hI:BestI T (c:Int) (worstR T[c]):=.inr ⟨c,hc,rfl,by rw [ec]⟩
  have e1:((c:Int)+1)=((c+1:Nat):Int):=rfl
  have hs:=hst c hc
  rw [ec] at hs
  rw [List.drop_eq_getElem_cons hc]
  show q27q_l0_r _ _ _=_
  unfold q27q_l0_r
  simp only [hy,lt_dec hc,if_true,hs,Option.bind_some,small_wrap (show c<=100000 by omega),bestRow]
  simp only [e1]
  by_cases hw:0<=worstR T[c]
  ·have hw':decide (worstR T[c]>=0)=true:=decide_eq_true hw
   by_cases hb:b<0
   ·simp only [hw',hw,hb,decide_true,if_true,true_or,and_self]
    exact ih (c+1) f (c:Int) (worstR T[c]) (by omega) (by omega) hI (by omega)
   ·rcases h3 with h3 | ⟨p,p1,rfl,rfl⟩
    ·exact absurd h3 hb
    ·simp only [hw',hw,hb,decide_true,decide_false,Bool.false_eq_true,if_true,if_false,hst p p1,Option.bind_some,false_or,true_and]
     by_cases hlt:worstR T[c]<worstR (at_ K_Si T p)
     ·simp only [hlt,decide_true,if_true]
      exact ih (c+1) f (c:Int) (worstR T[c]) (by omega) (by omega) hI (by omega)
     ·simp only [hlt,decide_false,Bool.false_eq_true,if_false]
      exact ih (c+1) f (p:Int) (worstR (at_ K_Si T p)) (by omega) (by omega) (.inr ⟨p,p1,rfl,rfl⟩) (by omega)
  ·have hw':decide (worstR T[c]>=0)=false:=decide_eq_false hw
   simp only [hw',hw,decide_false,Bool.false_eq_true,if_false,false_and]
   exact ih (c+1) f b l (by omega) (by omega) h3 h4
theorem specCapOne_lim (d) (r) (h:G_capOne d=some r):∃N,F_q27q N d=some r:=by
 obtain ⟨⟨n,es,v⟩,u⟩:=d
 unfold G_capOne at h
 split at h
 ·rename_i ho
  have ho:okL es=true:=ho
  cases h
  refine ⟨200,?_⟩
  unfold F_q27q F_q75q G_graph capOne
  simp only [ho,if_true,Option.bind_some]
  cases hg:graphB (n,es,v) with
  | false=>simp only [Bool.false_eq_true,if_false,Bool.not_false,if_true,Option.bind_some]
  | true=>
   obtain ⟨n0,n8⟩:=graphB_n hg
   obtain ⟨a,rfl⟩:=nat_of n0
   by_cases ha:(a:Int)>0
   ·have hT:oneT ((a:Int),es,v)=timesT a (ballF a es):=rfl
    have hq:=(times_facts (ballF_ok a es)).1
    obtain ⟨hsq,_⟩:=sqB_bound hq
    obtain ⟨t1,t2⟩:=sqL_parts hsq
    rw [<- t1] at hq
    have hl:=sc_l0 200 ((a:Int),es,v) (timesT a (ballF a es)) (by simp only;omega) (by rw [t1] at hq |-;exact hq) (by omega) (timesT a (ballF a es)).length 0 200 (-1) 0 (by omega) (by omega) (.inl (by omega)) (by omega)
    have hI:=bestRow_inv (timesT a (ballF a es)) (timesT a (ballF a es)).length 0 (-1) 0 (by omega) (.inl (by omega))
    simp only [Int.natCast_zero,List.drop_zero] at hl hI
    simp only [if_true,ha,decide_true,Option.bind_some,Bool.not_true,Bool.false_eq_true,if_false,G_l3Times,graph_grB hg ho,Int.toNat_natCast,hl,hT,oneOut]
    rcases hI with hI | ⟨p,p1,p2,p3⟩
    ·simp only [hI,decide_true,if_true]
    ·have hneg:¬((p:Int)<0):=by omega
     have hs:G_l3Start (timesT a (ballF a es),(p:Int),())=some (worstR (at_ K_Si (timesT a (ballF a es)) p),()):=by
      unfold G_l3Start
      have h1:inB 0 (((timesT a (ballF a es)).length:Int)-1) (p:Int)=true:=inB_iff.2 (by omega)
      have h100:decide ((timesT a (ballF a es)).length<=100)=true:=decide_eq_true (by omega)
      have ec:at_ K_Si (timesT a (ballF a es)) p=(timesT a (ballF a es))[p]:=at_get (e:=K_Si) p1
      have hq2:sqB (timesT a (ballF a es)).length (timesT a (ballF a es))=true:=by rw [t1] at hq |-;exact hq
      simp only [hq2,h1,h100,Bool.and_self,if_true,Int.toNat_natCast,List.getD_eq_getElem?_getD,List.getElem?_eq_getElem p1,Option.getD_some,ec]
     simp only [p2,p3,hneg,decide_false,Bool.false_eq_true,if_false,hs,Option.bind_some]
   ·have ha0:a=0:=by omega
    subst ha0
    have hT:oneT (((0:Nat):Int),es,v)=[]:=rfl
    have hb:bestRow [] 0 (-1) 0=(-1,0):=rfl
    simp only [if_true,ha,decide_false,Option.bind_some,Bool.not_false,hT,hb,oneOut]
    rfl
 ·cases h
theorem implCT1 {n:Int} {es:List E} {v:Unit} (ho:okL es=true) (u:Unit):F_q30q 0 ((n,es,v),u)=some (capOne (n,es,v)):=by
 unfold F_q30q G_graph capOne
 simp only [ho,if_true,Option.bind_some]
 cases hg:graphB (n,es,v) with
 | false=>simp only [Bool.false_eq_true,if_false,Bool.not_false,if_true]
 | true=>
  obtain ⟨n0,n8⟩:=graphB_n hg
  obtain ⟨a,rfl⟩:=nat_of n0
  obtain ⟨ha,g1,g2⟩:=edges_of hg
  obtain ⟨nb,nl⟩:=netB_net ha g1
  have hTT:timesT (toI (netN a es)).length (ballM (toI (netN a es)))=timesT a (ballF a es):=by
   rw [nl]
   exact tabL_congr (timesF_congr (fun x hx=>ball_same ha g1 hx) 65 1 startF startF fun _ _ _ _=>rfl)
  have hT:oneT ((a:Int),es,v)=timesT a (ballF a es):=rfl
  simp only [Bool.not_true,Bool.false_eq_true,if_false,net_some hg ho,Option.bind_some,G_bestCop,nb,hTT,if_true,hT]
end Go.V.W
namespace Go.V.W
open Go.Proofs
theorem at_l {e:Kd} {l:List e.den} {i:Nat} (h:i<l.length):at_ e l i=l[i]:=at_get h
end Go.V.W
namespace Go.V.W
structure Inv3 (p n:Nat) (ball:Nat->Int->List Int) (f:Nat->Nat->Nat->Int):Prop where
 low:∀r c q,-1<=f r c q
 home:∀r c,f r c c=0
 away:∀r c q,c≠q->f r c q≠0
 why:∀r c q,r<p->c<n->q<n->0<=f r c q->c=q \/ ∃b∈ball r (c:Int),0<=afterT (ball r) (tabL n (f ((r+1) % p))) b (q:Int)
theorem Inv3.start (p n:Nat) (ball:Nat->Int->List Int):Inv3 p n ball start3:=by
 refine ⟨fun r c q => ?_,fun r c => ?_,fun r c q h => ?_,fun r c q _ _ _ h => ?_⟩
 ·unfold start3 startF;split<;>omega
 ·unfold start3 startF;simp
 ·unfold start3 startF;rw [if_neg h];omega
 ·unfold start3 startF at h
  by_cases e:c=q
  ·exact .inl e
  ·rw [if_neg e] at h;omega
def okBalls (p n:Nat) (ball:Nat->Int->List Int):Prop := ∀r,r<p->okBall n (ball r)
theorem after_mono {n:Nat} {ball:Int->List Int} (hb:okBall n ball) {f g:Nat->Nat->Int} (h:∀c q,0<=f c q->0<=g c q) {b q:Nat} (hbn:b<n) (hq:q<n) (h0:0<=afterT ball (tabL n f) (b:Int) (q:Int)):0<=afterT ball (tabL n g) (b:Int) (q:Int):=by
 unfold afterT at h0 |-
 by_cases e:(b:Int)=(q:Int)
 ·rw [if_pos e];exact Int.le_refl _
 ·rw [if_neg e] at h0 |-
  rcases worst_spec (tab2 (tabL n f) (b:Int)) (ball (q:Int)) 0 with ⟨_,h1⟩ | ⟨h1,_,_⟩
  ·omega
  ·rcases worst_spec (tab2 (tabL n g) (b:Int)) (ball (q:Int)) 0 with ⟨⟨x,hx,h2⟩,_⟩ | ⟨_,h2,_⟩
   ·exfalso
    obtain ⟨y,hy,rfl⟩:=hb q hq x hx
    have:=(h1 _ hx).1
    rw [tab2_tabL _ hbn hy] at this h2
    have:=h _ _ this
    omega
   ·exact h2
theorem Inv3.next {p n:Nat} {ball:Nat->Int->List Int} (hb:okBalls p n ball) {t:Int} (ht:1<=t) {f:Nat->Nat->Nat->Int} (hI:Inv3 p n ball f):Inv3 p n ball (step3 p n ball t f):=by
 have hkeep:∀r c q,0<=f r c q->step3 p n ball t f r c q=f r c q:=fun r c q h=>by
  unfold step3 can3
  have:decide (f r c q<0)=false:=by simp;omega
  simp [this]
 have hge:∀r c q,0<=f r c q->0<=step3 p n ball t f r c q:=fun r c q h=>by rw [hkeep r c q h];exact h
 refine ⟨fun r c q => ?_,fun r c => ?_,fun r c q h => ?_,fun r c q hr hc hq h => ?_⟩
 ·unfold step3;split
  ·omega
  ·exact hI.low r c q
 ·rw [hkeep r c c (by rw [hI.home];exact Int.le_refl _)];exact hI.home r c
 ·unfold step3;split
  ·omega
  ·exact hI.away r c q h
 ·have key:(∃b∈ball r (c:Int),0<=afterT (ball r) (tabL n (f ((r+1) % p))) b (q:Int)) -> ∃b∈ball r (c:Int),0<=afterT (ball r) (tabL n (step3 p n ball t f ((r+1) % p))) b (q:Int):=by
   rintro ⟨b,hbm,h1⟩
   obtain ⟨y,hy,rfl⟩:=hb r hr c hc b hbm
   exact ⟨_,hbm,after_mono (hb r hr) (hge _) hy hq h1⟩
  by_cases hf:0<=f r c q
  ·exact (hI.why r c q hr hc hq hf).imp _root_.id key
  ·right
   have hcan:can3 p n ball f r c q=true:=by
    cases hcan:can3 p n ball f r c q with
    | true=>rfl
    | false=>unfold step3 at h;rw [if_neg (by rw [hcan];simp)] at h;exact absurd h hf
   unfold can3 at hcan
   simp only [Bool.and_eq_true,List.any_eq_true,decide_eq_true_eq] at hcan
   exact key hcan.2
end Go.V.W
namespace Go.V.W
open Go.Proofs
structure TT (nets:List Nt) (p n:Nat):Prop where
 ok:netsB n nets=true
 len:nets.length=p
 n8:n<=8
end Go.V.W
namespace Go.V.W
open Go.Proofs
theorem max_lim (d) (r) (h:G_max d=some r):∃N,F_q14q N d=some r:=by
 obtain ⟨l,_⟩:=d
 unfold G_max at h
 split at h
 ·rename_i hc
  simp only [Bool.and_eq_true,decide_eq_true_eq] at hc
  obtain ⟨hl,h0⟩:=hc
  have h0:0<l.length:=h0
  have hmx:=lim_max (okL_lim hl)
  have h:=Option.some.inj h
  subst h
  have key:∀(k i f:Nat) (m:Int),i+k=l.length->k<f->q14q_l0 (l.length+1) f (l,m,(i:Int),())=some (.inl ((l.drop i).foldl (fun a b=>if a<b then b else a) m,())):=by
   intro k
   induction k with
   | zero=>
    intro i f m h1 h2
    obtain ⟨f,rfl⟩:∃z,f=z+1:=⟨f-1,by omega⟩
    have e:i=l.length:=by omega
    subst e
    rw [List.drop_of_length_le (Nat.le_refl _)]
    simp [q14q_l0,q14q_l0_r]
   | succ k ih=>
    intro i f m h1 h2
    obtain ⟨f,rfl⟩:∃z,f=z+1:=⟨f-1,by omega⟩
    have hi:i<l.length:=by omega
    show q14q_l0_r (l.length+1) (q14q_l0 (l.length+1) f) _=_
    unfold q14q_l0_r
    rw [List.drop_eq_getElem_cons hi]
    simp only [lt_dec hi,if_true,idxIn_nat hi,Int.toNat_natCast,at_l (e:=I) hi,wrap_up hi hmx,List.foldl_cons]
    exact ih (i+1) f _ (by omega) (by omega)
  refine ⟨l.length+1,?_⟩
  unfold F_q14q
  have h1:decide ((l.length:Int)<1)=false:=by simp;omega
  have i0:idxIn (0:Int) l.length=true:=idxIn_nat h0
  have z0:(0:Int).toNat=0:=rfl
  have:=key (l.length-1) 1 (l.length+1) l[0] (by omega) (by omega)
  simp only [Int.natCast_one] at this
  simp only [h1,Bool.false_eq_true,if_false,i0,if_true,z0,at_l (e:=I) h0,this,Option.bind_some]
  cases l with
  | nil=>simp at h0
  | cons a l=>simp
 ·cases h
end Go.V.W
namespace Go.V.W
open Go.Proofs
theorem and255 (x:Int):0<=bits .and .u64 x 255/\bits .and .u64 x 255<=255:=by
 have h:bits .and .u64 x 255=IntKind.wrap .u64 ((BitVec.ofInt 64 x&&&BitVec.ofInt 64 255).toNat:Int):=rfl
 have e:(BitVec.ofInt 64 x&&&BitVec.ofInt 64 255).toNat<=255:=by
  rw [BitVec.toNat_and]
  have:(BitVec.ofInt 64 255).toNat=255:=by decide
  rw [this]
  exact Nat.and_le_right
 rw [h]
 generalize (BitVec.ofInt 64 x&&&BitVec.ofInt 64 255).toNat=m at e
 unfold IntKind.wrap
 simp [IntKind.bits,IntKind.signed]
 omega
theorem next_ok {c:Cur} {u:Unit} (h:CurB c) (hf:c.2.1<=far_):Ok (F_q44q 0 (c,u)) fun r=>0<=r.1/\r.1<=255/\Adv 1 c r.2.1:=by
 obtain ⟨l,a,s,_⟩:=c
 obtain ⟨hb,ha⟩:=h
 simp only at hb ha hf
 unfold far_ at hf
 have w1:IntKind.wrap .i64 (a+1)=a+1:=wrap_in _ (by omega) (by omega)
 have hx:=and255
 have w2:∀x:Int,IntKind.wrap .i64 (bits .and .u64 x 255)=bits .and .u64 x 255:=fun x=>wrap_in _ (by have:=(hx x).1;omega) (by have:=(hx x).2;omega)
 have adv:∀s',Adv 1 (l,a,s,()) (l,a+1,s',()):=fun s'=>⟨⟨hb,by simp only;omega⟩,by simp only;omega⟩
 unfold F_q44q
 simp only [w1,w2]
 refine Ok.ite (fun h1 => ?_) (fun h1 => ?_)
 ·have h1:a<l.length:=of_decide_eq_true h1
  refine Ok.pos (by unfold idxIn;simp;omega) ?_
  obtain ⟨v,hv⟩:∃v:Int,at_ (.int .u8) l a.toNat=v:=⟨_,rfl⟩
  have hv':0<=v/\v<=255:=by
   have hlt:a.toNat<l.length:=by omega
   rw [at_get (e:=.int .u8) hlt] at hv
   rw [<- hv]
   exact hb _ (List.getElem_mem hlt)
  rw [hv]
  have w3:IntKind.wrap .i64 v=v:=wrap_in _ (by omega) (by omega)
  simp only [w3]
  refine Ok.ite (fun _=>Ok.some ⟨hv'.1,hv'.2,adv _⟩) (fun _=>Ok.pos rfl (Ok.some ⟨(hx _).1,(hx _).2,adv _⟩))
 ·refine Ok.ite (fun _=>Ok.some ⟨by simp,by simp,adv _⟩) (fun _=>Ok.pos rfl (Ok.some ⟨(hx _).1,(hx _).2,adv _⟩))
theorem tmod_in {x n:Int} (h:0<=x) (hn:0<n):0<=x.tmod n/\x.tmod n<n:=by
 rw [Int.tmod_eq_emod_of_nonneg h]
 exact ⟨Int.emod_nonneg _ (by omega),Int.emod_lt_of_pos _ hn⟩
theorem pick_ok {c:Cur} {n:Int} {u:Unit} (h:CurB c) (hf:c.2.1+2<=far_):Ok (F_q39q 0 (c,n,u)) fun r=>0<=r.1/\(r.1<n\/r.1=0)/\Adv 2 c r.2.1:=by
 unfold F_q39q
 simp only
 refine Ok.ite (fun h1=>Ok.some ⟨Int.le_refl _,.inr rfl,h,by simp only;omega⟩) (fun h1 => ?_)
 have h1:¬n<=1:=of_decide_eq_false h1
 have hn:(n != 0)=true:=by simp;omega
 refine Ok.bind (next_ok h (by omega)) fun r hr => ?_
 obtain ⟨r1,r2,r3⟩:=hr
 refine Ok.ite (fun h2 => ?_) (fun h2 => ?_)
 ·have w1:IntKind.wrap .i64 (r.1*256)=r.1*256:=wrap_in _ (by omega) (by omega)
  refine Ok.bind (next_ok r3.1 (by have:=r3.2;omega)) fun q hq => ?_
  obtain ⟨q1,q2,q3⟩:=hq
  have w2:IntKind.wrap .i64 (r.1*256+q.1)=r.1*256+q.1:=wrap_in _ (by omega) (by omega)
  refine Ok.pos hn (Ok.some ?_)
  rw [w1,w2]
  have:=tmod_in (x:=r.1*256+q.1) (n:=n) (by omega) (by omega)
  exact ⟨this.1,.inl this.2,(r3.trans q3).le (by omega)⟩
 ·refine Ok.pos hn (Ok.some ?_)
  have:=tmod_in (x:=r.1) (n:=n) (by omega) (by omega)
  exact ⟨this.1,.inl this.2,r3.le (by omega)⟩
theorem one_ok {c:Cur} {n:Int} {u:Unit} (h:CurB c) (hf:c.2.1+2<=far_):Ok (F_q49q 0 (c,n,u)) fun r=>Adv 2 c r.2.1:=by
 unfold F_q49q
 simp only
 exact Ok.bind (pick_ok h hf) fun r hr=>Ok.some hr.2.2
theorem among_ok {c:Cur} {l:List Int} {u:Unit} (h:CurB c) (hf:c.2.1+2<=far_) (hl:0<l.length):Ok (F_q35q 0 (c,l,u)) fun r=>r.1∈l/\Adv 2 c r.2.1:=by
 unfold F_q35q
 simp only
 refine Ok.bind (pick_ok h hf) fun r hr => ?_
 obtain ⟨r1,r2,r3⟩:=hr
 have hlt:r.1.toNat<l.length:=by omega
 refine Ok.pos (by unfold idxIn;simp;omega) (Ok.some ⟨?_,r3⟩)
 rw [at_get (e:=I) hlt]
 exact List.getElem_mem hlt
end Go.V.W
namespace Go.V.W
open Go.Proofs
theorem pa_l0 (N:Nat) (n:Nat) (hn:n<=8) (z:Gr) (a:Int):∀k x f (es:List E),x+k=n->k<f->es.length<=x -> ∃es',q76q_l0 N f ((n:Int),z,(a,es,()),(x:Int),())=some (.inl (z,(a,es',()),()))/\es'.length<=100:=by
 intro k
 induction k with
 | zero=>
  intro x f es h1 h2 h3
  obtain ⟨f,rfl⟩:∃m,f=m+1:=⟨f-1,by omega⟩
  refine ⟨es,?_,by omega⟩
  have hlt:decide (((x+1:Nat):Int)<(n:Int))=false:=decide_eq_false (by omega)
  show q76q_l0_r _ _ _=_
  unfold q76q_l0_r
  simp only [small_wrap (show x<=100000 by omega),hlt,Bool.false_eq_true,if_false]
 | succ k ih=>
  intro x f es h1 h2 h3
  obtain ⟨f,rfl⟩:∃m,f=m+1:=⟨f-1,by omega⟩
  by_cases hx:x+1<n
  ·have hlt:decide (((x+1:Nat):Int)<(n:Int))=true:=decide_eq_true (by omega)
   have hle:∀e:E,decide (es.length+List.length [e]<=lim)=true:=fun e=>by unfold lim;simp;omega
   obtain ⟨es',e1,e2⟩:=ih (x+1) f (es++[((x:Int),((x+1:Nat):Int),())]) (by omega) (by omega) (by simp;omega)
   refine ⟨es',?_,e2⟩
   rw [<- e1]
   show q76q_l0_r _ _ _=_
   unfold q76q_l0_r
   simp only [small_wrap (show x<=100000 by omega),hlt,if_true,hle]
  ·refine ⟨es,?_,by omega⟩
   have hlt:decide (((x+1:Nat):Int)<(n:Int))=false:=decide_eq_false (by omega)
   show q76q_l0_r _ _ _=_
   unfold q76q_l0_r
   simp only [small_wrap (show x<=100000 by omega),hlt,Bool.false_eq_true,if_false]
theorem path_ok (n:Nat) (hn:n<=8):Ok (pickF F_q76q P_path ((n:Int),())) (P_path ((n:Int),())):=by
 refine Ok.pick 20 ?_
 obtain ⟨es,e1,e2⟩:=pa_l0 20 n hn (0,[],()) (n:Int) n 0 20 [] (by omega) (by omega) (by simp)
 refine ⟨(((n:Int),es,()),()),?_,e2⟩
 unfold F_q76q
 simp only [Int.natCast_zero] at e1
 simp only [e1,Option.bind_some]
theorem wh_l2 (N:Nat) (n:Nat) (hn:n<=8) (z:Gr) (a:Int) (x:Int):∀k y f (es:List E),y+k=n->k<f->es.length+k<=1000 -> ∃es',q38q_l2 N f ((n:Int),z,(a,es,()),x,(y:Int),())=some (.inl ((n:Int),z,(a,es',()),x,()))/\es'.length=es.length+k:=by
 intro k
 induction k with
 | zero=>
  intro y f es h1 h2 h3
  obtain ⟨f,rfl⟩:∃m,f=m+1:=⟨f-1,by omega⟩
  refine ⟨es,?_,by omega⟩
  have hlt:decide ((y:Int)<(n:Int))=false:=decide_eq_false (by omega)
  show q38q_l2_r _ _ _=_
  unfold q38q_l2_r
  simp only [hlt,Bool.false_eq_true,if_false]
 | succ k ih=>
  intro y f es h1 h2 h3
  obtain ⟨f,rfl⟩:∃m,f=m+1:=⟨f-1,by omega⟩
  have hlt:decide ((y:Int)<(n:Int))=true:=decide_eq_true (by omega)
  have hle:∀e:E,decide (es.length+List.length [e]<=lim)=true:=fun e=>by unfold lim;simp;omega
  obtain ⟨es',e1,e2⟩:=ih (y+1) f (es++[(x,(y:Int),())]) (by omega) (by omega) (by simp;omega)
  refine ⟨es',?_,by rw [e2];simp;omega⟩
  rw [<- e1]
  show q38q_l2_r _ _ _=_
  unfold q38q_l2_r
  simp only [hlt,if_true,hle,small_wrap (show y<=100000 by omega)]
theorem wh_l0 (N:Nat) (hN:20<=N) (n:Nat) (hn:n<=8) (z:Gr) (a:Int):∀k x f (es:List E),x+k=n->k<f->es.length<=8*x -> ∃es',q38q_l0 N f ((n:Int),z,(a,es,()),(x:Int),())=some (.inl (z,(a,es',()),()))/\es'.length<=100:=by
 intro k
 induction k with
 | zero=>
  intro x f es h1 h2 h3
  obtain ⟨f,rfl⟩:∃m,f=m+1:=⟨f-1,by omega⟩
  refine ⟨es,?_,by omega⟩
  have hlt:decide ((x:Int)<(n:Int))=false:=decide_eq_false (by omega)
  show q38q_l0_r _ _ _=_
  unfold q38q_l0_r
  simp only [hlt,Bool.false_eq_true,if_false]
 | succ k ih=>
  intro x f es h1 h2 h3
  obtain ⟨f,rfl⟩:∃m,f=m+1:=⟨f-1,by omega⟩
  have hlt:decide ((x:Int)<(n:Int))=true:=decide_eq_true (by omega)
  obtain ⟨e1,q1,q2⟩:=wh_l2 N n hn z a (x:Int) (n-(x+1)) (x+1) N es (by omega) (by omega) (by omega)
  obtain ⟨es',r1,r2⟩:=ih (x+1) f e1 (by omega) (by omega) (by omega)
  refine ⟨es',?_,r2⟩
  rw [<- r1]
  show q38q_l0_r _ _ _=_
  unfold q38q_l0_r
  simp only [hlt,if_true,small_wrap (show x<=100000 by omega),q1,Option.bind_some]
theorem whole_ok (n:Nat) (hn:n<=8):Ok (pickF F_q38q P_path ((n:Int),())) (P_path ((n:Int),())):=by
 refine Ok.pick 20 ?_
 obtain ⟨es,e1,e2⟩:=wh_l0 20 (by omega) n hn (0,[],()) (n:Int) n 0 20 [] (by omega) (by omega) (by simp)
 refine ⟨(((n:Int),es,()),()),?_,e2⟩
 unfold F_q38q
 simp only [Int.natCast_zero] at e1
 simp only [e1,Option.bind_some]
end Go.V.W
namespace Go.V.W
open Go.Proofs
theorem marred_ok {c:Cur} {n:Int} {es:List E} {v u:Unit} (h:CurB c) (hf:c.2.1+20<=far_) (hl:es.length<=150):Ok (F_q26q 0 (c,(n,es,v),u)) fun r=>r.1.2.1.length<=es.length+1/\Adv 10 c r.2.1:=by
 unfold F_q26q
 simp only
 have hle:∀e:E,decide (es.length+List.length [e]<=lim)=true:=fun e=>by unfold lim;simp;omega
 refine Ok.bind (pick_ok h (by omega)) fun r hr => ?_
 obtain ⟨r1,r2,r3⟩:=hr
 have q3:=r3.2
 refine Ok.ite (fun _ => ?_) fun _=>Ok.ite (fun _ => ?_) fun _=>Ok.ite (fun _ => ?_) fun _ => ?_
 ·refine Ok.bind (among_ok r3.1 (by omega) (by simp)) fun s hs=>Ok.some ⟨by simp,(r3.trans hs.2).le (by omega)⟩
 ·refine Ok.bind (pick_ok r3.1 (by omega)) fun s hs => ?_
  have s3:=hs.2.2.2
  refine Ok.bind (pick_ok hs.2.2.1 (by omega)) fun t ht => ?_
  refine Ok.pos (hle _) (Ok.some ⟨by simp,((r3.trans hs.2.2).trans ht.2.2).le (by omega)⟩)
 ·refine Ok.ite (fun hp => ?_) fun _=>Ok.some ⟨by simp,r3.le (by omega)⟩
  have hp:=of_decide_eq_true hp
  refine Ok.bind (pick_ok r3.1 (by omega)) fun s hs => ?_
  obtain ⟨s1,s2,s3⟩:=hs
  refine Ok.pos (by unfold idxIn;simp;omega) (Ok.pos (hle _) (Ok.some ⟨by simp,(r3.trans s3).le (by omega)⟩))
 ·exact Ok.some ⟨by simp,r3.le (by omega)⟩
end Go.V.W
namespace Go.V.W
open Go.Proofs
theorem insE_lenU (e:E):∀l:List E,(insE e l).length=l.length+1:=by
 intro l
 induction l with
 | nil=>rfl
 | cons a l ih=>unfold insE;split<;>simp [ih]
theorem put_ok {es:List E} {e:E} {u:Unit} (h:es.length<=1000):Ok (G_l2Put (es,e,u)) fun r=>r.1.length=es.length+1:=by
 unfold G_l2Put
 rw [if_pos (decide_eq_true h)]
 exact Ok.some (insE_lenU _ _)
theorem near_ok {g:Gr} {x y:Int} {u:Unit} (h:g.2.1.length<=1000):Ok (G_l2Near (g,x,y,u)) fun _=>True:=by
 unfold G_l2Near
 rw [if_pos (show okL g.2.1=true from decide_eq_true (by unfold lim;omega))]
 exact Ok.some trivial
theorem cycle_ok (n:Nat) (hn:n<=8):Ok (F_q67q 0 ((n:Int),())) fun r=>r.1.2.1.length<=101:=by
 unfold F_q67q
 simp only
 refine Ok.bind (path_ok n hn) fun r hr => ?_
 have hr:r.1.2.1.length<=100:=hr
 refine Ok.bind (put_ok (by omega)) fun q hq=>Ok.some ?_
 simp only
 omega
theorem sg_l3 (N:Nat) (n:Nat) (hn:n<=8) (z:Gr) (a w:Int) (b:Bool) (x:Int):∀k y f (c:Cur) (es:List E),y+k=n->k<f->CurB c->c.2.1+2*(k:Int)<=far_->es.length+k<=1000 ->
  Ok (q12q_l3 N f (c,z,(n:Int),(a,es,()),w,b,x,(y:Int),())) fun o => ∃c' es',o=.inl (c',z,(n:Int),(a,es',()),w,b,x,())/\Adv (2*(k:Int)) c c'/\es'.length<=es.length+k:=by
 intro k
 induction k with
 | zero=>
  intro y f c es h1 h2 h3 h4 h5
  obtain ⟨f,rfl⟩:∃m,f=m+1:=⟨f-1,by omega⟩
  have hlt:decide ((y:Int)<(n:Int))=false:=decide_eq_false (by omega)
  show Ok (q12q_l3_r _ _ _) _
  unfold q12q_l3_r
  simp only [hlt,Bool.false_eq_true,if_false]
  exact Ok.some ⟨c,es,rfl,⟨h3,by omega⟩,by omega⟩
 | succ k ih=>
  intro y f c es h1 h2 h3 h4 h5
  obtain ⟨f,rfl⟩:∃m,f=m+1:=⟨f-1,by omega⟩
  have hlt:decide ((y:Int)<(n:Int))=true:=decide_eq_true (by omega)
  show Ok (q12q_l3_r _ _ _) _
  unfold q12q_l3_r
  simp only [hlt,if_true,small_wrap (show y<=100000 by omega)]
  refine Ok.bind (pick_ok h3 (by omega)) fun r hr => ?_
  have r3:=hr.2.2.2
  refine Ok.ite (fun _ => ?_) (fun _ => ?_)
  ·refine Ok.bind (put_ok (by omega)) fun q hq => ?_
   refine (ih (y+1) f r.2.1 q.1 (by omega) (by omega) hr.2.2.1 (by omega) (by omega)).mono fun o ho => ?_
   obtain ⟨c',es',e1,e2,e3⟩:=ho
   exact ⟨c',es',e1,(hr.2.2.trans e2).le (by omega),by omega⟩
  ·refine (ih (y+1) f r.2.1 es (by omega) (by omega) hr.2.2.1 (by omega) (by omega)).mono fun o ho => ?_
   obtain ⟨c',es',e1,e2,e3⟩:=ho
   exact ⟨c',es',e1,(hr.2.2.trans e2).le (by omega),by omega⟩
theorem sg_l1 (N:Nat) (hN:20<=N) (n:Nat) (hn:n<=8) (z:Gr) (a w:Int) (b:Bool):∀k x f (c:Cur) (es:List E),x+k=n->k<f->CurB c->c.2.1+20*(k:Int)<=far_->es.length<=10*x ->
  Ok (q12q_l1 N f (c,z,(n:Int),(a,es,()),w,b,(x:Int),())) fun o => ∃c' es',o=.inl (c',z,(a,es',()),())/\Adv (20*(k:Int)) c c'/\es'.length<=10*n:=by
 intro k
 induction k with
 | zero=>
  intro x f c es h1 h2 h3 h4 h5
  obtain ⟨f,rfl⟩:∃m,f=m+1:=⟨f-1,by omega⟩
  have hlt:decide ((x:Int)<(n:Int))=false:=decide_eq_false (by omega)
  show Ok (q12q_l1_r _ _ _) _
  unfold q12q_l1_r
  simp only [hlt,Bool.false_eq_true,if_false]
  exact Ok.some ⟨c,es,rfl,⟨h3,by omega⟩,by omega⟩
 | succ k ih=>
  intro x f c es h1 h2 h3 h4 h5
  obtain ⟨f,rfl⟩:∃m,f=m+1:=⟨f-1,by omega⟩
  have hlt:decide ((x:Int)<(n:Int))=true:=decide_eq_true (by omega)
  show Ok (q12q_l1_r _ _ _) _
  unfold q12q_l1_r
  simp only [hlt,if_true,small_wrap (show x<=100000 by omega)]
  refine Ok.bind (sg_l3 N n hn z a w b (x:Int) (n-(x+1)) (x+1) N c es (by omega) (by omega) h3 (by omega) (by omega)) fun o ho => ?_
  obtain ⟨c1,e1,rfl,a1,l1⟩:=ho
  have b1:=a1.2
  simp only [small_wrap (show x<=100000 by omega)]
  refine Ok.bind (pick_ok a1.1 (by omega)) fun r hr => ?_
  have r3:=hr.2.2.2
  have more:∀es2:List E,es2.length<=10*(x+1)->Ok (q12q_l1 N f (r.2.1,z,(n:Int),(a,es2,()),w,b,((x+1:Nat):Int),())) fun o => ∃c' es',o=.inl (c',z,(a,es',()),())/\Adv (20*((k+1:Nat):Int)) c c'/\es'.length<=10*n:=fun es2 h=>by
   refine (ih (x+1) f r.2.1 es2 (by omega) (by omega) hr.2.2.1 (by omega) (by omega)).mono fun o ho => ?_
   obtain ⟨c',es',e1,e2,e3⟩:=ho
   exact ⟨c',es',e1,((a1.trans hr.2.2).trans e2).le (by omega),by omega⟩
  refine Ok.ite (fun _=>Ok.ite (fun _ => ?_) fun _=>more _ (by omega)) fun _=>more _ (by omega)
  refine Ok.bind (near_ok (by simp only;omega)) fun _ _=>Ok.ite (fun _ => ?_) fun _=>more _ (by omega)
  refine Ok.bind (put_ok (by omega)) fun q hq=>more _ (by omega)
noncomputable def sgTail (N:Nat) (c:Cur) (n:Int):Option (Gr×Cur×Unit):=
  ((F_q39q 0) ((c,((8:Int),())))).bind fun r49=>
  if (r49.1==(0:Int))=true then
   ((pickF F_q76q P_path) (n,())).bind fun r50=>
   ((F_q26q 0) ((r49.2.1,(r50.1,())))).bind fun r51=>
   some ((r51.1,(r51.2.1,())))
  else
   if (r49.1==(1:Int))=true then
    if (decide (n>(2:Int)))=true then
     ((F_q67q 0) (n,())).bind fun r52=>
     ((F_q26q 0) ((r49.2.1,(r52.1,())))).bind fun r53=>
     some ((r53.1,(r53.2.1,())))
    else
     ((F_q26q 0) ((r49.2.1,((n,(([]:List (Int×Int×Unit)),())),())))).bind fun r54=>
     some ((r54.1,(r54.2.1,())))
   else
    if (r49.1==(2:Int))=true then
     ((pickF F_q38q P_path) (n,())).bind fun r55=>
     ((F_q26q 0) ((r49.2.1,(r55.1,())))).bind fun r56=>
     some ((r56.1,(r56.2.1,())))
    else
     ((F_q35q 0) ((r49.2.1,([(3:Int),(4:Int),(6:Int)],())))).bind fun r57=>
     ((F_q49q 0) ((r57.2.1,((6:Int),())))).bind fun r58=>
     (q12q_l1 N N ((r58.2.1,(((0:Int),(([]:List (Int×Int×Unit)),())),(n,((n,(([]:List (Int×Int×Unit)),())),(r57.1,(r58.1,((0:Int),()))))))))).bind fun o59=>match o59 with
     | .inl d60=>
      ((F_q26q 0) ((d60.1,(d60.2.2.1,())))).bind fun r61=>
      some ((r61.1,(r61.2.1,())))
theorem sgTail_ok {c:Cur} {n:Int} {m:Nat} (hm:m<=8) (he:n=m) (h:CurB c) (hf:c.2.1+250<=far_):Ok (sgTail 20 c n) fun r=>Adv 200 c r.2.1/\r.1.2.1.length<=200:=by
 subst he
 have mar:∀(c1:Cur) (g:Gr),Adv 180 c c1->g.2.1.length<=150->Ok ((F_q26q 0 (c1,g,())).bind fun r=>some (r.1,r.2.1,())) fun r=>Adv 200 c r.2.1/\r.1.2.1.length<=200:=by
  intro c1 g h1 h2
  have:=h1.2
  obtain ⟨n,es,u⟩:=g
  refine Ok.bind (marred_ok h1.1 (by omega) h2) fun r hr=>Ok.some ⟨(h1.trans hr.2).le (by omega),?_⟩
  have:=hr.1
  simp only at h2 |-
  omega
 unfold sgTail
 refine Ok.bind (pick_ok h (by omega)) fun r hr => ?_
 have a1:=hr.2.2
 have b1:=a1.2
 refine Ok.ite (fun _ => ?_) fun _=>Ok.ite (fun _=>Ok.ite (fun _ => ?_) fun _=>mar _ _ (a1.le (by omega)) (by simp)) fun _=>Ok.ite (fun _ => ?_) fun _ => ?_
 ·refine Ok.bind (path_ok m hm) fun q hq=>mar _ _ (a1.le (by omega)) ?_
  have:q.1.2.1.length<=100:=hq
  omega
 ·refine Ok.bind (cycle_ok m hm) fun q hq=>mar _ _ (a1.le (by omega)) (by omega)
 ·refine Ok.bind (whole_ok m hm) fun q hq=>mar _ _ (a1.le (by omega)) ?_
  have:q.1.2.1.length<=100:=hq
  omega
 ·refine Ok.bind (among_ok a1.1 (by omega) (by simp)) fun q hq => ?_
  have a2:=a1.trans hq.2
  have b2:=a2.2
  refine Ok.bind (one_ok a2.1 (by omega)) fun s hs => ?_
  have a3:=a2.trans hs
  have b3:=a3.2
  have hl:=sg_l1 20 (by omega) m hm (0,[],()) (m:Int) q.1 s.1 m 0 20 s.2.1 [] (by omega) (by omega) a3.1 (by omega) (by simp)
  simp only [Int.natCast_zero] at hl
  refine Ok.bind hl fun o ho => ?_
  obtain ⟨c',es',rfl,e2,e3⟩:=ho
  exact mar _ _ ((a3.trans e2).le (by omega)) (by simp only;omega)
theorem least_in {x y:Int} {u:Unit} (h:0<=x) (h2:0<=y) (h3:y<=8):∃m:Nat,m<=8/\(g_q61q (x,y,u)).1=(m:Int):=by
 unfold g_q61q
 simp only
 split
 ·rename_i hh
  have:=of_decide_eq_true hh
  exact ⟨x.toNat,by omega,by simp only;omega⟩
 ·exact ⟨y.toNat,by omega,by simp only;omega⟩
theorem someGraph_ok {c:Cur} {a:Int} (h:CurB c) (hf:c.2.1+300<=far_) (h0:0<=a) (h8:a<=8):Ok (pickF F_q12q P_someG (c,a,())) (P_someG (c,a,())):=by
 refine Ok.pick 20 ?_
 have fin:∀(c1:Cur) (n:Int) (m:Nat),m<=8->n=m->Adv 50 c c1->Ok (sgTail 20 c1 n) (P_someG (c,a,())):=fun c1 n m hm he h1=>by
  have:=h1.2
  exact (sgTail_ok hm he h1.1 (by omega)).mono fun r hr=>⟨(h1.trans hr.1).le (by omega),hr.2⟩
 unfold F_q12q
 simp only
 refine Ok.bind (among_ok h (by omega) (by simp)) fun r hr => ?_
 have r0:0<=r.1:=by
  have:=hr.1
  simp at this
  omega
 have a1:=hr.2
 have b1:=a1.2
 refine Ok.ite (fun _ => ?_) fun _ => ?_
 ·refine Ok.bind (one_ok a1.1 (by omega)) fun s hs => ?_
  have a2:=a1.trans hs
  have b2:=a2.2
  refine Ok.ite (fun _ => ?_) fun _ => ?_
  ·refine Ok.bind (pick_ok a2.1 (by omega)) fun t ht => ?_
   have a3:=a2.trans ht.2.2
   have w:IntKind.wrap .i64 ((7:Int)+t.1)=7+t.1:=wrap_in _ (by have:=ht.1;omega) (by have:=ht.2.1;omega)
   obtain ⟨m,hm,em⟩:=least_in (x:=IntKind.wrap .i64 ((7:Int)+t.1)) (u:=()) (by rw [w];have:=ht.1;omega) h0 h8
   exact fin _ _ m hm em (a3.le (by omega))
  ·obtain ⟨m,hm,em⟩:=least_in (u:=()) r0 h0 h8
   exact fin _ _ m hm em (a2.le (by omega))
 ·obtain ⟨m,hm,em⟩:=least_in (u:=()) r0 h0 h8
  exact fin _ _ m hm em (a1.le (by omega))
end Go.V.W
namespace Go.V.W
open Go.Proofs
theorem tm_l2 (N:Nat) (z:Gr) (n x y:Int) (ball:List Int) (hb:ball.length<=9):∀k i f (c:Cur) (es:List E),i+k=ball.length->k<f->CurB c->c.2.1+2*(k:Int)<=far_->es.length+k<=900 ->
  Ok (q46q_l2 N f (c,z,(n,es,()),x,y,ball,(i:Int),())) fun o => ∃c' es',o=.inl (c',z,(n,es',()),x,())/\Adv (2*(k:Int)) c c'/\es'.length<=es.length+k:=by
 intro k
 induction k with
 | zero=>
  intro i f c es h1 h2 h3 h4 h5
  obtain ⟨f,rfl⟩:∃m,f=m+1:=⟨f-1,by omega⟩
  have hlt:decide ((i:Int)<(ball.length:Int))=false:=decide_eq_false (by omega)
  show Ok (q46q_l2_r _ _ _) _
  unfold q46q_l2_r
  simp only [hlt,Bool.false_eq_true,if_false]
  exact Ok.some ⟨c,es,rfl,⟨h3,by omega⟩,by omega⟩
 | succ k ih=>
  intro i f c es h1 h2 h3 h4 h5
  obtain ⟨f,rfl⟩:∃m,f=m+1:=⟨f-1,by omega⟩
  have hi:i<ball.length:=by omega
  have go:∀(c1:Cur) (es1:List E),Adv 2 c c1->es1.length<=es.length+1->Ok (q46q_l2 N f (c1,z,(n,es1,()),x,y,ball,((i+1:Nat):Int),())) fun o => ∃c' es',o=.inl (c',z,(n,es',()),x,())/\Adv (2*((k+1:Nat):Int)) c c'/\es'.length<=es.length+(k+1):=fun c1 es1 ha hl=>by
   have hb:=ha.2
   refine (ih (i+1) f c1 es1 (by omega) (by omega) ha.1 (by omega) (by omega)).mono fun o ho => ?_
   obtain ⟨c',es',e1,e2,e3⟩:=ho
   exact ⟨c',es',e1,(ha.trans e2).le (by omega),by omega⟩
  have a0:Adv 2 c c:=⟨h3,by omega⟩
  show Ok (q46q_l2_r _ _ _) _
  unfold q46q_l2_r
  simp only [lt_dec hi,if_true,idxIn_nat hi,Int.toNat_natCast,small_wrap (show i<=100000 by omega)]
  refine Ok.ite (fun _=>Ok.ite (fun _ => ?_) fun _ => ?_) fun _=>go c es a0 (by omega)
  ·exact Ok.bind (put_ok (by omega)) fun q hq=>go c q.1 a0 (by omega)
  ·refine Ok.bind (one_ok h3 (by omega)) fun r hr=>Ok.ite (fun _ => ?_) fun _=>go _ es hr (by omega)
   exact Ok.bind (put_ok (by omega)) fun q hq=>go _ q.1 hr (by omega)
theorem tm_l0 (N:Nat) (hN:20<=N) (z:Gr) (n:Nat) (hn:n<=8):∀k x f (c:Cur) (es:List E),x+k=n->k<f->CurB c->c.2.1+20*(k:Int)<=far_->es.length+9*k<=100 ->
  Ok (q46q_l0 N f (c,z,((n:Int),es,()),(x:Int),())) fun o => ∃c' es',o=.inl (c',z,((n:Int),es',()),())/\Adv (20*(k:Int)) c c'/\es'.length<=100:=by
 intro k
 induction k with
 | zero=>
  intro x f c es h1 h2 h3 h4 h5
  obtain ⟨f,rfl⟩:∃m,f=m+1:=⟨f-1,by omega⟩
  have hlt:decide ((x:Int)<(n:Int))=false:=decide_eq_false (by omega)
  show Ok (q46q_l0_r _ _ _) _
  unfold q46q_l0_r
  simp only [hlt,Bool.false_eq_true,if_false]
  exact Ok.some ⟨c,es,rfl,⟨h3,by omega⟩,by omega⟩
 | succ k ih=>
  intro x f c es h1 h2 h3 h4 h5
  obtain ⟨f,rfl⟩:∃m,f=m+1:=⟨f-1,by omega⟩
  have hlt:decide ((x:Int)<(n:Int))=true:=decide_eq_true (by omega)
  show Ok (q46q_l0_r _ _ _) _
  unfold q46q_l0_r
  simp only [hlt,if_true]
  refine Ok.bind (pick_ok h3 (by omega)) fun r hr => ?_
  have rb:=hr.2.2.2
  have ho:okL es=true:=okL_of (by omega)
  have hball:=ball_eq ((n:Int),es,()) n rfl hn ho r.1
  have hlen:(ballL n es r.1).length<=9:=by
   unfold ballL
   have h1:=putL_len r.1 (setF (fun y=>nearI es r.1 (y:Int)) n 0)
   have h2:(setF (fun y=>nearI es r.1 (y:Int)) n 0).length<=n:=setF_len
   omega
  simp only [hball,Option.bind_some]
  have hin:=tm_l2 N z (n:Int) (x:Int) r.1 (ballL n es r.1) hlen (ballL n es r.1).length 0 N r.2.1 es (by omega) (by omega) hr.2.2.1 (by omega) (by omega)
  simp only [Int.natCast_zero] at hin
  refine Ok.bind hin fun o ho' => ?_
  obtain ⟨c1,e1,rfl,a1,l1⟩:=ho'
  have b1:=a1.2
  simp only [small_wrap (show x<=100000 by omega)]
  refine (ih (x+1) f c1 e1 (by omega) (by omega) a1.1 (by omega) (by omega)).mono fun o ho2 => ?_
  obtain ⟨c',es',q1,q2,q3⟩:=ho2
  exact ⟨c',es',q1,((hr.2.2.trans a1).trans q2).le (by omega),q3⟩
theorem tame_ok {c:Cur} {a:Int} (h:CurB c) (hf:c.2.1+300<=far_) (h8:a<=8):Ok (pickF F_q46q P_someG (c,a,())) (P_someG (c,a,())):=by
 refine Ok.pick 30 ?_
 unfold F_q46q
 simp only
 refine Ok.bind (pick_ok h (by omega)) fun r hr => ?_
 have b1:=hr.2.2.2
 obtain ⟨j,hj⟩:∃j:Nat,r.1=j:=⟨r.1.toNat,by have:=hr.1;omega⟩
 have hj8:j<8:=by
  have:=hr.2.1
  omega
 have hw:IntKind.wrap .i64 ((1:Int)+r.1)=((1+j:Nat):Int):=by rw [hj,wrap_in _ (by omega) (by omega)];omega
 simp only [hw]
 have hl:=tm_l0 30 (by omega) (0,[],()) (1+j) (by omega) j 1 30 r.2.1 [] (by omega) (by omega) hr.2.2.1 (by omega) (by simp;omega)
 refine Ok.bind hl fun o ho => ?_
 obtain ⟨c1,es,rfl,a1,l1⟩:=ho
 have a2:=hr.2.2.trans a1
 have b2:=a2.2
 simp only
 refine Ok.bind (one_ok a2.1 (by omega)) fun s hs => ?_
 have a3:=a2.trans hs
 have b3:=a3.2
 refine Ok.ite (fun _ => ?_) fun _=>Ok.some ⟨a3.le (by omega),by simp only;omega⟩
 refine Ok.bind (marred_ok a3.1 (by omega) (by omega)) fun t ht=>Ok.some ⟨(a3.trans ht.2).le (by omega),?_⟩
 have:=ht.1
 simp only
 omega
theorem field3_ok {c:Cur} {u:Unit} (h:CurB c) (hf:c.2.1+400<=far_):Ok (F_q23q 0 (c,u)) fun r=>Adv 400 c r.2.1/\r.1.2.1.length<=200:=by
 unfold F_q23q F_q28q
 simp only
 refine Ok.bind (one_ok h (by omega)) fun r hr => ?_
 have b1:=hr.2
 refine Ok.ite (fun _ => ?_) fun _ => ?_
 ·exact Ok.bind (tame_ok hr.1 (by omega) (by omega)) fun s hs=>Ok.some ⟨(hr.trans hs.1).le (by omega),hs.2⟩
 ·exact Ok.bind (Ok.bind (someGraph_ok hr.1 (by omega) (by omega) (by omega)) fun s hs=>Ok.some hs) fun s hs=>Ok.some ⟨(hr.trans hs.1).le (by omega),hs.2⟩
end Go.V.W
namespace Go.V.W
open Go.Proofs
theorem law54:∀d,WfD (Kd.tuple ([(K_Su8,false)].map (·.1))) d -> ∃out,G_law d=some out/\(splitT [.bool] [] out).1.1=true:=by
 rintro ⟨code,_⟩ ⟨⟨hl,hc⟩,_⟩
 refine ⟨(true,()),?_,rfl⟩
 unfold G_law
 rw [if_pos]
 simp only [Bool.and_eq_true,List.all_eq_true,decide_eq_true_eq]
 refine ⟨fun x hx => ?_,hl⟩
 have:=hc x hx
 simp [WfD,Lit.wf,IntKind.min,IntKind.max,IntKind.signed,IntKind.bits] at this
 unfold inB
 simp
 omega
end Go.V.W
namespace Go.V.W
open Go.Proofs
theorem node_ok {c:Cur} {g:Gr} {u:Unit} (h:CurB c) (hf:c.2.1+10<=far_):Ok (F_q45q 0 (c,g,u)) fun r=>r.1<=9223372036854775807/\(r.1 = -1\/0<=r.1)/\Adv 10 c r.2.1:=by
 have lst:∀(c1:Cur),Adv 4 c c1->Ok ((F_q35q 0 (c1,[(-1:Int),(0:Int),(8:Int),(4611686018427387904:Int)],())).bind fun r=>some (r.1,r.2.1,())) fun r=>r.1<=9223372036854775807/\(r.1 = -1\/0<=r.1)/\Adv 10 c r.2.1:=fun c1 h1=>by
  have:=h1.2
  refine Ok.bind (among_ok h1.1 (by omega) (by simp)) fun r hr=>Ok.some ⟨?_,?_,(h1.trans hr.2).le (by omega)⟩
  ·have:=hr.1
   simp at this
   omega
  ·have:=hr.1
   simp at this
   omega
 have a0:Adv 4 c c:=⟨h,by omega⟩
 unfold F_q45q
 simp only
 refine Ok.ite (fun _=>lst c a0) fun h1=>Ok.ite (fun _=>lst c a0) fun h2 => ?_
 have h2:=of_decide_eq_false h2
 have h2:¬g.1>8:=h2
 refine Ok.bind (one_ok h (by omega)) fun r hr => ?_
 have b:=hr.2
 refine Ok.ite (fun _=>lst _ (hr.le (by omega))) fun _ => ?_
 refine Ok.bind (pick_ok hr.1 (by omega)) fun s hs=>Ok.some ⟨?_,.inr hs.1,(hr.trans hs.2.2).le (by omega)⟩
 rcases hs.2.1 with h3 | h3
 ·have h3:s.1<g.1:=h3
  show s.1<=_
  omega
 ·show s.1<=_
  omega
end Go.V.W
namespace Go.V.W
open Go.Proofs
def copB1 (g:Gr) (c r:Int):Int×Bool×Unit:=
 if (graphB g&&inB 0 (g.1-1) c&&inB 0 (g.1-1) r&&decide (1<=tab2 (oneT g) c r))=true then (copT (ballF g.1.toNat g.2.1) (oneT g) c r,true,()) else (0,false,())
def robB1 (g:Gr) (c r:Int):Int×Bool×Unit:=
 if (graphB g&&inB 0 (g.1-1) c&&inB 0 (g.1-1) r && !(c==r))=true then (fleeL (tab2 (oneT g) c) (ballF g.1.toNat g.2.1 r) ((ballF g.1.toNat g.2.1 r).headD 0),true,()) else (0,false,())
def tabB1 (g:Gr):Tab×Bool×Unit:=if graphB g=true then (oneT g,true,()) else ([],false,())
theorem oneT_eq (a:Nat) (es:List E) (v:Unit):oneT ((a:Int),es,v)=timesT a (ballF a es):=by
 unfold oneT
 simp only [Int.toNat_natCast]
theorem two_gen {n:Int} {es:List E} {v:Unit} (ho:okL es=true) (x y:Int) (u:Unit):F_spec_l3Two 0 ((n,es,v),x,y,u)=some (graphB (n,es,v)&&inB 0 (n-1) x&&inB 0 (n-1) y,()):=by
 cases hg:graphB (n,es,v) with
 | false=>
  unfold F_spec_l3Two G_graph
  simp only [ho,if_true,Option.bind_some,hg,Bool.false_eq_true,if_false,Bool.false_and]
 | true=>
  obtain ⟨a,rfl⟩:=nat_of (graphB_n hg).1
  rw [two_some hg ho]
  simp only [Bool.true_and]
theorem times_impl {a:Nat} {es:List E} {v:Unit} (hg:graphB ((a:Int),es,v)=true) (u w:Unit):G_copTimes ((toI (netN a es),u),w)=some (timesT a (ballF a es),()):=by
 obtain ⟨ha,g1,g2⟩:=edges_of hg
 obtain ⟨nb,nl⟩:=netB_net ha g1
 have hTT:timesT (toI (netN a es)).length (ballM (toI (netN a es)))=timesT a (ballF a es):=by
  rw [nl]
  exact tabL_congr (timesF_congr (fun x hx=>ball_same ha g1 hx) 65 1 startF startF fun _ _ _ _=>rfl)
 unfold G_copTimes
 simp only [nb,if_true,hTT]
theorem two_nat {a:Nat} {c r:Int} (hc:inB 0 ((a:Int)-1) c=true) (hr:inB 0 ((a:Int)-1) r=true):∃c' r':Nat,c=(c':Int)/\r=(r':Int)/\c'<a/\r'<a:=by
 have h1:=inB_iff.1 hc
 have h2:=inB_iff.1 hr
 exact ⟨c.toNat,r.toNat,by omega,by omega,by omega,by omega⟩
theorem specC1M {n:Int} {es:List E} {v:Unit} (ho:okL es=true) (c r:Int) (u:Unit):F_q66q 0 ((n,es,v),c,r,u)=some (copB1 (n,es,v) c r):=by
 unfold copB1
 cases hh:graphB (n,es,v)&&inB 0 (n-1) c&&inB 0 (n-1) r with
 | false=>
  unfold F_q66q
  simp only [two_gen ho,hh,Option.bind_some,Bool.not_false,if_true,Bool.false_and,Bool.false_eq_true,if_false]
 | true=>
  simp only [Bool.and_eq_true] at hh
  obtain ⟨⟨hg,hc⟩,hr⟩:=hh
  obtain ⟨a,rfl⟩:=nat_of (graphB_n hg).1
  obtain ⟨c,r,rfl,rfl,h1,h2⟩:=two_nat hc hr
  rw [cop_spec hg ho h1 h2]
  simp only [Bool.true_and,oneT_eq,Int.toNat_natCast,decide_eq_true_eq]
  by_cases h:tab2 (timesT a (ballF a es)) (c:Int) (r:Int)<1
  ·rw [if_pos h,if_neg (show ¬1<=tab2 (timesT a (ballF a es)) (c:Int) (r:Int) by omega)]
  ·rw [if_neg h,if_pos (show 1<=tab2 (timesT a (ballF a es)) (c:Int) (r:Int) by omega)]
theorem implC1M {n:Int} {es:List E} {v:Unit} (ho:okL es=true) (c r:Int) (u:Unit):F_q62q 0 ((n,es,v),c,r,u)=some (copB1 (n,es,v) c r):=by
 unfold copB1 F_q62q
 simp only [has_nodes n es v () [c,r] ho rfl,Option.bind_some,List.all_cons,List.all_nil,Bool.and_true,<- Bool.and_assoc]
 cases hh:graphB (n,es,v)&&inB 0 (n-1) c&&inB 0 (n-1) r with
 | false=>simp only [Bool.not_false,if_true,Bool.false_and,Bool.false_eq_true,if_false]
 | true=>
  simp only [Bool.and_eq_true] at hh
  obtain ⟨⟨hg,hc⟩,hr⟩:=hh
  obtain ⟨a,rfl⟩:=nat_of (graphB_n hg).1
  obtain ⟨c,r,rfl,rfl,h1,h2⟩:=two_nat hc hr
  obtain ⟨t1,t2,t3⟩:=times_at (ball:=ballF a es) h1 h2
  simp only [Bool.not_true,Bool.false_eq_true,if_false,net_some hg ho,times_impl hg,Option.bind_some,Int.toNat_natCast,t1,t2,t3,if_true,Bool.true_and,oneT_eq,decide_eq_true_eq]
  by_cases h:tab2 (timesT a (ballF a es)) (c:Int) (r:Int)<1
  ·rw [if_pos h,if_neg (show ¬1<=tab2 (timesT a (ballF a es)) (c:Int) (r:Int) by omega)]
  ·rw [if_neg h,if_pos (show 1<=tab2 (timesT a (ballF a es)) (c:Int) (r:Int) by omega)]
   simp only [cop_impl hg h1 h2,Option.bind_some]
theorem specRM {n:Int} {es:List E} {v:Unit} (ho:okL es=true) (c r:Int) (u:Unit):F_q37q 0 ((n,es,v),c,r,u)=some (robB1 (n,es,v) c r):=by
 unfold robB1
 cases hh:graphB (n,es,v)&&inB 0 (n-1) c&&inB 0 (n-1) r with
 | false=>
  unfold F_q37q
  simp only [two_gen ho,hh,Option.bind_some,Bool.not_false,if_true,Bool.false_and,Bool.false_eq_true,if_false]
 | true=>
  simp only [Bool.and_eq_true] at hh
  obtain ⟨⟨hg,hc⟩,hr⟩:=hh
  obtain ⟨a,rfl⟩:=nat_of (graphB_n hg).1
  obtain ⟨c,r,rfl,rfl,h1,h2⟩:=two_nat hc hr
  rw [rob_spec hg ho h1 h2]
  simp only [Bool.true_and,oneT_eq,Int.toNat_natCast]
  by_cases h:(c:Int)=(r:Int)
  ·rw [if_pos h,if_neg (by simp [h])]
  ·rw [if_neg h,if_pos (by simpa using h)]
theorem implRM {n:Int} {es:List E} {v:Unit} (ho:okL es=true) (c r:Int) (u:Unit):F_q43q 0 ((n,es,v),c,r,u)=some (robB1 (n,es,v) c r):=by
 unfold robB1 F_q43q
 simp only [has_nodes n es v () [c,r] ho rfl,Option.bind_some,List.all_cons,List.all_nil,Bool.and_true,<- Bool.and_assoc]
 cases hh:graphB (n,es,v)&&inB 0 (n-1) c&&inB 0 (n-1) r with
 | false=>simp only [Bool.not_false,if_true,Bool.false_and,Bool.false_eq_true,if_false]
 | true=>
  simp only [Bool.and_eq_true] at hh
  obtain ⟨⟨hg,hc⟩,hr⟩:=hh
  obtain ⟨a,rfl⟩:=nat_of (graphB_n hg).1
  obtain ⟨c,r,rfl,rfl,h1,h2⟩:=two_nat hc hr
  obtain ⟨t1,t2,t3⟩:=times_at (ball:=ballF a es) h1 h2
  cases hb:((c:Int)==(r:Int)) with
  | true=>simp only [Bool.not_true,Bool.false_eq_true,if_false,if_true,Bool.and_false]
  | false=>simp only [Bool.not_true,Bool.not_false,Bool.false_eq_true,if_false,net_some hg ho,times_impl hg,Option.bind_some,Int.toNat_natCast,t1,if_true,Bool.true_and,oneT_eq,rob_impl hg h1 h2]
theorem specT1 {n:Int} {es:List E} {v:Unit} (ho:okL es=true) (u:Unit):F_q56q 0 ((n,es,v),u)=some (tabB1 (n,es,v)):=by
 unfold F_q56q G_graph tabB1
 simp only [ho,if_true,Option.bind_some]
 cases hg:graphB (n,es,v) with
 | false=>simp only [Bool.not_false,if_true,Bool.false_eq_true,if_false]
 | true=>
  obtain ⟨a,rfl⟩:=nat_of (graphB_n hg).1
  simp only [Bool.not_true,Bool.false_eq_true,if_false,G_l3Times,graph_grB hg ho,if_true,Option.bind_some,oneT_eq,Int.toNat_natCast]
theorem implT1 {n:Int} {es:List E} {v:Unit} (ho:okL es=true) (u:Unit):F_q54q 0 ((n,es,v),u)=some (tabB1 (n,es,v)):=by
 unfold F_q54q G_graph tabB1
 simp only [ho,if_true,Option.bind_some]
 cases hg:graphB (n,es,v) with
 | false=>simp only [Bool.not_false,if_true,Bool.false_eq_true,if_false]
 | true=>
  obtain ⟨a,rfl⟩:=nat_of (graphB_n hg).1
  simp only [Bool.not_true,Bool.false_eq_true,if_false,net_some hg ho,times_impl hg,Option.bind_some,if_true,oneT_eq,Int.toNat_natCast]
theorem pl1_len (ball:Int->List Int) (T:Tab):∀(k:Nat) (c r:Int),(pl1L ball T k c r).length<=k:=by
 intro k
 induction k with
 | zero=>intro c r;simp [pl1L]
 | succ k ih=>
  intro c r
  unfold pl1L
  split
  ·simp
  ·rw [List.length_cons]
   exact Nat.succ_le_succ (ih _ _)
theorem bestRow_pos:∀(T:Tab) (i b l:Int),0<=i->(b<0\/0<=l)->((bestRow T i b l).1<0\/0<=(bestRow T i b l).2):=by
 intro T
 induction T with
 | nil=>intro i b l _ h;exact h
 | cons r T ih=>
  intro i b l hi h
  unfold bestRow
  split
  ·rename_i hw
   exact ih _ _ _ (by omega) (.inr hw.1)
  ·exact ih _ _ _ (by omega) h
theorem flee_in (row:Int->Int):∀(l:List Int) (b:Int),fleeL row l b=b\/fleeL row l b∈l:=by
 intro l
 induction l with
 | nil=>intro b;exact .inl rfl
 | cons x l ih=>
  intro b
  unfold fleeL
  split
  ·exact .inr (List.mem_cons_self ..)
  ·rcases ih (if row x>row b then x else b) with h | h
   ·split at h
    ·rename_i hg
     rw [if_pos hg,h]
     exact .inr (List.mem_cons_self ..)
    ·rename_i hg
     rw [if_neg hg,h]
     exact .inl rfl
   ·exact .inr (List.mem_cons_of_mem _ h)
theorem flee_head {row:Int->Int} {l:List Int} (hl:l≠[]):fleeL row l (l.headD 0)∈l:=by
 match l,hl with
 | x::l,_=>
  rcases flee_in row (x::l) x with h | h
  ·show fleeL row (x::l) x∈_
   rw [h];exact List.mem_cons_self ..
  ·exact h
theorem near_some {n:Int} {es:List E} {v:Unit} (ho:okL es=true) {a:Nat} {x z:Int} (h:z∈ballF a es x) (u:Unit):G_vNear ((n,es,v),x,z,u)=some (true,()):=by
 unfold G_vNear
 obtain ⟨y,_,_,h1,rfl⟩:=setF_mem.1 h
 simp only [ho,if_true]
 rw [Bool.or_eq_true,decide_eq_true_eq] at h1
 rcases h1 with h1 | h1
 ·rw [h1,Bool.or_true]
 ·simp [h1]
theorem one_loop (N:Nat) {a:Nat} {es:List E} {v:Unit} (ha:a<=8) (ho:okL es=true) {c r b:Nat} (hc:c<a) (hr:r<a) (hb:b<a) (hbr:b≠r) (aw:Int) (fi:Bool) (li:List E) (th:Bool)
  (H:∀z∈ballF a es (r:Int),0<=tab2 (timesT a (ballF a es)) (b:Int) z/\tab2 (timesT a (ballF a es)) (b:Int) z<tab2 (timesT a (ballF a es)) (c:Int) (r:Int)) :
  ∀k z f,z+k=a->k<f->laws_FnOneCop_l0 N f (((a:Int),es,v),(c:Int),(r:Int),(b:Int),aw,fi,li,th,timesT a (ballF a es),(z:Int),())=some (.inr (.inl (((a:Int),es,v),(c:Int),(r:Int),aw,fi,li,th,timesT a (ballF a es),()))):=by
 have hne:((b:Int) != (r:Int))=true:=by
  have:¬(b:Int)=(r:Int):=by omega
  simpa using this
 obtain ⟨u1,u2,u3⟩:=times_at (ball:=ballF a es) hc hr
 intro k
 induction k with
 | zero=>
  intro z f h1 h2
  obtain ⟨f,rfl⟩:∃m,f=m+1:=⟨f-1,by omega⟩
  have hlt:decide ((z:Int)<(a:Int))=false:=decide_eq_false (by omega)
  show laws_FnOneCop_l0_r _ _ _=_
  unfold laws_FnOneCop_l0_r
  simp only [hne,hlt,if_true,Bool.false_eq_true,if_false]
 | succ k ih=>
  intro z f h1 h2
  obtain ⟨f,rfl⟩:∃m,f=m+1:=⟨f-1,by omega⟩
  have hz:z<a:=by omega
  have hlt:decide ((z:Int)<(a:Int))=true:=decide_eq_true (by omega)
  obtain ⟨t1,t2,t3⟩:=times_at (ball:=ballF a es) hb hz
  have hi:=ih (z+1) f (by omega) (by omega)
  have hv:G_vNear (((a:Int),es,v),(r:Int),(z:Int),())=some ((r:Int)==(z:Int)||nearI es (r:Int) (z:Int),()):=by
   unfold G_vNear
   simp only [ho,if_true]
  show laws_FnOneCop_l0_r _ _ _=_
  unfold laws_FnOneCop_l0_r
  simp only [hne,hlt,if_true,hv,Option.bind_some,small_wrap (show z<=100000 by omega)]
  cases hq:((r:Int)==(z:Int)||nearI es (r:Int) (z:Int)) with
  | false=>
   simp only [Bool.false_eq_true,if_false]
   exact hi
  | true=>
   have hm:(z:Int)∈ballF a es (r:Int):=setF_mem.2 ⟨z,by omega,by omega,by
    rw [Bool.or_eq_true] at hq |-
    rw [decide_eq_true_eq]
    rcases hq with hq | hq
    ·exact .inr (by simpa using (by simpa using hq:(r:Int)=(z:Int)).symm)
    ·exact .inl hq,rfl⟩
   obtain ⟨w1,w2⟩:=H _ hm
   have d1:decide (tab2 (timesT a (ballF a es)) (b:Int) (z:Int)<0)=false:=decide_eq_false (by omega)
   have d2:decide (tab2 (timesT a (ballF a es)) (b:Int) (z:Int)>=tab2 (timesT a (ballF a es)) (c:Int) (r:Int))=false:=decide_eq_false (by omega)
   simp only [if_true,Int.toNat_natCast,t1,t2,t3,u1,u2,u3,d1,d2,Bool.false_eq_true,if_false]
   exact hi
theorem play_ends {a:Nat} {es:List E} (ha:a<=8) {c r:Nat} (hc:c<a) (hr:r<a) (h0:0<=tab2 (timesT a (ballF a es)) (c:Int) (r:Int)) :
  ∃L:List E,L=((c:Int),(r:Int),())::pl1L (ballF a es) (timesT a (ballF a es)) 67 (c:Int) (r:Int)/\L.length<=100/\IntKind.wrap .i64 ((L.length:Int)-1)=tab2 (timesT a (ballF a es)) (c:Int) (r:Int) /\
   idxIn (tab2 (timesT a (ballF a es)) (c:Int) (r:Int)) L.length=true /\ ∃z:Int,at_ K_Piiq L (tab2 (timesT a (ballF a es)) (c:Int) (r:Int)).toNat=(z,z,()):=by
 have hup:=(times_low (ballF_ok a es) hc hr).2
 obtain ⟨h1,z,hz,h2⟩:=pl1_facts (es:=es) 67 c r hc hr h0 (by omega)
 have hl:=pl1_len (ballF a es) (timesT a (ballF a es)) 67 (c:Int) (r:Int)
 generalize hL:((c:Int),(r:Int),())::pl1L (ballF a es) (timesT a (ballF a es)) 67 (c:Int) (r:Int)=L at h2
 have hlen:L.length=(pl1L (ballF a es) (timesT a (ballF a es)) 67 (c:Int) (r:Int)).length+1:=by rw [<- hL,List.length_cons]
 generalize hT:tab2 (timesT a (ballF a es)) (c:Int) (r:Int)=t at *
 obtain ⟨j,rfl⟩:=nat_of h0
 have hj:j<L.length:=by omega
 refine ⟨L,rfl,by omega,?_,idxIn_nat hj,(z:Int),?_⟩
 ·rw [wrap_in _ (by omega) (by omega)]
  omega
 ·rw [Int.toNat_natCast,at_get (e:=K_Piiq) hj]
  rw [List.getLast?_eq_getElem?] at h2
  have e:L.length-1=j:=by omega
  rw [e,List.getElem?_eq_getElem hj] at h2
  exact Option.some.inj h2
end Go.V.W
namespace Go.V.W
open Go.Proofs
theorem drawCM_ok {code:List Int} (hb:∀x∈code,0<=x/\x<=255):Ok (F_q31q 0 (code,())) fun r=>r.1.2.1.length<=200:=by
 unfold F_q31q
 simp only
 have hc:CurB (code,0,0,()):=⟨hb,Int.le_refl _⟩
 refine Ok.bind (field3_ok hc (by unfold far_;simp only;omega)) fun r hr => ?_
 have b1:=hr.1.2
 simp only at b1
 refine Ok.bind (node_ok hr.1.1 (by unfold far_;omega)) fun s hs => ?_
 have b2:=hs.2.2.2
 exact Ok.bind (node_ok hs.2.2.1 (by unfold far_;omega)) fun t ht=>Ok.some hr.2
theorem vPairs_same {L:List E} (h:L.length<=1000) (u:Unit):G_vPairs (L,L,u)=some (true,()):=by
 unfold G_vPairs
 have:okL L=true:=okL_of (by omega)
 simp only [this,decide_true,Bool.and_self,if_true]
theorem vInts_same {L:List Int} (h:L.length<=1000) (u:Unit):G_vInts (L,L,u)=some (true,()):=by
 unfold G_vInts
 have:okL L=true:=okL_of (by omega)
 simp only [this,decide_true,Bool.and_self,if_true]
theorem vTable_times {a:Nat} (ha:a<=8) (ball:Int->List Int) (u:Unit):G_vTable (timesT a ball,timesT a ball,u)=some (true,()):=by
 unfold G_vTable
 have hsq:sqL a (timesT a ball)=true:=tabL_sq _ _
 obtain ⟨t1,t2⟩:=sqL_parts hsq
 have h1:okL (timesT a ball)=true:=okL_of (by omega)
 have h2:(timesT a ball).all okL=true:=List.all_eq_true.2 fun r hr=>by
  obtain ⟨i,hi,rfl⟩:=List.getElem_of_mem hr
  have h:=t2 i (by omega)
  rw [at_get (e:=K_Si) hi] at h
  have h':(timesT a ball)[i].length=a:=h
  exact okL_of (by omega)
 simp only [h1,h2,decide_true,Bool.and_self,if_true]
theorem bestOut_one {a:Nat} {o:Int×Int} (h:o.1<0 \/ ∃p:Nat,p<a/\o.1=(p:Int)):bestOut (confL a 1) o=(if o.1<0 then ([],0,false,()) else ([o.1],o.2,true,())):=by
 unfold bestOut
 rcases h with h | ⟨p,hp,h⟩
 ·rw [if_pos h,if_pos h]
 ·rw [if_neg (show ¬o.1<0 by omega),if_neg (show ¬o.1<0 by omega),h,Int.toNat_natCast,conf_one_get hp]
theorem lawOne_of {code:List Int} {u:Unit} (hbig:(g_laws_vBig (code,())).1=false) {n:Int} {es:List E} {v:Unit} {c r:Int} {w:Unit} (hd:F_q31q 0 (code,())=some ((n,es,v),c,r,w)) (hl:es.length<=200) :
  F_laws_FnOneCop 1010 (code,u)=some (true,()):=by
 have ho:okL es=true:=okL_of (by omega)
 have hPO:G_PlayOut ((n,es,v),c,r,())=some (pl1B (n,es,v) c r):=by
  unfold G_PlayOut
  simp only [ho,if_true]
 have hSC:G_capOne ((n,es,v),())=some (capOne (n,es,v)):=by
  unfold G_capOne
  simp only [ho,if_true]
 have hPl:(pl1B (n,es,v) c r).1.length<=1000:=by
  unfold pl1B
  split
  ·have:=pl1_len (ballF n.toNat es) (oneT (n,es,v)) 67 c r
   simp only [List.length_cons]
   exact Nat.le_trans (Nat.succ_le_succ this) (by omega)
  ·simp
 unfold F_laws_FnOneCop
 simp only [hbig,Bool.false_eq_true,if_false,hd,Option.bind_some,implC1M ho,specC1M ho,implRM ho,specRM ho,hPO,implT1 ho,specT1 ho,implCT1 ho,hSC,bne_self_eq_false,beq_self_eq_true,Bool.not_true,vPairs_same hPl]
 cases hg:graphB (n,es,v) with
 | false=>
  have e1:tabB1 (n,es,v)=([],false,()):=by unfold tabB1;rw [if_neg (by simp [hg])]
  have e2:capOne (n,es,v)=(0,0,false,()):=by unfold capOne;rw [if_neg (by simp [hg])]
  have e3:copB1 (n,es,v) c r=(0,false,()):=by unfold copB1;rw [if_neg (by simp [hg])]
  have e4:robB1 (n,es,v) c r=(0,false,()):=by unfold robB1;rw [if_neg (by simp [hg])]
  have e5:pl1B (n,es,v) c r=([],false,()):=by unfold pl1B;rw [if_neg (by simp [hg])]
  have hT:G_vTable (([]:Tab),([]:Tab),())=some (true,()):=rfl
  simp only [e1,e2,e3,e4,e5,hT,Option.bind_some,Bool.not_true,Bool.not_false,Bool.false_eq_true,if_false,if_true]
 | true=>
  obtain ⟨n0,n8⟩:=graphB_n hg
  obtain ⟨a,rfl⟩:=nat_of n0
  have ha:a<=8:=by omega
  have e1:tabB1 ((a:Int),es,v)=(timesT a (ballF a es),true,()):=by unfold tabB1;rw [if_pos hg,oneT_eq]
  have hT:=vTable_times ha (ballF a es) ()
  have hsq:sqL a (timesT a (ballF a es))=true:=tabL_sq _ _
  obtain ⟨t1,t2⟩:=sqL_parts hsq
  -- the best start
  have hI:=bestRow_inv (timesT a (ballF a es)) (timesT a (ballF a es)).length 0 (-1) 0 (by omega) (.inl (by omega))
  have hP:=bestRow_pos (timesT a (ballF a es)) 0 (-1) 0 (by omega) (.inl (by omega))
  simp only [Int.natCast_zero,List.drop_zero] at hI
  have e2:capOne ((a:Int),es,v)=oneOut (bestRow (timesT a (ballF a es)) 0 (-1) 0):=by unfold capOne;rw [if_pos hg,oneT_eq]
  have hgame:(a:Int)>0->F_q22q 0 (((a:Int),es,v),1,())=some (timesT a (ballF a es),true,())/\F_q52q 0 (((a:Int),es,v),1,())=some (bestOut (confL a 1) (bestRow (timesT a (ballF a es)) 0 (-1) 0)):=fun ha0=>by
   have hf:fieldB ((a:Int),es,v) 1=true:=by
    unfold fieldB
    simp only [hg,ha0,decide_true,Bool.and_self,Bool.true_and]
    rfl
   have h1:(1:Int).toNat=1:=rfl
   constructor
   ·rw [implCT ho]
    unfold capB
    rw [if_pos hf,h1,tm_one ha]
   ·rw [implBC ho]
    unfold bestCB cfG
    rw [if_pos hf,h1,tm_one ha,Int.toNat_natCast]
  generalize bestRow (timesT a (ballF a es)) 0 (-1) 0=o at hI hP e2 hgame
  have start:((a:Int)>0->F_q22q 0 (((a:Int),es,v),1,())=some (timesT a (ballF a es),true,()))/\((capOne ((a:Int),es,v)=(0,0,false,())/\((a:Int)>0->F_q52q 0 (((a:Int),es,v),1,())=some ([],0,false,()))) \/
    ∃p:Nat,∃t:Int,(a:Int)>0/\capOne ((a:Int),es,v)=((p:Int),t,true,())/\F_q52q 0 (((a:Int),es,v),1,())=some ([(p:Int)],t,true,())/\idxIn (p:Int) (timesT a (ballF a es)).length=true/\G_vMost (at_ K_Si (timesT a (ballF a es)) p,())=some (t,())):=by
   refine ⟨fun h=>(hgame h).1,?_⟩
   rcases hI with hI | ⟨p,p1,p2,p3⟩
   ·refine .inl ⟨by rw [e2];unfold oneOut;rw [if_pos hI],fun h => ?_⟩
    rw [(hgame h).2,bestOut_one (.inl hI),if_pos hI]
   ·have hno:¬o.1<0:=by omega
    have hpa:p<a:=by omega
    have hpos:(a:Int)>0:=by omega
    refine .inr ⟨p,o.2,hpos,by rw [e2];unfold oneOut;rw [if_neg hno,p2],?_,idxIn_nat p1,?_⟩
    ·rw [(hgame hpos).2,bestOut_one (.inr ⟨p,hpa,p2⟩),if_neg hno,p2]
    ·have hw:0<=worstR (at_ K_Si (timesT a (ballF a es)) p):=by
      rcases hP with hP | hP
      ·exact absurd hP hno
      ·rw [<- p3];exact hP
     have hall:∀x∈at_ K_Si (timesT a (ballF a es)) p,0<=x:=by
      unfold worstR at hw
      rcases worst_spec (fun z=>z) (at_ K_Si (timesT a (ballF a es)) p) 0 with ⟨_,h⟩ | ⟨h,_⟩
      ·rw [h] at hw;omega
      ·exact fun x hx=>(h x hx).1
     unfold G_vMost
     have hk:okL (at_ K_Si (timesT a (ballF a es)) p)=true:=okL_of (by rw [t2 p hpa];omega)
     simp only [hk,if_true]
     rw [p3]
     unfold mostV worstR
     rw [worstR_max hall]
  obtain ⟨hcap,start⟩:=start
  have nodes:(copB1 ((a:Int),es,v) c r=(0,false,())/\robB1 ((a:Int),es,v) c r=(0,false,())/\pl1B ((a:Int),es,v) c r=([],false,())) \/
    (∃q:Int,copB1 ((a:Int),es,v) c r=(0,false,())/\robB1 ((a:Int),es,v) c r=(q,true,())/\pl1B ((a:Int),es,v) c r=([],false,())/\G_vNear (((a:Int),es,v),r,q,())=some (true,())) \/
    (∃(L:List E) (t z:Int),copB1 ((a:Int),es,v) c r=(0,false,())/\robB1 ((a:Int),es,v) c r=(0,false,())/\pl1B ((a:Int),es,v) c r=(L,true,())/\IntKind.wrap .i64 ((L.length:Int)-1)=t/\idxIn t L.length=true/\at_ K_Piiq L t.toNat=(z,z,())/\idxIn c (timesT a (ballF a es)).length=true/\idxIn r (at_ K_Si (timesT a (ballF a es)) c.toNat).length=true/\at_ I (at_ K_Si (timesT a (ballF a es)) c.toNat) r.toNat=t) \/
    (∃(L:List E) (t z b q:Int),copB1 ((a:Int),es,v) c r=(b,true,())/\robB1 ((a:Int),es,v) c r=(q,true,())/\pl1B ((a:Int),es,v) c r=(L,true,())/\IntKind.wrap .i64 ((L.length:Int)-1)=t/\idxIn t L.length=true/\at_ K_Piiq L t.toNat=(z,z,())/\idxIn c (timesT a (ballF a es)).length=true/\idxIn r (at_ K_Si (timesT a (ballF a es)) c.toNat).length=true/\at_ I (at_ K_Si (timesT a (ballF a es)) c.toNat) r.toNat=t /\
     G_vNear (((a:Int),es,v),c,b,())=some (true,())/\G_vNear (((a:Int),es,v),r,q,())=some (true,()) /\
     laws_FnOneCop_l0 1010 1010 (((a:Int),es,v),c,r,b,q,true,L,true,timesT a (ballF a es),0,())=some (.inr (.inl (((a:Int),es,v),c,r,q,true,L,true,timesT a (ballF a es),())))):=by
   cases hh:inB 0 ((a:Int)-1) c&&inB 0 ((a:Int)-1) r with
   | false=>
    refine .inl ⟨?_,?_,?_⟩
    ·unfold copB1
     rw [if_neg (by simp only [hg,Bool.true_and,hh,Bool.false_and,Bool.false_eq_true,not_false_eq_true])]
    ·unfold robB1
     rw [if_neg (by simp only [hg,Bool.true_and,hh,Bool.false_and,Bool.false_eq_true,not_false_eq_true])]
    ·unfold pl1B
     rw [if_neg (by simp only [hg,Bool.true_and,hh,Bool.false_and,Bool.false_eq_true,not_false_eq_true])]
   | true=>
    rw [Bool.and_eq_true] at hh
    obtain ⟨c',r',rfl,rfl,h1,h2⟩:=two_nat hh.1 hh.2
    obtain ⟨u1,u2,u3⟩:=times_at (ball:=ballF a es) h1 h2
    have hc2:copB1 ((a:Int),es,v) (c':Int) (r':Int)=if decide (1<=tab2 (timesT a (ballF a es)) (c':Int) (r':Int))=true then (copT (ballF a es) (timesT a (ballF a es)) (c':Int) (r':Int),true,()) else (0,false,()):=by
     unfold copB1
     simp only [hg,hh.1,hh.2,Bool.true_and,oneT_eq,Int.toNat_natCast]
    have hr2:robB1 ((a:Int),es,v) (c':Int) (r':Int)=if (!((c':Int)==(r':Int)))=true then (fleeL (tab2 (timesT a (ballF a es)) (c':Int)) (ballF a es (r':Int)) ((ballF a es (r':Int)).headD 0),true,()) else (0,false,()):=by
     unfold robB1
     simp only [hg,hh.1,hh.2,Bool.true_and,oneT_eq,Int.toNat_natCast]
    have hp2:pl1B ((a:Int),es,v) (c':Int) (r':Int)=if decide (0<=tab2 (timesT a (ballF a es)) (c':Int) (r':Int))=true then (((c':Int),(r':Int),())::pl1L (ballF a es) (timesT a (ballF a es)) 67 (c':Int) (r':Int),true,()) else ([],false,()):=by
     unfold pl1B
     simp only [hg,hh.1,hh.2,Bool.true_and,oneT_eq,Int.toNat_natCast]
    have hfl:fleeL (tab2 (timesT a (ballF a es)) (c':Int)) (ballF a es (r':Int)) ((ballF a es (r':Int)).headD 0)∈ballF a es (r':Int):=flee_head (List.ne_nil_of_mem (ball_self es h2))
    have hn2:=near_some (n:=(a:Int)) (v:=v) ho hfl ()
    by_cases h0:0<=tab2 (timesT a (ballF a es)) (c':Int) (r':Int)
    ·obtain ⟨L,eL,l1,l2,l3,z,l4⟩:=play_ends (es:=es) ha h1 h2 h0
     rw [<- eL,if_pos (decide_eq_true h0)] at hp2
     by_cases he:c'=r'
     ·subst he
      have hz:=(times_zero (n:=a) (ball:=ballF a es) h1 h1).2 rfl
      rw [if_neg (by rw [hz];decide)] at hc2
      rw [if_neg (by simp)] at hr2
      exact .inr (.inr (.inl ⟨L,_,z,hc2,hr2,hp2,l2,l3,l4,u1,by simp only [Int.toNat_natCast];exact u2,by simp only [Int.toNat_natCast];exact u3⟩))
     ·have hne:¬(c':Int)=(r':Int):=by omega
      obtain ⟨b,q,hb,hq,k1,k2,k3,k4,k5,k6,k7⟩:=chase_one (es:=es) h1 h2 he h0
      rw [if_pos (decide_eq_true k3),k1] at hc2
      rw [if_pos (by simpa using hne)] at hr2
      refine .inr (.inr (.inr ⟨L,_,z,_,_,hc2,hr2,hp2,l2,l3,l4,u1,by simp only [Int.toNat_natCast];exact u2,by simp only [Int.toNat_natCast];exact u3,near_some ho k5 (),hn2,?_⟩))
      by_cases hbr:b=r'
      ·subst hbr
       show laws_FnOneCop_l0_r _ _ _=_
       unfold laws_FnOneCop_l0_r
       simp only [bne_self_eq_false,Bool.false_eq_true,if_false]
      ·exact one_loop 1010 ha ho h1 h2 hb hbr _ true L true (k7 hbr) a 0 1010 (by omega) (by omega)
    ·have hne:¬(c':Int)=(r':Int):=fun e=>by
      have e:c'=r':=by omega
      subst e
      exact h0 (by rw [(times_zero (n:=a) (ball:=ballF a es) h1 h1).2 rfl];omega)
     have h1':¬1<=tab2 (timesT a (ballF a es)) (c':Int) (r':Int):=by omega
     rw [if_neg (by simpa using h1')] at hc2
     rw [if_pos (by simpa using hne)] at hr2
     rw [if_neg (by simpa using h0)] at hp2
     exact .inr (.inl ⟨_,hc2,hr2,hp2,hn2⟩)
  clear hI hP e2 hgame
  rcases nodes with ⟨n1,n2,n3⟩ | ⟨q,n1,n2,n3,n4⟩ | ⟨L,t,z,n1,n2,n3,n4,n5,n6,n7,n8,n9⟩ | ⟨L,t,z,b,q,n1,n2,n3,n4,n5,n6,n7,n8,n9,na,nb,nc⟩
  ·rcases start with ⟨s1,s2⟩ | ⟨p,w2,ha0,s1,s2,s3,s4⟩
   ·by_cases ha0:(a:Int)>0
    ·simp only [e1,hT,Option.bind_some,Bool.not_true,Bool.not_false,Bool.false_eq_true,if_false,if_true,bne_self_eq_false,beq_self_eq_true,s1,s2 ha0,hcap ha0,ha0,decide_true,n1,n2,n3]
    ·simp only [e1,hT,Option.bind_some,Bool.not_true,Bool.not_false,Bool.false_eq_true,if_false,if_true,bne_self_eq_false,beq_self_eq_true,s1,ha0,decide_false,n1,n2,n3]
   ·simp only [e1,hT,Option.bind_some,Bool.not_true,Bool.not_false,Bool.false_eq_true,if_false,if_true,bne_self_eq_false,beq_self_eq_true,s1,s2,hcap ha0,ha0,decide_true,s3,s4,Int.toNat_natCast,vInts_same (show ([(p:Int)]:List Int).length<=1000 by simp),n1,n2,n3]
  ·rcases start with ⟨s1,s2⟩ | ⟨p,w2,ha0,s1,s2,s3,s4⟩
   ·by_cases ha0:(a:Int)>0
    ·simp only [e1,hT,Option.bind_some,Bool.not_true,Bool.not_false,Bool.false_eq_true,if_false,if_true,bne_self_eq_false,beq_self_eq_true,s1,s2 ha0,hcap ha0,ha0,decide_true,n1,n2,n3,n4]
    ·simp only [e1,hT,Option.bind_some,Bool.not_true,Bool.not_false,Bool.false_eq_true,if_false,if_true,bne_self_eq_false,beq_self_eq_true,s1,ha0,decide_false,n1,n2,n3,n4]
   ·simp only [e1,hT,Option.bind_some,Bool.not_true,Bool.not_false,Bool.false_eq_true,if_false,if_true,bne_self_eq_false,beq_self_eq_true,s1,s2,hcap ha0,ha0,decide_true,s3,s4,Int.toNat_natCast,vInts_same (show ([(p:Int)]:List Int).length<=1000 by simp),n1,n2,n3,n4]
  ·rcases start with ⟨s1,s2⟩ | ⟨p,w2,ha0,s1,s2,s3,s4⟩
   ·by_cases ha0:(a:Int)>0
    ·simp only [e1,hT,Option.bind_some,Bool.not_true,Bool.not_false,Bool.false_eq_true,if_false,if_true,bne_self_eq_false,beq_self_eq_true,s1,s2 ha0,hcap ha0,ha0,decide_true,n1,n2,n3,n4,n5,n6,n7,n8,n9]
    ·simp only [e1,hT,Option.bind_some,Bool.not_true,Bool.not_false,Bool.false_eq_true,if_false,if_true,bne_self_eq_false,beq_self_eq_true,s1,ha0,decide_false,n1,n2,n3,n4,n5,n6,n7,n8,n9]
   ·simp only [e1,hT,Option.bind_some,Bool.not_true,Bool.not_false,Bool.false_eq_true,if_false,if_true,bne_self_eq_false,beq_self_eq_true,s1,s2,hcap ha0,ha0,decide_true,s3,s4,Int.toNat_natCast,vInts_same (show ([(p:Int)]:List Int).length<=1000 by simp),n1,n2,n3,n4,n5,n6,n7,n8,n9]
  ·rcases start with ⟨s1,s2⟩ | ⟨p,w2,ha0,s1,s2,s3,s4⟩
   ·by_cases ha0:(a:Int)>0
    ·simp only [e1,hT,Option.bind_some,Bool.not_true,Bool.not_false,Bool.false_eq_true,if_false,if_true,bne_self_eq_false,beq_self_eq_true,s1,s2 ha0,hcap ha0,ha0,decide_true,n1,n2,n3,n4,n5,n6,n7,n8,n9,na,nb,nc]
    ·simp only [e1,hT,Option.bind_some,Bool.not_true,Bool.not_false,Bool.false_eq_true,if_false,if_true,bne_self_eq_false,beq_self_eq_true,s1,ha0,decide_false,n1,n2,n3,n4,n5,n6,n7,n8,n9,na,nb,nc]
   ·simp only [e1,hT,Option.bind_some,Bool.not_true,Bool.not_false,Bool.false_eq_true,if_false,if_true,bne_self_eq_false,beq_self_eq_true,s1,s2,hcap ha0,ha0,decide_true,s3,s4,Int.toNat_natCast,vInts_same (show ([(p:Int)]:List Int).length<=1000 by simp),n1,n2,n3,n4,n5,n6,n7,n8,n9,na,nb,nc]
theorem lawOne_lim (d:List Int×Unit) (r:Bool×Unit) (h:G_law d=some r):∃N,F_laws_FnOneCop N d=some r:=by
 obtain ⟨code,u⟩:=d
 unfold G_law at h
 split at h
 ·rename_i hh
  cases Option.some.inj h
  simp only [Bool.and_eq_true,List.all_eq_true] at hh
  have hb:∀x∈code,0<=x/\x<=255:=fun x hx=>by
   have:=hh.1 x hx
   unfold inB at this
   simpa using this
  cases hbig:(g_laws_vBig (code,())).1 with
  | true=>
   refine ⟨0,?_⟩
   unfold F_laws_FnOneCop
   simp only [hbig,if_true]
  | false=>
   obtain ⟨⟨⟨n,es,v⟩,c,r,w⟩,e1,e2⟩:=drawCM_ok hb
   exact ⟨1010,lawOne_of hbig e1 e2⟩
 ·cases h
end Go.V.W
namespace Go.V.W
open Go.Proofs
structure Sts (m cfn:Nat) (st:List St):Prop where
 at_:∀j (h:j<st.length),(∃c:Nat,st[j].1=(c:Int)/\c<cfn)/\(∃p:Nat->Bool,st[j].2.1=setF p m 0) /\ -1<=st[j].2.2.1/\st[j].2.2.1<(j:Int)
theorem Sts.push {m cfn:Nat} {st:List St} (h:Sts m cfn st) {c:Nat} (hc:c<cfn) (p:Nat->Bool) {b:Int} (h1 : -1<=b) (h2:b<(st.length:Int)):Sts m cfn (st++[((c:Int),setF p m 0,b,())]):=by
 refine ⟨fun j hj => ?_⟩
 by_cases hl:j<st.length
 ·rw [List.getElem_append_left hl]
  exact h.at_ j hl
 ·have e:j=st.length:=by simp at hj;omega
  subst e
  rw [List.getElem_append_right (by omega)]
  simp only [Nat.sub_self,List.getElem_cons_zero]
  exact ⟨⟨c,rfl,hc⟩,⟨p,rfl⟩,h1,h2⟩
def cntT (l:List Bool):Nat:=l.foldr (fun b s=>(if b=true then 1 else 0)+s) 0
structure ShI (m cfn:Nat) (st:List St) (sn:List Bool):Prop where
 sts:Sts m cfn st
 len:sn.length=cfn*2 ^ m
 cnt:st.length<=cfn+cntT sn
end Go.V.W
namespace Go.V.W
open Go.Proofs
def GWalk (g:Gr) (w:List (List Int)):Prop:=g.2.1.length<=200/\w.length<=60 /\ ∀l∈w,l.length<=10
theorem GWalk.ok {g:Gr} {w:List (List Int)} (h:GWalk g w):okL g.2.1=true/\okLL w=true:=⟨okL_of (by have:=h.1;omega),okLL_small (by have:=h.2.1;omega) (List.all_eq_true.2 fun l hl=>decide_eq_true (by have:=h.2.2 l hl;omega))⟩
end Go.V.W
namespace Go.V.W
open Go.Proofs
structure LogIs (d p:List UInt8) (c:Int):Prop where
 size:d.length+p.length<=30000
 all:(openL 60 0 (d++p)).2=(d++p).length
 durable:(openL 60 0 d).2=d.length
 count:((openL 60 0 (d++p)).1.length:Int)=c
end Go.V.W
