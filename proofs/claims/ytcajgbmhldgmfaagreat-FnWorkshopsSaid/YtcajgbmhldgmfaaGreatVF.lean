/- What the law FnWorkshops leans on, part 6: an interpreter of the model as plain data, its soundness, the functions as it tells them, and their laws. -/
import Derived.Test.YtcajgbmhldgmfaaGreatVE
set_option linter.unusedVariables false
set_option linter.unusedSimpArgs false
set_option maxRecDepth 100000
namespace Go.V.W
open Go.Proofs
theorem sqL_parts {n:Nat} {T:Tab} (h:sqL n T=true):T.length=n /\ ∀c,c<n->(at_ K_Si T c).length=n:=by
 unfold sqL at h
 simp only [Bool.and_eq_true,decide_eq_true_eq,List.all_eq_true] at h
 refine ⟨h.1,fun c hc => ?_⟩
 have hlt:c<T.length:=by omega
 have e:at_ K_Si T c=T[c]:=at_get (e:=K_Si) hlt
 rw [e]
 exact h.2 _ (List.getElem_mem hlt)
theorem tab2_at {n:Nat} {T:Tab} (h:sqL n T=true) {c r:Nat} (hc:c<n) (hr:r<n):at_ I (at_ K_Si T c) r=tab2 T (c:Int) (r:Int):=by
 obtain ⟨h1,h2⟩:=sqL_parts h
 have hlt:c<T.length:=by omega
 have e:at_ K_Si T c=T[c]:=at_get (e:=K_Si) hlt
 have h3:=h2 c hc
 rw [e] at h3 |-
 have e2:at_ I T[c] r=T[c][r]:=at_get (e:=I) (by omega)
 rw [e2]
 unfold tab2
 simp only [Int.toNat_natCast,List.getD_eq_getElem?_getD,List.getElem?_eq_getElem hlt,Option.getD_some]
 rw [List.getElem?_eq_getElem (by omega)]
 rfl
theorem tabL_sq (n:Nat) (f:Nat->Nat->Int):sqL n (tabL n f)=true:=by
 unfold sqL tabL
 simp
theorem tabL_sqB {n:Nat} {f:Nat->Nat->Int} (h:∀c r,c<n->r<n -> -1<=f c r/\f c r<=1000):sqB n (tabL n f)=true:=by
 unfold sqB
 rw [tabL_sq,Bool.true_and]
 unfold tabL
 simp only [List.all_map,List.all_eq_true,Function.comp,List.mem_range,Bool.and_eq_true,decide_eq_true_eq]
 intro c hc r hr
 exact h c r hc hr
theorem most_eq (m v:Int):g_q87q (m,v,())=((if m<v then v else m),()):=by
 unfold g_q87q
 by_cases h:m>v
 ·have h2:¬m<v:=by omega
  simp [h,h2]
 ·simp only [h,decide_false,Bool.false_eq_true,if_false]
  by_cases h2:m<v
  ·rw [if_pos h2]
  ·have e:m=v:=by omega
   rw [if_neg h2,e]
theorem worst_l0 (N n:Nat) (T:Tab) (hT:sqL n T=true) (c:Nat) (hc:c<n) (ball:List Int) (hb:∀z∈ball,∃y:Nat,y<n/\z=(y:Int)) (hl:ball.length<=1000):∀(k i f:Nat) (m:Int),i+k=ball.length->k<f ->
  q74q_l0 N f (T,(c:Int),m,ball,(i:Int),())=some (.inl (worstL (tab2 T c) (ball.drop i) m,()))\/q74q_l0 N f (T,(c:Int),m,ball,(i:Int),())=some (.inr (.inl (worstL (tab2 T c) (ball.drop i) m,()))):=by
 have hmx:ball.length<=maxLen:=by unfold maxLen;omega
 obtain ⟨t1,t2⟩:=sqL_parts hT
 intro k
 induction k with
 | zero=>
  intro i f m h1 h2
  obtain ⟨f,rfl⟩:∃m,f=m+1:=⟨f-1,by omega⟩
  have e:i=ball.length:=by omega
  subst e
  rw [List.drop_of_length_le (Nat.le_refl _)]
  right
  simp [q74q_l0,q74q_l0_r,worstL]
 | succ k ih=>
  intro i f m h1 h2
  obtain ⟨f,rfl⟩:∃m,f=m+1:=⟨f-1,by omega⟩
  have hi:i<ball.length:=by omega
  obtain ⟨y,hy,ey⟩:=hb ball[i] (List.getElem_mem hi)
  have e:at_ I ball i=(y:Int):=(at_get (e:=I) hi).trans ey
  have i1:idxIn (c:Int) T.length=true:=idxIn_nat (by omega)
  have i2:idxIn (y:Int) (at_ K_Si T c).length=true:=idxIn_nat (by rw [t2 c hc];exact hy)
  have hv:=tab2_at hT hc hy
  have hd:ball.drop i=(y:Int)::ball.drop (i+1):=by rw [List.drop_eq_getElem_cons hi,ey]
  have step:q74q_l0 N (f+1) (T,(c:Int),m,ball,(i:Int),())=if tab2 T c y<0 then some (.inl (-1,())) else q74q_l0 N f (T,(c:Int),(if m<tab2 T c y then tab2 T c y else m),ball,((i+1:Nat):Int),()):=by
   show q74q_l0_r N (q74q_l0 N f) (T,(c:Int),m,ball,(i:Int),())=_
   unfold q74q_l0_r
   simp only [lt_dec hi,if_true,i1,idxIn_nat hi,Int.toNat_natCast,e,i2,hv,most_eq,wrap_up hi hmx]
   by_cases h:tab2 T c y<0
   ·simp only [h,decide_true,if_true]
   ·simp only [h,decide_false,Bool.false_eq_true,if_false]
  rw [step,hd]
  simp only [worstL]
  by_cases h:tab2 T c y<0
  ·rw [if_pos h,if_pos h]
   exact .inl rfl
  ·rw [if_neg h,if_neg h]
   exact ih (i+1) f _ (by omega) (by omega)
theorem grB_parts {g:Gr} (h:grB g=true):okL g.2.1=true/\g.1=(g.1.toNat:Int)/\g.1.toNat<=8/\g.2.1.all (edgeB (g.1.toNat:Int))=true:=by
 unfold grB at h
 simp only [Bool.and_eq_true,decide_eq_true_eq] at h
 obtain ⟨⟨⟨h1,h2⟩,h3⟩,h4⟩:=h
 have e:g.1=(g.1.toNat:Int):=by omega
 exact ⟨h1,e,by omega,by rw [<- e];exact h4⟩
theorem ballF_ok (n:Nat) (es:List E):okBall n (ballF n es):=fun x _ z hz=>setF_nat z hz
theorem ballF_len (n:Nat) (es:List E) (x:Int):(ballF n es x).length<=n:=setF_len
theorem ball_some {g:Gr} (h:grB g=true) {x:Nat} (hx:x<g.1.toNat):F_q86q 0 (g,(x:Int),())=some (ballF g.1.toNat g.2.1 (x:Int),()):=by
 obtain ⟨h1,h2,h3,h4⟩:=grB_parts h
 rw [ball_eq g g.1.toNat h2 h3 h1,ballL_set hx]
 show some (setF _ _ _,())=some (setF _ _ _,())
 congr 2
 exact setF_congr fun y _ _=>by
  congr 1
  exact decide_eq_decide.2 (by omega)
theorem inB_nat {n:Int} {x:Int} (hn:n=(n.toNat:Int)) (h:inB 0 (n-1) x=true):x=(x.toNat:Int)/\x.toNat<n.toNat:=by
 have:=inB_iff.1 h
 omega
theorem l3Worst_lim (d) (r) (h:G_l3Worst d=some r):∃N,F_q74q N d=some r:=by
 obtain ⟨g,T,c,q,_⟩:=d
 unfold G_l3Worst at h
 split at h
 ·rename_i hc
  simp only [Bool.and_eq_true] at hc
  obtain ⟨⟨⟨hg,hT⟩,hc⟩,hq⟩:=hc
  obtain ⟨g1,g2,g3,g4⟩:=grB_parts hg
  obtain ⟨c1,c2⟩:=inB_nat g2 hc
  obtain ⟨q1,q2⟩:=inB_nat g2 hq
  have h:=Option.some.inj h
  subst h
  have hT:sqL g.1.toNat T=true:=by
   have hT:sqB g.1.toNat T=true:=hT
   unfold sqB at hT
   simp only [Bool.and_eq_true] at hT
   exact hT.1
  refine ⟨20,?_⟩
  unfold F_q74q
  have hbl:=ballF_len g.1.toNat g.2.1 (q.toNat:Int)
  have:=worst_l0 20 g.1.toNat T hT c.toNat c2 (ballF g.1.toNat g.2.1 (q.toNat:Int)) (ballF_ok _ _ q.toNat q2) (by omega) (ballF g.1.toNat g.2.1 (q.toNat:Int)).length 0 20 0 (by omega) (by omega)
  simp only [Int.natCast_zero,List.drop_zero] at this
  have hb:=ball_some hg q2
  rw [<- q1] at hb this
  rw [<- c1] at this
  simp only [hb,Option.bind_some]
  rcases this with h | h
  ·simp only [h,Option.bind_some]
  ·simp only [h,Option.bind_some]
 ·cases h
theorem after_some {g:Gr} (h:grB g=true) {T:Tab} (hT:sqB g.1.toNat T=true) {b q:Nat} (hb:b<g.1.toNat) (hq:q<g.1.toNat):F_q70q 0 (g,T,(b:Int),(q:Int),())=some (afterT (ballF g.1.toNat g.2.1) T (b:Int) (q:Int),()):=by
 obtain ⟨g1,g2,g3,g4⟩:=grB_parts h
 unfold F_q70q afterT
 have i1:inB 0 (g.1-1) (b:Int)=true:=inB_iff.2 (by omega)
 have i2:inB 0 (g.1-1) (q:Int)=true:=inB_iff.2 (by omega)
 by_cases e:(b:Int)=(q:Int)
 ·simp only [e,beq_self_eq_true,if_true]
 ·have e':((b:Int)==(q:Int))=false:=by simpa using e
  simp only [e',Bool.false_eq_true,if_false,e,G_l3Worst,h,hT,i1,i2,Bool.and_self,if_true,Option.bind_some]
theorem best_l0 (N:Nat) (g:Gr) (h:grB g=true) (T:Tab) (hT:sqB g.1.toNat T=true) (q:Nat) (hq:q<g.1.toNat) (ball:List Int) (hb:∀z∈ball,∃y:Nat,y<g.1.toNat/\z=(y:Int)) (hl:ball.length<=1000):∀(k i f:Nat) (m:Int),i+k=ball.length->k<f ->
  q89q_l0 N f (T,(q:Int),g,m,ball,(i:Int),())=some (.inl (bestL (fun b=>afterT (ballF g.1.toNat g.2.1) T b (q:Int)) (ball.drop i) m,())):=by
 have hmx:ball.length<=maxLen:=by unfold maxLen;omega
 intro k
 induction k with
 | zero=>
  intro i f m h1 h2
  obtain ⟨f,rfl⟩:∃m,f=m+1:=⟨f-1,by omega⟩
  have e:i=ball.length:=by omega
  subst e
  rw [List.drop_of_length_le (Nat.le_refl _)]
  simp [q89q_l0,q89q_l0_r,bestL]
 | succ k ih=>
  intro i f m h1 h2
  obtain ⟨f,rfl⟩:∃m,f=m+1:=⟨f-1,by omega⟩
  have hi:i<ball.length:=by omega
  obtain ⟨y,hy,ey⟩:=hb ball[i] (List.getElem_mem hi)
  have e:at_ I ball i=(y:Int):=(at_get (e:=I) hi).trans ey
  have hd:ball.drop i=(y:Int)::ball.drop (i+1):=by rw [List.drop_eq_getElem_cons hi,ey]
  show q89q_l0_r N (q89q_l0 N f) (T,(q:Int),g,m,ball,(i:Int),())=_
  unfold q89q_l0_r
  rw [hd]
  simp only [lt_dec hi,if_true,idxIn_nat hi,Int.toNat_natCast,e,after_some h hT hy hq,Option.bind_some,wrap_up hi hmx,bestL]
  generalize afterT (ballF g.1.toNat g.2.1) T (y:Int) (q:Int)=v
  by_cases h1':v>=0
  ·by_cases h2':m<0
   ·simp only [h1',h2',decide_true,if_true,true_or,and_self]
    exact ih (i+1) f _ (by omega) (by omega)
   ·by_cases h3':v<m
    ·simp only [h1',h2',h3',decide_true,decide_false,Bool.false_eq_true,if_true,if_false,or_true,and_self]
     exact ih (i+1) f _ (by omega) (by omega)
    ·simp only [h1',h2',h3',decide_true,decide_false,Bool.false_eq_true,if_true,if_false,or_self,and_false]
     exact ih (i+1) f _ (by omega) (by omega)
  ·simp only [h1',decide_false,Bool.false_eq_true,if_false,false_and]
   exact ih (i+1) f _ (by omega) (by omega)
theorem l3Best_lim (d) (r) (h:G_l3Best d=some r):∃N,F_q89q N d=some r:=by
 obtain ⟨g,T,c,q,_⟩:=d
 unfold G_l3Best at h
 split at h
 ·rename_i hc
  simp only [Bool.and_eq_true] at hc
  obtain ⟨⟨⟨hg,hT⟩,hc⟩,hq⟩:=hc
  obtain ⟨g1,g2,g3,g4⟩:=grB_parts hg
  obtain ⟨c1,c2⟩:=inB_nat g2 hc
  obtain ⟨q1,q2⟩:=inB_nat g2 hq
  have h:=Option.some.inj h
  subst h
  refine ⟨20,?_⟩
  unfold F_q89q
  have hbl:=ballF_len g.1.toNat g.2.1 (c.toNat:Int)
  have:=best_l0 20 g hg T hT q.toNat q2 (ballF g.1.toNat g.2.1 (c.toNat:Int)) (ballF_ok _ _ c.toNat c2) (by omega) (ballF g.1.toNat g.2.1 (c.toNat:Int)).length 0 20 (-1) (by omega) (by omega)
  simp only [Int.natCast_zero,List.drop_zero] at this
  have hb:=ball_some hg c2
  rw [<- c1] at hb this
  rw [<- q1] at this
  simp only [hb,Option.bind_some,this]
 ·cases h
theorem sign_eq (c r:Nat):g_q85q ((c:Int)==(r:Int),())=(startF c r,()):=by
 unfold g_q85q startF
 by_cases h:c=r
 ·subst h;simp
 ·have:¬(c:Int)=(r:Int):=by omega
  have h2:((c:Int)==(r:Int))=false:=by simpa using this
  simp [h,h2]
theorem range_snoc (n:Nat) (g:Nat->Int):(List.range n).map g++[g n]=(List.range (n+1)).map g:=by simp [List.range_succ]
theorem range_snocT (n:Nat) (g:Nat->List Int):(List.range n).map g++[g n]=(List.range (n+1)).map g:=by simp [List.range_succ]
theorem wrap8 {i n:Nat} (h:i<n) (hn:n<=8):IntKind.wrap .i64 ((i:Int)+1)=((i+1:Nat):Int):=by
 rw [wrap_in _ (by omega) (by omega)]
 rfl
theorem times_l2 (N:Nat) (g:Gr) (n:Nat) (hg:g.1=(n:Int)) (hn:n<=8) (now:Tab) (c:Nat):∀(k r f:Nat),r+k=n->k<f ->
  q62q_l2 N f (g,now,(c:Int),(List.range r).map (startF c),(r:Int),())=some (.inl (g,now,(c:Int),(List.range n).map (startF c),())):=by
 intro k
 induction k with
 | zero=>
  intro r f h1 h2
  obtain ⟨f,rfl⟩:∃m,f=m+1:=⟨f-1,by omega⟩
  have e:r=n:=by omega
  subst e
  simp [q62q_l2,q62q_l2_r,hg]
 | succ k ih=>
  intro r f h1 h2
  obtain ⟨f,rfl⟩:∃m,f=m+1:=⟨f-1,by omega⟩
  have hr:r<n:=by omega
  show q62q_l2_r N (q62q_l2 N f) (g,now,(c:Int),(List.range r).map (startF c),(r:Int),())=_
  unfold q62q_l2_r
  have hle:∀v:Int,decide (((List.range r).map (startF c)).length+List.length [v]<=lim)=true:=fun v=>by
   unfold lim
   simp
   omega
  simp only [hg,lt_dec hr,if_true,sign_eq,hle,wrap8 hr hn,range_snoc]
  exact ih (r+1) f (by omega) (by omega)
theorem times_l0 (N:Nat) (hN:10<=N) (g:Gr) (n:Nat) (hg:g.1=(n:Int)) (hn:n<=8):∀(k c f:Nat),c+k=n->k<f ->
  q62q_l0 N f (g,(List.range c).map (fun c=>(List.range n).map (startF c)),(c:Int),())=some (.inl (g,tabL n startF,())):=by
 intro k
 induction k with
 | zero=>
  intro c f h1 h2
  obtain ⟨f,rfl⟩:∃m,f=m+1:=⟨f-1,by omega⟩
  have e:c=n:=by omega
  subst e
  simp [q62q_l0,q62q_l0_r,hg,tabL]
 | succ k ih=>
  intro c f h1 h2
  obtain ⟨f,rfl⟩:∃m,f=m+1:=⟨f-1,by omega⟩
  have hc:c<n:=by omega
  show q62q_l0_r N (q62q_l0 N f) (g,(List.range c).map (fun c=>(List.range n).map (startF c)),(c:Int),())=_
  unfold q62q_l0_r
  have hin:=times_l2 N g n hg hn ((List.range c).map (fun c=>(List.range n).map (startF c))) c n 0 N (by omega) (by omega)
  simp only [List.range_zero,List.map_nil,Int.natCast_zero] at hin
  have hle:∀v:List Int,decide (((List.range c).map (fun c=>(List.range n).map (startF c))).length+List.length [v]<=lim)=true:=fun v=>by
   unfold lim
   simp
   omega
  simp only [hg,lt_dec hc,if_true,hin,Option.bind_some,hle,wrap8 hc hn,range_snocT c (fun c=>(List.range n).map (startF c))]
  exact ih (c+1) f (by omega) (by omega)
def rowS (n:Nat) (ball:Int->List Int) (t:Int) (f:Nat->Nat->Int) (c r:Nat):List Int:=(List.range n).map fun j=>if j<r then stepF n ball t f c j else f c j
theorem rowS_len (n:Nat) (ball:Int->List Int) (t:Int) (f:Nat->Nat->Int) (c r:Nat):(rowS n ball t f c r).length=n:=by simp [rowS]
theorem rowS_at {n:Nat} {ball:Int->List Int} {t:Int} {f:Nat->Nat->Int} {c r:Nat} (hr:r<n):at_ I (rowS n ball t f c r) r=f c r:=by
 have:(rowS n ball t f c r)[r]? = some (f c r):=by
  unfold rowS
  rw [rowR_get _ hr,if_neg (by omega)]
 exact (at_some this).1
theorem map_set (n r:Nat) (g:Nat->Int) (v:Int):((List.range n).map g).set r v=(List.range n).map fun j=>if j=r then v else g j:=by
 apply List.ext_getElem
 ·simp
 ·intro i h1 h2
  simp only [List.length_set,List.length_map,List.length_range] at h1
  rw [List.getElem_set]
  by_cases e:r=i
  ·subst e;simp
  ·have e':¬i=r:=fun h=>e h.symm
   simp [e,e']
theorem rowS_next {n:Nat} {ball:Int->List Int} {t:Int} {f:Nat->Nat->Int} {c r:Nat} (hr:r<n) :
  (canF n ball f c r=true->(rowS n ball t f c r).set r t=rowS n ball t f c (r+1))/\(canF n ball f c r=false->rowS n ball t f c r=rowS n ball t f c (r+1)):=by
 constructor
 ·intro h
  unfold rowS
  rw [map_set]
  refine List.map_congr_left fun j _ => ?_
  by_cases e:j=r
  ·subst e
   have:stepF n ball t f c j=t:=if_pos h
   simp [this]
  ·by_cases e2:j<r
   ·have:j<r+1:=by omega
    simp [e,e2,this]
   ·have:¬j<r+1:=by omega
    simp [e,e2,this]
 ·intro h
  unfold rowS
  refine List.map_congr_left fun j _ => ?_
  by_cases e:j=r
  ·subst e
   have:stepF n ball t f c j=f c j:=if_neg (by rw [h];simp)
   simp [this]
  ·by_cases e2:j<r
   ·have:j<r+1:=by omega
    simp [e2,this]
   ·have:¬j<r+1:=by omega
    simp [e2,this]
theorem rowS_zero (n:Nat) (ball:Int->List Int) (t:Int) (f:Nat->Nat->Int) (c:Nat):rowS n ball t f c 0=(List.range n).map (f c):=by
 unfold rowS
 exact List.map_congr_left fun j _=>if_neg (by omega)
theorem rowS_full (n:Nat) (ball:Int->List Int) (t:Int) (f:Nat->Nat->Int) (c:Nat):rowS n ball t f c n=(List.range n).map (stepF n ball t f c):=by
 unfold rowS
 exact List.map_congr_left fun j hj=>if_pos (List.mem_range.1 hj)
theorem times_l8 (N:Nat) (g:Gr) (hG:grB g=true) (t:Nat) (ht:t<=900) (f:Nat->Nat->Int) (hI:InvT g.1.toNat (ballF g.1.toNat g.2.1) t f) (next:Tab) (c:Nat) (hc:c<g.1.toNat):∀(k r fu:Nat) (ch:Bool),r+k=g.1.toNat->k<fu ->
  q62q_l8 N fu (g,tabL g.1.toNat f,ch,next,(c:Int),rowS g.1.toNat (ballF g.1.toNat g.2.1) (t:Int) f c r,(r:Int),()) =
   some (.inl (g,tabL g.1.toNat f,ch||(List.range' r k).any (fun j=>canF g.1.toNat (ballF g.1.toNat g.2.1) f c j),next,(c:Int),rowS g.1.toNat (ballF g.1.toNat g.2.1) (t:Int) f c g.1.toNat,())):=by
 obtain ⟨g1,g2,g3,g4⟩:=grB_parts hG
 have hb:=ballF_ok g.1.toNat g.2.1
 have hsq:sqB g.1.toNat (tabL g.1.toNat f)=true:=tabL_sqB fun c r hc hr=>⟨hI.low c r hc hr,by have:=hI.high c r hc hr;omega⟩
 intro k
 induction k with
 | zero=>
  intro r fu ch h1 h2
  obtain ⟨fu,rfl⟩:∃m,fu=m+1:=⟨fu-1,by omega⟩
  have e:r=g.1.toNat:=by omega
  subst e
  show q62q_l8_r N (q62q_l8 N fu) _=_
  unfold q62q_l8_r
  have:decide (((g.1.toNat:Nat):Int)<g.1)=false:=by simp;omega
  simp only [this,Bool.false_eq_true,if_false,List.range'_zero,List.any_nil,Bool.or_false]
 | succ k ih=>
  intro r fu ch h1 h2
  obtain ⟨fu,rfl⟩:∃m,fu=m+1:=⟨fu-1,by omega⟩
  have hr:r<g.1.toNat:=by omega
  have hlt:decide ((r:Int)<g.1)=true:=by simp;omega
  have i1:inB 0 (g.1-1) (c:Int)=true:=inB_iff.2 (by omega)
  have i2:inB 0 (g.1-1) (r:Int)=true:=inB_iff.2 (by omega)
  have hidx:idxIn (r:Int) (rowS g.1.toNat (ballF g.1.toNat g.2.1) (t:Int) f c r).length=true:=idxIn_nat (by rw [rowS_len];exact hr)
  obtain ⟨s1,s2⟩:=rowS_next (n:=g.1.toNat) (ball:=ballF g.1.toNat g.2.1) (t:=(t:Int)) (f:=f) (c:=c) hr
  show q62q_l8_r N (q62q_l8 N fu) _=_
  unfold q62q_l8_r
  simp only [hlt,if_true,G_l3Best,hG,hsq,i1,i2,Bool.and_self,Option.bind_some,hidx,Int.toNat_natCast,rowS_at hr,wrap8 hr g3]
  rw [List.range'_succ,List.any_cons]
  by_cases hf:f c r<0
  ·rcases best_round hb hI hc hr hf with ⟨b1,b2⟩ | ⟨b1,b2⟩
   ·have hp:=hI.pos
    have h0:decide ((t:Int)-1>=0)=true:=by simp;omega
    have hw:IntKind.wrap .i64 ((t:Int)-1+1)=(t:Int):=by
     rw [wrap_in _ (by omega) (by omega)]
     omega
    simp only [hf,decide_true,if_true,b2,h0,hw,s1 b1,b1,Bool.true_or,Bool.or_true]
    have:=ih (r+1) fu true (by omega) (by omega)
    simpa using this
   ·have h0:decide ((-1:Int)>=0)=false:=by decide
    simp only [hf,decide_true,if_true,b2,h0,Bool.false_eq_true,if_false,s2 b1,b1,Bool.false_or]
    exact ih (r+1) fu ch (by omega) (by omega)
  ·have hcan:canF g.1.toNat (ballF g.1.toNat g.2.1) f c r=false:=by
    unfold canF
    simp [hf]
   simp only [hf,decide_false,Bool.false_eq_true,if_false,s2 hcan,hcan,Bool.false_or]
   exact ih (r+1) fu ch (by omega) (by omega)
theorem own_some (l:List Int) (h:l.length<=1000):F_spec_l1Own 0 (l,())=some (l,()):=by
 unfold F_spec_l1Own
 have:decide (List.length ([]:List Int)+List.length l<=lim)=true:=by unfold lim;simp;omega
 simp only [this,if_true,List.nil_append]
theorem times_l6 (N:Nat) (hN:10<=N) (g:Gr) (hG:grB g=true) (t:Nat) (ht:t<=900) (f:Nat->Nat->Int) (hI:InvT g.1.toNat (ballF g.1.toNat g.2.1) t f):∀(k c fu:Nat) (ch:Bool),c+k=g.1.toNat->k<fu ->
  q62q_l6 N fu (g,tabL g.1.toNat f,ch,(List.range c).map (fun c=>(List.range g.1.toNat).map (stepF g.1.toNat (ballF g.1.toNat g.2.1) (t:Int) f c)),(c:Int),()) =
   some (.inl (g,ch||(List.range' c k).any (fun c=>(List.range g.1.toNat).any fun j=>canF g.1.toNat (ballF g.1.toNat g.2.1) f c j),tabL g.1.toNat (stepF g.1.toNat (ballF g.1.toNat g.2.1) (t:Int) f),())):=by
 obtain ⟨g1,g2,g3,g4⟩:=grB_parts hG
 intro k
 induction k with
 | zero=>
  intro c fu ch h1 h2
  obtain ⟨fu,rfl⟩:∃m,fu=m+1:=⟨fu-1,by omega⟩
  have e:c=g.1.toNat:=by omega
  subst e
  show q62q_l6_r N (q62q_l6 N fu) _=_
  unfold q62q_l6_r
  have:decide (((g.1.toNat:Nat):Int)<g.1)=false:=by simp;omega
  simp only [this,Bool.false_eq_true,if_false,List.range'_zero,List.any_nil,Bool.or_false]
  rfl
 | succ k ih=>
  intro c fu ch h1 h2
  obtain ⟨fu,rfl⟩:∃m,fu=m+1:=⟨fu-1,by omega⟩
  have hc:c<g.1.toNat:=by omega
  have hlt:decide ((c:Int)<g.1)=true:=by simp;omega
  have hidx:idxIn (c:Int) (tabL g.1.toNat f).length=true:=idxIn_nat (by rw [tabL_len];exact hc)
  have hat:at_ K_Si (tabL g.1.toNat f) c=(List.range g.1.toNat).map (f c):=by
   have hl:c<(tabL g.1.toNat f).length:=by rw [tabL_len];exact hc
   have e:at_ K_Si (tabL g.1.toNat f) c=(tabL g.1.toNat f)[c]:=at_get (e:=K_Si) hl
   rw [e]
   have:=tabL_row f hc
   rw [List.getElem?_eq_getElem hl] at this
   exact Option.some.inj this
  have hin:=times_l8 N g hG t ht f hI ((List.range c).map (fun c=>(List.range g.1.toNat).map (stepF g.1.toNat (ballF g.1.toNat g.2.1) (t:Int) f c))) c hc g.1.toNat 0 N ch (by omega) (by omega)
  rw [rowS_zero,rowS_full] at hin
  simp only [Int.natCast_zero] at hin
  have hle:∀v:List Int,decide (((List.range c).map (fun c=>(List.range g.1.toNat).map (stepF g.1.toNat (ballF g.1.toNat g.2.1) (t:Int) f c))).length+List.length [v]<=lim)=true:=fun v=>by
   unfold lim
   simp
   omega
  show q62q_l6_r N (q62q_l6 N fu) _=_
  unfold q62q_l6_r
  simp only [hlt,if_true,hidx,Int.toNat_natCast,hat,own_some ((List.range g.1.toNat).map (f c)) (by simp;omega),Option.bind_some,hin,hle,wrap8 hc g3,range_snocT c (fun c=>(List.range g.1.toNat).map (stepF g.1.toNat (ballF g.1.toNat g.2.1) (t:Int) f c))]
  rw [ih (c+1) fu _ (by omega) (by omega),List.range'_succ,List.any_cons,Bool.or_assoc,List.range_eq_range']
theorem times_l4 (N:Nat) (hN:10<=N) (g:Gr) (hG:grB g=true):∀(k t:Nat) (f:Nat->Nat->Int),InvT g.1.toNat (ballF g.1.toNat g.2.1) t f->t+k<=900->negs g.1.toNat f<k -> ∀fu,k+1<=fu ->
  q62q_l4 N fu (g,tabL g.1.toNat f,true,())=some (.inl (tabL g.1.toNat (timesF g.1.toNat (ballF g.1.toNat g.2.1) k (t:Int) f),())):=by
 obtain ⟨g1,g2,g3,g4⟩:=grB_parts hG
 have hb:=ballF_ok g.1.toNat g.2.1
 intro k
 induction k with
 | zero=>intro t f _ _ h;omega
 | succ k ih=>
  intro t f hI ht hn fu hfu
  obtain ⟨fu,rfl⟩:∃m,fu=m+1:=⟨fu-1,by omega⟩
  have hin:=times_l6 N hN g hG t (by omega) f hI g.1.toNat 0 N false (by omega) (by omega)
  simp only [List.range_zero,List.map_nil,Int.natCast_zero,Bool.false_or,<- List.range_eq_range'] at hin
  show q62q_l4_r N (q62q_l4 N fu) _=_
  unfold q62q_l4_r
  simp only [if_true,hin,Option.bind_some,timesF]
  by_cases ha:anyF g.1.toNat (canF g.1.toNat (ballF g.1.toNat g.2.1) f)=true
  ·have ha':((List.range g.1.toNat).any fun c=>(List.range g.1.toNat).any fun j=>canF g.1.toNat (ballF g.1.toNat g.2.1) f c j)=true:=ha
   rw [if_pos ha,ha']
   have:=negs_step (t:=(t:Int)) (by omega) ha
   have:=ih (t+1) _ (hI.next hb) (by omega) (by omega) fu (by omega)
   exact this
  ·have ha':((List.range g.1.toNat).any fun c=>(List.range g.1.toNat).any fun j=>canF g.1.toNat (ballF g.1.toNat g.2.1) f c j)=false:=(Bool.not_eq_true _).mp ha
   rw [if_neg ha,ha']
   obtain ⟨fu,rfl⟩:∃m,fu=m+1:=⟨fu-1,by omega⟩
   have e:tabL g.1.toNat (stepF g.1.toNat (ballF g.1.toNat g.2.1) (t:Int) f)=tabL g.1.toNat f:=tabL_congr fun c r hc hr=>by
    refine if_neg fun h=>ha ?_
    exact anyF_spec.2 ⟨c,r,hc,hr,h⟩
   rw [e]
   rfl
theorem l3Times_lim (d) (r) (h:G_l3Times d=some r):∃N,F_q62q N d=some r:=by
 obtain ⟨g,_⟩:=d
 unfold G_l3Times at h
 split at h
 ·rename_i hG
  have hG:grB g=true:=hG
  obtain ⟨g1,g2,g3,g4⟩:=grB_parts hG
  have h:=Option.some.inj h
  subst h
  refine ⟨100,?_⟩
  unfold F_q62q
  have h0:=times_l0 100 (by omega) g g.1.toNat g2 g3 g.1.toNat 0 100 (by omega) (by omega)
  simp only [List.range_zero,List.map_nil,Int.natCast_zero] at h0
  have hnn:g.1.toNat*g.1.toNat<=8*8:=Nat.mul_le_mul g3 g3
  have hneg:=negs_le g.1.toNat startF
  have h4:=times_l4 100 (by omega) g hG 65 1 startF (InvT.start _ _) (by omega) (by omega) 100 (by omega)
  simp only [h0,Option.bind_some,h4]
  rfl
 ·cases h
end Go.V.W
namespace Go.V.W
open Go.Proofs
theorem netB_parts {l:List Int} (h:netB l=true):l=toI (fromI l)/\okN l.length (fromI l)/\l.length<=8 /\ ∀x,x<l.length->(fromI l).getD x 0<2 ^ l.length:=by
 unfold netB at h
 simp only [Bool.and_eq_true,List.all_eq_true,decide_eq_true_eq] at h
 obtain ⟨h1,h2⟩:=h
 obtain ⟨e,hm,h8⟩:=smallN_nat h1
 refine ⟨e,hm,h8,fun x hx => ?_⟩
 have hx':x<(fromI l).length:=by rw [hm.1];exact hx
 have h3:=h2 l[x] (List.getElem_mem hx)
 simp only [List.getD_eq_getElem?_getD,List.getElem?_eq_getElem hx',Option.getD_some]
 have e2:(fromI l)[x]=l[x].toNat:=by simp [fromI]
 rw [e2]
 have:0<2 ^ l.length:=Nat.two_pow_pos _
 omega
theorem two_lt {x n:Nat} (h:x<n):2 ^ x<2 ^ n:=Nat.pow_lt_pow_right (by omega) h
theorem maskM {l:List Int} (h:netB l=true) {x:Nat} (hx:x<l.length):(fromI l).getD x 0|||2 ^ x<256/\(fromI l).getD x 0|||2 ^ x<2 ^ l.length:=by
 obtain ⟨e,hm,h8,hb⟩:=netB_parts h
 exact ⟨Nat.or_lt_two_pow (n:=8) (hm.2 x) (pow_small (by omega)),Nat.or_lt_two_pow (hb x hx) (two_lt hx)⟩
theorem ballM_ok {l:List Int} (h:netB l=true):okBall l.length (ballM l):=by
 intro x hx z hz
 unfold ballM at hz
 obtain ⟨y,_,_,h3,h4⟩:=setF_mem.1 hz
 refine ⟨y,?_,h4⟩
 rcases Nat.lt_or_ge y l.length with h5 | h5
 ·exact h5
 ·rw [Int.toNat_natCast] at h3
  rw [Nat.testBit_lt_two_pow (Nat.lt_of_lt_of_le (maskM h hx).2 (Nat.pow_le_pow_right (by omega) h5))] at h3
  cases h3
theorem ballM_len (l:List Int) (x:Int):(ballM l x).length<=8:=setF_len
theorem closedM {l:List Int} (h:netB l=true) (u:Unit) {x:Nat} (hx:x<l.length):F_q43q 0 ((l,u),(x:Int),())=some ((((fromI l).getD x 0|||2 ^ x:Nat):Int),()):=by
 obtain ⟨e,hm,h8,hb⟩:=netB_parts h
 unfold F_q43q
 have i1:idxIn (x:Int) l.length=true:=idxIn_nat hx
 have e1:at_ I l x=(((fromI l).getD x 0:Nat):Int):=by
  have:=at_toI (fromI l) x
  rw [<- e] at this
  exact this
 simp only [i1,if_true,nonneg_dec,Int.toNat_natCast,e1,shl_one (show x<8 by omega),bits_or (hm.2 x) (pow_small (show x<8 by omega))]
theorem setOfM {l:List Int} (h:netB l=true) {x:Nat} (hx:x<l.length):G_setOf ((((fromI l).getD x 0|||2 ^ x:Nat):Int),())=some (ballM l (x:Int),()):=by
 have hm:=(maskM h hx).1
 unfold G_setOf
 have b2:decide ((((fromI l).getD x 0|||2 ^ x:Nat):Int)<256)=true:=by
  simp only [decide_eq_true_eq]
  omega
 simp only [nonneg_dec,b2,Bool.and_self,if_true,Int.toNat_natCast]
 rfl
theorem inB_len {n:Nat} {x:Int} (h:inB 0 ((n:Int)-1) x=true):x=(x.toNat:Int)/\x.toNat<n:=by
 have:=inB_iff.1 h
 omega
theorem after_l0 (N n:Nat) (row:List Int) (hrow:row.length=n) (ball:List Int) (hb:∀z∈ball,∃y:Nat,y<n/\z=(y:Int)) (hl:ball.length<=1000):∀(k i f:Nat) (m:Int),i+k=ball.length->k<f ->
  q13q_l0 N f (row,m,ball,(ball.length:Int),(i:Int),())=some (.inl (worstL (fun z=>row.getD z.toNat 0) (ball.drop i) m,()))\/q13q_l0 N f (row,m,ball,(ball.length:Int),(i:Int),())=some (.inr (.inl (worstL (fun z=>row.getD z.toNat 0) (ball.drop i) m,()))):=by
 have hmx:ball.length<=maxLen:=by unfold maxLen;omega
 intro k
 induction k with
 | zero=>
  intro i f m h1 h2
  obtain ⟨f,rfl⟩:∃m,f=m+1:=⟨f-1,by omega⟩
  have e:i=ball.length:=by omega
  subst e
  rw [List.drop_of_length_le (Nat.le_refl _)]
  right
  simp [q13q_l0,q13q_l0_r,worstL]
 | succ k ih=>
  intro i f m h1 h2
  obtain ⟨f,rfl⟩:∃m,f=m+1:=⟨f-1,by omega⟩
  have hi:i<ball.length:=by omega
  obtain ⟨y,hy,ey⟩:=hb ball[i] (List.getElem_mem hi)
  have e:at_ I ball i=(y:Int):=(at_get (e:=I) hi).trans ey
  have i2:idxIn (y:Int) row.length=true:=idxIn_nat (by omega)
  have hy':y<row.length:=by omega
  have hv:at_ I row y=row.getD y 0:=by
   rw [at_get (e:=I) hy']
   simp [List.getD_eq_getElem?_getD,hy']
  have hd:ball.drop i=(y:Int)::ball.drop (i+1):=by rw [List.drop_eq_getElem_cons hi,ey]
  have step:q13q_l0 N (f+1) (row,m,ball,(ball.length:Int),(i:Int),())=if row.getD y 0<0 then some (.inl (-1,())) else q13q_l0 N f (row,(if m<row.getD y 0 then row.getD y 0 else m),ball,(ball.length:Int),((i+1:Nat):Int),()):=by
   show q13q_l0_r N (q13q_l0 N f) (row,m,ball,(ball.length:Int),(i:Int),())=_
   unfold q13q_l0_r
   simp only [lt_dec hi,if_true,idxIn_nat hi,Int.toNat_natCast,e,i2,hv,wrap_up hi hmx]
   by_cases h:row.getD y 0<0
   ·simp only [h,decide_true,if_true]
   ·simp only [h,decide_false,Bool.false_eq_true,if_false]
  rw [step,hd]
  simp only [worstL,Int.toNat_natCast]
  by_cases h:row.getD y 0<0
  ·rw [if_pos h,if_pos h]
   exact .inl rfl
  ·rw [if_neg h,if_neg h]
   exact ih (i+1) f _ (by omega) (by omega)
theorem timeAfter_lim (d) (r) (h:G_timeAfter d=some r):∃N,F_q13q N d=some r:=by
 obtain ⟨⟨l,u⟩,row,q,_⟩:=d
 unfold G_timeAfter at h
 split at h
 ·rename_i hc
  simp only [Bool.and_eq_true,decide_eq_true_eq] at hc
  obtain ⟨⟨hn,hrow⟩,hq⟩:=hc
  obtain ⟨q1,q2⟩:=inB_len hq
  have h:=Option.some.inj h
  subst h
  refine ⟨20,?_⟩
  unfold F_q13q
  have hbl:=ballM_len l (q.toNat:Int)
  have hc:=closedM hn u q2
  have hs:=setOfM hn q2
  have:=after_l0 20 l.length row hrow (ballM l (q.toNat:Int)) (ballM_ok hn q.toNat q2) (by omega) (ballM l (q.toNat:Int)).length 0 20 0 (by omega) (by omega)
  simp only [Int.natCast_zero,List.drop_zero] at this
  rw [<- q1] at hc hs this
  simp only [hc,Option.bind_some,hs]
  rcases this with h | h
  ·simp only [h,Option.bind_some]
  ·simp only [h,Option.bind_some]
 ·cases h
theorem can1_some {l:List Int} (hn:netB l=true) (u v w:Unit) {T:Tab} (hT:sqL l.length T=true) {b q:Nat} (hb:b<l.length) (hq:q<l.length):FV_q18q ((b:Int),(v,(q:Int),(l,u),T,w),())=some (decide (0<=afterT (ballM l) T (b:Int) (q:Int)),()):=by
 obtain ⟨t1,t2⟩:=sqL_parts hT
 unfold FV_q18q F_q18q afterT
 by_cases e:(b:Int)=(q:Int)
 ·simp [e]
 ·have e':((b:Int)==(q:Int))=false:=by simpa using e
  have i1:idxIn (b:Int) T.length=true:=idxIn_nat (by omega)
  have i2:inB 0 ((l.length:Int)-1) (q:Int)=true:=inB_iff.2 (by omega)
  have hlen:decide ((at_ K_Si T b).length=l.length)=true:=decide_eq_true (t2 b hb)
  simp only [e',e,Bool.false_eq_true,if_false,i1,if_true,Int.toNat_natCast,G_timeAfter,hn,hlen,i2,Bool.and_self,Option.bind_some]
  have hw:worstL (fun z=>(at_ K_Si T b).getD z.toNat 0) (ballM l (q:Int)) 0=worstL (tab2 T (b:Int)) (ballM l (q:Int)) 0:=worst_congr fun z hz=>by
   have hlt:b<T.length:=by omega
   have ea:at_ K_Si T b=T[b]:=at_get (e:=K_Si) hlt
   unfold tab2
   simp only [ea,Int.toNat_natCast,List.getD_eq_getElem?_getD,List.getElem?_eq_getElem hlt,Option.getD_some]
  rw [hw]
theorem index154_lim (d) (r) (h:G_index154 d=some r):∃N,F_q1q N d=some r:=by
 obtain ⟨xs,⟨v,q,⟨l,u⟩,T,w⟩,_⟩:=d
 unfold G_index154 at h
 split at h
 ·rename_i hc
  simp only [Bool.and_eq_true] at hc
  obtain ⟨⟨⟨⟨hn,hT⟩,hq⟩,hxs⟩,hlen⟩:=hc
  have hlen:xs.length<=1000:=of_decide_eq_true hlen
  obtain ⟨q1,q2⟩:=inB_len hq
  have h:=Option.some.inj h
  subst h
  have hmx:xs.length<=maxLen:=by unfold maxLen;omega
  refine ⟨xs.length+1,?_⟩
  unfold F_q1q
  have:=loop_idx (L:=q1q_l0 (xs.length+1)) (r:=q1q_l0_r (xs.length+1)) (fun _ _=>rfl) (e:=I) xs (mk:=fun i=>(xs,(v,q,(l,u),T,w),(xs.length:Int),(i:Int),())) (q:=fun b=>decide (0<=afterT (ballM l) T b q)) (o:=fun i=>.inl ((i:Int),())) (f:=.inr (.inl ()))
   (by
    intro back i hi
    have hx:at_ I xs i=xs[i]:=at_get (e:=I) hi
    obtain ⟨b1,b2⟩:=inB_len (List.all_eq_true.1 hxs xs[i] (List.getElem_mem hi))
    have hcan:=can1_some hn u v w hT b2 q2
    rw [<- b1,<- q1] at hcan
    unfold q1q_l0_r
    simp only [lt_dec hi,if_true,idxIn_nat hi,Int.toNat_natCast,wrap_up hi hmx,hx,hcan,Option.bind_some])
   (by intro back;unfold q1q_l0_r;simp only [lt_not,Bool.false_eq_true,if_false]) xs.length 0 (by omega) (by omega)
  simp only [Int.natCast_zero,List.drop_zero] at this
  simp only [this,Option.bind_some]
  cases idxN (fun b=>decide (0<=afterT (ballM l) T b q)) xs 0<;>rfl
 ·cases h
theorem copCan_some {l:List Int} (hn:netB l=true) (u:Unit) {T:Tab} (hT:sqL l.length T=true) {c q:Nat} (hc:c<l.length) (hq:q<l.length):F_q29q 0 ((l,u),T,(c:Int),(q:Int),())=some ((ballM l (c:Int)).any (fun b=>decide (0<=afterT (ballM l) T b (q:Int))),()):=by
 unfold F_q29q F_q0q
 have i2:inB 0 ((l.length:Int)-1) (q:Int)=true:=inB_iff.2 (by omega)
 have hall:(ballM l (c:Int)).all (inB 0 ((l.length:Int)-1))=true:=List.all_eq_true.2 fun z hz=>by
  obtain ⟨y,hy,rfl⟩:=ballM_ok hn c hc z hz
  exact inB_iff.2 (by omega)
 have hbl:=ballM_len l (c:Int)
 have hs1:okS1 (ballM l (c:Int))=true:=decide_eq_true (by omega)
 simp only [closedM hn u hc,setOfM hn hc,Option.bind_some,G_index154,hn,hT,i2,hall,hs1,Bool.and_self,if_true,idxI_ge]
theorem row_start (n c:Nat) (hc:c<n):(List.replicate n (-1:Int)).set c 0=(List.range n).map (startF c):=by
 apply List.ext_getElem
 ·simp
 ·intro i h1 h2
  rw [List.getElem_set]
  simp only [List.getElem_replicate,List.getElem_map,List.getElem_range,startF]
theorem at_midS (pre:Tab) (x:List Int) (post:Tab):at_ K_Si (pre++x::post) pre.length=x:=by
 rw [at_get (e:=K_Si) (by simp)]
 simp
theorem set_midS (pre:Tab) (x y:List Int) (post:Tab):List.set (pre++x::post) pre.length y=pre++y::post:=by simp
theorem cop_l0 (N:Nat) (w:Nt) (n:Nat) (hn:n<=8):∀(k:Nat) (pre:Tab) (f:Nat),pre.length+k=n->k<f->pre=(List.range pre.length).map (fun c=>(List.range n).map (startF c)) ->
  q19q_l0 N f (w,(n:Int),pre++List.replicate k [],(n:Int),(pre.length:Int),())=some (.inl (w,(n:Int),tabL n startF,())):=by
 intro k
 induction k with
 | zero=>
  intro pre f h1 h2 h3
  obtain ⟨f,rfl⟩:∃m,f=m+1:=⟨f-1,by omega⟩
  have e:n=pre.length:=by omega
  subst e
  show q19q_l0_r N (q19q_l0 N f) _=_
  unfold q19q_l0_r
  have:decide ((pre.length:Int)<(pre.length:Int))=false:=by simp
  simp only [this,Bool.false_eq_true,if_false,List.replicate_zero,List.append_nil]
  have e:pre=tabL pre.length startF:=h3
  rw [<- e]
 | succ k ih=>
  intro pre f h1 h2 h3
  obtain ⟨f,rfl⟩:∃m,f=m+1:=⟨f-1,by omega⟩
  have hc:pre.length<n:=by omega
  show q19q_l0_r N (q19q_l0 N f) _=_
  unfold q19q_l0_r
  have hr:G_repeat ([-1],(n:Int),())=some (List.replicate n (-1),()):=by
   unfold G_repeat
   have e1:decide (1<=(n:Int))=true:=by simp;omega
   have e2:decide ((n:Int)<=8)=true:=by simp;omega
   simp only [List.length_singleton,decide_true,e1,e2,Bool.and_self,if_true,Int.toNat_natCast,List.headD_cons]
  have i1:idxIn (pre.length:Int) (pre++[]::List.replicate k ([]:List Int)).length=true:=idxIn_nat (by simp)
  have i2:idxIn (pre.length:Int) (pre++List.replicate n (-1)::List.replicate k ([]:List Int)).length=true:=idxIn_nat (by simp)
  have i3:idxIn (pre.length:Int) (List.replicate n (-1:Int)).length=true:=idxIn_nat (by simp;exact hc)
  simp only [List.replicate_succ,lt_dec hc,if_true,hr,Option.bind_some,i1,Int.toNat_natCast,set_midS,i2,at_midS,i3,wrap8 hc hn,row_start n pre.length hc]
  have:=ih (pre++[(List.range n).map (startF pre.length)]) f (by simp;omega) (by omega) (by
   simp only [List.length_append,List.length_singleton]
   rw [<- range_snocT pre.length (fun c=>(List.range n).map (startF c)),<- h3])
  simp only [List.length_append,List.length_singleton,List.append_assoc,List.singleton_append] at this
  exact this
theorem cop_l6 (N:Nat) (l:List Int) (hn:netB l=true) (u:Unit) (f:Nat->Nat->Int) (t:Int) (fd:Bool) (c:Nat) (hc:c<l.length) (s38 s39:Int):∀(k r fu:Nat) (fresh:List E),r+k=l.length->k<fu->fresh.length+k<=1000 ->
  q19q_l6 N fu ((l,u),(l.length:Int),tabL l.length f,t,fd,fresh,(c:Int),s38,s39,(l.length:Int),(r:Int),()) =
   some (.inl ((l,u),(l.length:Int),tabL l.length f,t,fd,fresh++rowE (canF l.length (ballM l) f) c k r,s38,s39,())):=by
 obtain ⟨e,hm,h8,hb⟩:=netB_parts hn
 intro k
 induction k with
 | zero=>
  intro r fu fresh h1 h2 h3
  obtain ⟨fu,rfl⟩:∃m,fu=m+1:=⟨fu-1,by omega⟩
  have e:r=l.length:=by omega
  subst e
  show q19q_l6_r N (q19q_l6 N fu) _=_
  unfold q19q_l6_r
  have:decide ((l.length:Int)<(l.length:Int))=false:=by simp
  simp only [this,Bool.false_eq_true,if_false,rowE,List.append_nil]
 | succ k ih=>
  intro r fu fresh h1 h2 h3
  obtain ⟨fu,rfl⟩:∃m,fu=m+1:=⟨fu-1,by omega⟩
  have hr:r<l.length:=by omega
  have hsq:=tabL_sq l.length f
  obtain ⟨t1,t2⟩:=sqL_parts hsq
  have i1:idxIn (c:Int) (tabL l.length f).length=true:=idxIn_nat (by omega)
  have i2:idxIn (r:Int) (at_ K_Si (tabL l.length f) c).length=true:=idxIn_nat (by rw [t2 c hc];exact hr)
  have hv:at_ I (at_ K_Si (tabL l.length f) c) r=f c r:=(tab2_at hsq hc hr).trans (tab2_tabL f hc hr)
  have hle:decide (fresh.length+List.length [(((c:Int),(r:Int),()):E)]<=lim)=true:=by
   unfold lim
   simp
   omega
  show q19q_l6_r N (q19q_l6 N fu) _=_
  unfold q19q_l6_r
  simp only [lt_dec hr,if_true,i1,Int.toNat_natCast,i2,hv,wrap8 hr h8,copCan_some hn u hsq hc hr,Option.bind_some,hle,rowE]
  by_cases hf:f c r<0
  ·cases hany:(ballM l (c:Int)).any (fun b=>decide (0<=afterT (ballM l) (tabL l.length f) b (r:Int))) with
   | true=>
    have hcan:canF l.length (ballM l) f c r=true:=by
     unfold canF
     simp only [hf,decide_true,hany,Bool.and_self]
    simp only [hf,decide_true,if_true,hcan]
    rw [ih (r+1) fu _ (by omega) (by omega) (by simp;omega)]
    simp
   | false=>
    have hcan:canF l.length (ballM l) f c r=false:=by
     unfold canF
     simp only [hf,decide_true,hany,Bool.and_false]
    simp only [hf,decide_true,if_true,hcan,Bool.false_eq_true,if_false]
    exact ih (r+1) fu fresh (by omega) (by omega) (by omega)
  ·have hcan:canF l.length (ballM l) f c r=false:=by
    unfold canF
    simp only [hf,decide_false,Bool.false_and]
   simp only [hf,decide_false,Bool.false_eq_true,if_false,hcan]
   exact ih (r+1) fu fresh (by omega) (by omega) (by omega)
def allP (p:Nat->Nat->Bool) (n:Nat):Nat->Nat->List E
 | 0,_=>[]
 | k+1,c=>rowE p c n 0++allP p n k (c+1)
theorem cop_l4 (N:Nat) (hN:10<=N) (l:List Int) (hn:netB l=true) (u:Unit) (f:Nat->Nat->Int) (t:Int) (fd:Bool):∀(k c fu:Nat) (fresh:List E),c+k=l.length->k<fu->fresh.length+8*k<=900 ->
  q19q_l4 N fu ((l,u),(l.length:Int),tabL l.length f,t,fd,fresh,(l.length:Int),(c:Int),()) =
   some (.inl ((l,u),(l.length:Int),tabL l.length f,t,fd,fresh++allP (canF l.length (ballM l) f) l.length k c,())):=by
 obtain ⟨e,hm,h8,hb⟩:=netB_parts hn
 intro k
 induction k with
 | zero=>
  intro c fu fresh h1 h2 h3
  obtain ⟨fu,rfl⟩:∃m,fu=m+1:=⟨fu-1,by omega⟩
  have e:c=l.length:=by omega
  subst e
  show q19q_l4_r N (q19q_l4 N fu) _=_
  unfold q19q_l4_r
  have:decide ((l.length:Int)<(l.length:Int))=false:=by simp
  simp only [this,Bool.false_eq_true,if_false,allP,List.append_nil]
 | succ k ih=>
  intro c fu fresh h1 h2 h3
  obtain ⟨fu,rfl⟩:∃m,fu=m+1:=⟨fu-1,by omega⟩
  have hc:c<l.length:=by omega
  have hin:=cop_l6 N l hn u f t fd c hc (l.length:Int) (c:Int) l.length 0 N fresh (by omega) (by omega) (by omega)
  simp only [Int.natCast_zero] at hin
  have hrl:=rowE_len (p:=canF l.length (ballM l) f) (x:=c) (m:=l.length) (y:=0)
  show q19q_l4_r N (q19q_l4 N fu) _=_
  unfold q19q_l4_r
  simp only [lt_dec hc,if_true,hin,Option.bind_some,wrap8 hc h8,allP]
  rw [ih (c+1) fu _ (by omega) (by omega) (by simp;omega),List.append_assoc]
theorem rowE_mem2 {p:Nat->Nat->Bool} {x:Nat}:∀{m y:Nat} {e:E},e∈rowE p x m y ↔ ∃z:Nat,y<=z/\z<y+m/\p x z=true/\e=((x:Int),(z:Int),()):=by
 intro m
 induction m with
 | zero=>intro y e;simp only [rowE,List.not_mem_nil,false_iff];rintro ⟨z,h1,h2,_⟩;omega
 | succ m ih=>
  intro y e
  unfold rowE
  by_cases h:p x y=true
  ·rw [if_pos h,List.mem_cons,ih]
   constructor
   ·rintro (rfl | ⟨z,h1,h2,h3⟩)
    ·exact ⟨y,Nat.le_refl _,by omega,h,rfl⟩
    ·exact ⟨z,by omega,by omega,h3⟩
   ·rintro ⟨z,h1,h2,h3,h4⟩
    by_cases ez:z=y
    ·subst ez;exact .inl h4
    ·exact .inr ⟨z,by omega,by omega,h3,h4⟩
  ·rw [if_neg h,ih]
   constructor
   ·rintro ⟨z,h1,h2,h3⟩
    exact ⟨z,by omega,by omega,h3⟩
   ·rintro ⟨z,h1,h2,h3,h4⟩
    by_cases ez:z=y
    ·subst ez;exact absurd h3 h
    ·exact ⟨z,by omega,by omega,h3,h4⟩
theorem allP_mem {p:Nat->Nat->Bool} {n:Nat}:∀{k c:Nat} {e:E},e∈allP p n k c ↔ ∃x z:Nat,c<=x/\x<c+k/\z<n/\p x z=true/\e=((x:Int),(z:Int),()):=by
 intro k
 induction k with
 | zero=>intro c e;simp only [allP,List.not_mem_nil,false_iff];rintro ⟨x,z,h1,h2,_⟩;omega
 | succ k ih=>
  intro c e
  simp only [allP,List.mem_append,rowE_mem2,ih]
  constructor
  ·rintro (⟨z,h1,h2,h3,h4⟩ | ⟨x,z,h1,h2,h3,h4,h5⟩)
   ·exact ⟨c,z,Nat.le_refl _,by omega,by omega,h3,h4⟩
   ·exact ⟨x,z,by omega,by omega,h3,h4,h5⟩
  ·rintro ⟨x,z,h1,h2,h3,h4,h5⟩
   by_cases ex:x=c
   ·subst ex;exact .inl ⟨z,by omega,by omega,h4,h5⟩
   ·exact .inr ⟨x,z,by omega,by omega,h3,h4,h5⟩
def isP (c r:Nat) (e:E):Bool:=e.1==(c:Int)&&e.2.1==(r:Int)
theorem tabL_set {n:Nat} {g:Nat->Nat->Int} {x z:Nat} (hx:x<n) (hz:z<n) (t:Int):List.set (tabL n g) x (List.set (at_ K_Si (tabL n g) x) z t)=tabL n fun c r=>if c=x/\r=z then t else g c r:=by
 have hl:x<(tabL n g).length:=by rw [tabL_len];exact hx
 have e:at_ K_Si (tabL n g) x=(tabL n g)[x]:=at_get (e:=K_Si) hl
 have hrow:=tabL_row g hx
 rw [List.getElem?_eq_getElem hl] at hrow
 rw [e,Option.some.inj hrow,map_set]
 apply List.ext_getElem
 ·simp [tabL]
 ·intro i h1 h2
  rw [List.getElem_set]
  by_cases ei:x=i
  ·subst ei
   simp only [if_true,tabL,List.getElem_map,List.getElem_range,true_and]
  ·have ei':¬i=x:=fun h=>ei h.symm
   simp only [ei,if_false,tabL,List.getElem_map,List.getElem_range,ei',false_and]
theorem cop_l8 (N:Nat) (w:Nt) (n:Nat) (t:Int) (fresh:List E) (hfr:∀e∈fresh,∃x z:Nat,x<n/\z<n/\e=((x:Int),(z:Int),())) (hl:fresh.length<=900):∀(k i fu:Nat) (g:Nat->Nat->Int) (fd:Bool),i+k=fresh.length->k<fu ->
  q19q_l8 N fu (w,(n:Int),tabL n g,t,fd,fresh,(fresh.length:Int),(i:Int),()) =
   some (.inl (w,(n:Int),tabL n (fun c r=>if (fresh.drop i).any (isP c r)=true then t else g c r),t,fd||decide (0<k),())):=by
 have hmx:fresh.length<=maxLen:=by unfold maxLen;omega
 intro k
 induction k with
 | zero=>
  intro i fu g fd h1 h2
  obtain ⟨fu,rfl⟩:∃m,fu=m+1:=⟨fu-1,by omega⟩
  have e:i=fresh.length:=by omega
  subst e
  show q19q_l8_r N (q19q_l8 N fu) _=_
  unfold q19q_l8_r
  have:decide ((fresh.length:Int)<(fresh.length:Int))=false:=by simp
  rw [List.drop_of_length_le (Nat.le_refl _)]
  simp only [this,Bool.false_eq_true,if_false,List.any_nil,Nat.lt_irrefl,decide_false,Bool.or_false]
 | succ k ih=>
  intro i fu g fd h1 h2
  obtain ⟨fu,rfl⟩:∃m,fu=m+1:=⟨fu-1,by omega⟩
  have hi:i<fresh.length:=by omega
  obtain ⟨x,z,hx,hz,ee⟩:=hfr fresh[i] (List.getElem_mem hi)
  have e:at_ K_Piiq fresh i=((x:Int),(z:Int),()):=(at_get (e:=K_Piiq) hi).trans ee
  obtain ⟨t1,t2⟩:=sqL_parts (tabL_sq n g)
  have i1:idxIn (x:Int) (tabL n g).length=true:=idxIn_nat (by omega)
  have i2:idxIn (z:Int) (at_ K_Si (tabL n g) x).length=true:=idxIn_nat (by rw [t2 x hx];exact hz)
  show q19q_l8_r N (q19q_l8 N fu) _=_
  unfold q19q_l8_r
  simp only [lt_dec hi,if_true,idxIn_nat hi,Int.toNat_natCast,e,i1,i2,wrap_up hi hmx,tabL_set hx hz]
  rw [ih (i+1) fu _ true (by omega) (by omega),List.drop_eq_getElem_cons hi,ee]
  have et:tabL n (fun c r=>if (fresh.drop (i+1)).any (isP c r)=true then t else if c=x/\r=z then t else g c r)=tabL n fun c r=>if (((x:Int),(z:Int),())::fresh.drop (i+1)).any (isP c r)=true then t else g c r:=tabL_congr fun c r _ _=>by
   rw [List.any_cons]
   by_cases h3:(fresh.drop (i+1)).any (isP c r)=true
   ·simp [h3]
   ·have h3':(fresh.drop (i+1)).any (isP c r)=false:=by simpa using h3
    by_cases h4:c=x/\r=z
    ·have:isP c r ((x:Int),(z:Int),())=true:=by
      unfold isP
      simp [h4.1,h4.2]
     rw [if_neg h3,if_pos h4,this,Bool.true_or,if_pos rfl]
    ·have:isP c r ((x:Int),(z:Int),())=false:=by
      unfold isP
      simp only [Bool.and_eq_false_iff,beq_eq_false_iff_ne,ne_eq]
      by_cases h5:c=x
      ·exact .inr fun h=>h4 ⟨h5,by omega⟩
      ·exact .inl fun h=>h5 (by omega)
     simp [h3',h4,this]
  rw [et]
  simp
theorem allP_len {p:Nat->Nat->Bool} {n:Nat}:∀{k c:Nat},(allP p n k c).length<=n*k:=by
 intro k
 induction k with
 | zero=>intro c;simp [allP]
 | succ k ih=>
  intro c
  have h1:=rowE_len (p:=p) (x:=c) (m:=n) (y:=0)
  have h2:=ih (c:=c+1)
  simp only [allP,List.length_append,Nat.mul_succ]
  omega
theorem allP_any {p:Nat->Nat->Bool} {n c r:Nat} (hc:c<n) (hr:r<n):(allP p n n 0).any (isP c r)=p c r:=by
 apply Bool.eq_iff_iff.2
 rw [List.any_eq_true]
 constructor
 ·rintro ⟨e,he,h⟩
  obtain ⟨x,z,h1,h2,h3,h4,rfl⟩:=allP_mem.1 he
  unfold isP at h
  simp only [Bool.and_eq_true,beq_iff_eq] at h
  have e1:x=c:=by omega
  have e2:z=r:=by omega
  subst e1 e2
  exact h4
 ·intro h
  exact ⟨((c:Int),(r:Int),()),allP_mem.2 ⟨c,r,Nat.zero_le _,by omega,hr,h,rfl⟩,by unfold isP;simp⟩
theorem allP_pos {p:Nat->Nat->Bool} {n:Nat}:decide (0<(allP p n n 0).length)=anyF n p:=by
 apply Bool.eq_iff_iff.2
 rw [decide_eq_true_eq,anyF_spec]
 constructor
 ·intro h
  obtain ⟨x,z,h1,h2,h3,h4,_⟩:=allP_mem.1 (List.getElem_mem h)
  exact ⟨x,z,by omega,h3,h4⟩
 ·rintro ⟨c,r,hc,hr,h⟩
  exact List.length_pos_of_mem (allP_mem.2 ⟨c,r,Nat.zero_le _,by omega,hr,h,rfl⟩)
theorem cop_l2 (N:Nat) (hN:100<=N) (l:List Int) (hn:netB l=true) (u:Unit):∀(k t:Nat) (f:Nat->Nat->Int),t+k<=900->negs l.length f<k -> ∀fu,k+1<=fu ->
  q19q_l2 N fu ((l,u),(l.length:Int),tabL l.length f,(t:Int),true,())=some (.inl (tabL l.length (timesF l.length (ballM l) k (t:Int) f),())):=by
 obtain ⟨e,hm,h8,hb⟩:=netB_parts hn
 intro k
 induction k with
 | zero=>intro t f _ h;omega
 | succ k ih=>
  intro t f ht hng fu hfu
  obtain ⟨fu,rfl⟩:∃m,fu=m+1:=⟨fu-1,by omega⟩
  have h4:=cop_l4 N (by omega) l hn u f (t:Int) false l.length 0 N [] (by omega) (by omega) (by simp;omega)
  simp only [Int.natCast_zero,List.nil_append] at h4
  have hlen:=allP_len (p:=canF l.length (ballM l) f) (n:=l.length) (k:=l.length) (c:=0)
  have hnn:l.length*l.length<=8*8:=Nat.mul_le_mul h8 h8
  have h8':=cop_l8 N (l,u) l.length (t:Int) (allP (canF l.length (ballM l) f) l.length l.length 0) (fun e he=>by
   obtain ⟨x,z,_,h2,h3,_,h5⟩:=allP_mem.1 he
   exact ⟨x,z,by omega,h3,h5⟩) (by omega) (allP (canF l.length (ballM l) f) l.length l.length 0).length 0 N f false (by omega) (by omega)
  simp only [Int.natCast_zero,List.drop_zero,Bool.false_or,allP_pos] at h8'
  have et:tabL l.length (fun c r=>if (allP (canF l.length (ballM l) f) l.length l.length 0).any (isP c r)=true then (t:Int) else f c r)=tabL l.length (stepF l.length (ballM l) (t:Int) f):=tabL_congr fun c r hc hr=>by
   rw [allP_any hc hr]
   rfl
  rw [et] at h8'
  have hw:IntKind.wrap .i64 ((t:Int)+1)=((t+1:Nat):Int):=by
   rw [wrap_in _ (by omega) (by omega)]
   rfl
  show q19q_l2_r N (q19q_l2 N fu) _=_
  unfold q19q_l2_r
  simp only [if_true,h4,Option.bind_some,h8',hw,timesF]
  by_cases ha:anyF l.length (canF l.length (ballM l) f)=true
  ·rw [if_pos ha,ha]
   have:=negs_step (t:=(t:Int)) (by omega) ha
   exact ih (t+1) _ (by omega) (by omega) fu (by omega)
  ·have ha':anyF l.length (canF l.length (ballM l) f)=false:=(Bool.not_eq_true _).mp ha
   rw [if_neg ha,ha']
   obtain ⟨fu,rfl⟩:∃m,fu=m+1:=⟨fu-1,by omega⟩
   have e:tabL l.length (stepF l.length (ballM l) (t:Int) f)=tabL l.length f:=tabL_congr fun c r hc hr=>by
    refine if_neg fun h=>ha ?_
    exact anyF_spec.2 ⟨c,r,hc,hr,h⟩
   rw [e]
   rfl
theorem copTimes_lim (d) (r) (h:G_copTimes d=some r):∃N,F_q19q N d=some r:=by
 obtain ⟨⟨l,u⟩,_⟩:=d
 unfold G_copTimes at h
 split at h
 ·rename_i hn
  have hn:netB l=true:=hn
  obtain ⟨e,hm,h8,hb⟩:=netB_parts hn
  have h:=Option.some.inj h
  subst h
  refine ⟨100,?_⟩
  unfold F_q19q g_q60q
  have hc:(decide (0<=(l.length:Int))&&decide ((l.length:Int)<=(l.length:Int))&&decide ((l.length:Int)<=(lim:Int)))=true:=by
   have a1:(l.length:Int)<=(lim:Int):=by unfold lim;omega
   simp only [a1,nonneg_dec,decide_true,Bool.and_self,Int.le_refl]
  have h0:=cop_l0 100 (l,u) l.length h8 l.length [] 100 (by simp) (by omega) rfl
  simp only [List.nil_append,List.length_nil,Int.natCast_zero] at h0
  have hnn:l.length*l.length<=8*8:=Nat.mul_le_mul h8 h8
  have hneg:=negs_le l.length startF
  have h2:=cop_l2 100 (by omega) l hn u 65 1 startF (by omega) (by omega) 100 (by omega)
  simp only [Int.natCast_one] at h2
  simp only [hc,if_true,Int.toNat_natCast,List.length_replicate,h0,Option.bind_some,h2]
  rfl
 ·cases h
theorem netB_net {n:Nat} (hn:n<=8) {es:List E} (h:es.all (edgeB (n:Int))=true):netB (toI (netN n es))=true/\(toI (netN n es)).length=n:=by
 have hok:=netN_ok hn h
 have hl:(toI (netN n es)).length=n:=by rw [toI_len,hok.1]
 refine ⟨?_,hl⟩
 unfold netB
 rw [small_toI hok hn,Bool.true_and,List.all_eq_true,hl]
 intro m hm
 unfold toI at hm
 obtain ⟨a,ha,rfl⟩:=List.mem_map.1 hm
 obtain ⟨i,hi,rfl⟩:=List.getElem_of_mem ha
 have hlt:(netN n es)[i]<2 ^ n:=by
  refine Nat.lt_pow_two_of_testBit _ fun j hj => ?_
  have hb:=netN_bit hn h i j
  unfold hasN at hb
  simp only [List.getD_eq_getElem?_getD,List.getElem?_eq_getElem hi,Option.getD_some] at hb
  rw [hb,isE_near es h]
  cases hnr:nearI es (i:Int) (j:Int) with
  | false=>rfl
  | true=>have:=near_lt h hnr;omega
 simp only [decide_eq_true_eq]
 omega
theorem ball_same {n:Nat} (hn:n<=8) {es:List E} (h:es.all (edgeB (n:Int))=true) {x:Nat} (hx:x<n):ballM (toI (netN n es)) (x:Int)=ballF n es (x:Int):=by
 unfold ballM ballF
 have hok:=netN_ok hn h
 have hM:isM n ((netN n es).getD x 0|||2 ^ x) (fun y=>nearI es (x:Int) (y:Int)||decide ((y:Int)=(x:Int))):=by
  refine ⟨Nat.or_lt_two_pow (n:=8) (hok.2 x) (pow_small (by omega)),fun w => ?_⟩
  rw [Nat.testBit_or,Nat.testBit_two_pow]
  have hb:=netN_bit hn h x w
  unfold hasN at hb
  rw [hb,isE_near es h]
  apply Bool.eq_iff_iff.2
  simp only [Bool.or_eq_true,Bool.and_eq_true,decide_eq_true_eq]
  constructor
  ·rintro (h' | h')
   ·exact ⟨near_lt h h',.inl h'⟩
   ·subst h'
    exact ⟨hx,.inr rfl⟩
  ·rintro ⟨h1,h2 | h2⟩
   ·exact .inl h2
   ·exact .inr (by omega)
 simp only [toI_from,Int.toNat_natCast]
 exact setF_mask hn hM
theorem canF_congr {n:Nat} {b1 b2:Int->List Int} (hb:∀x:Nat,x<n->b1 (x:Int)=b2 (x:Int)) {f g:Nat->Nat->Int} (h:∀c r,c<n->r<n->f c r=g c r) {c r:Nat} (hc:c<n) (hr:r<n):canF n b1 f c r=canF n b2 g c r:=by
 unfold canF afterT
 rw [h c r hc hr,tabL_congr h,hb c hc,hb r hr]
theorem timesF_congr {n:Nat} {b1 b2:Int->List Int} (hb:∀x:Nat,x<n->b1 (x:Int)=b2 (x:Int)):∀(k:Nat) (t:Int) (f g:Nat->Nat->Int),(∀c r,c<n->r<n->f c r=g c r) -> ∀c r,c<n->r<n->timesF n b1 k t f c r=timesF n b2 k t g c r:=by
 intro k
 induction k with
 | zero=>intro t f g h c r hc hr;exact h c r hc hr
 | succ k ih=>
  intro t f g h c r hc hr
  have ha:anyF n (canF n b1 f)=anyF n (canF n b2 g):=by
   apply Bool.eq_iff_iff.2
   rw [anyF_spec,anyF_spec]
   constructor
   ·rintro ⟨c,r,hc,hr,hh⟩
    exact ⟨c,r,hc,hr,by rw [<- canF_congr hb h hc hr];exact hh⟩
   ·rintro ⟨c,r,hc,hr,hh⟩
    exact ⟨c,r,hc,hr,by rw [canF_congr hb h hc hr];exact hh⟩
  simp only [timesF,ha]
  split
  ·refine ih (t+1) _ _ (fun c r hc hr => ?_) c r hc hr
   unfold stepF
   rw [canF_congr hb h hc hr,h c r hc hr]
  ·exact h c r hc hr
theorem graph_grB {n:Int} {l:List E} {v:Unit} (h:graphB (n,l,v)=true) (hl:okL l=true):grB (n,l,v)=true:=by
 have h8:=graphB_n h
 have he:=(graphB_edges h).1
 unfold grB
 have e1:decide (0<=n)=true:=by simp;omega
 have e2:decide (n<=8)=true:=by simp;omega
 simp only [hl,e1,e2,he,Bool.and_self]
theorem good_eq (w:Wk) (u:Unit):F_q32q 0 (w,u)=F_q75q 0 (w,u):=by
 show (F_q75q 0 (w,())).bind (fun r1=>some (r1.1,()))=F_q75q 0 (w,())
 cases F_q75q 0 (w,())<;>rfl
end Go.V.W
namespace Go.V.W
open Go.Proofs
theorem loop_keep {H O γ α:Type} {L:Nat->H->Option O} {r:(H->Option O)->H->Option O} (hL:∀k d,L (k+1) d=r (L k) d) (l:List γ) {mk:Nat->List α->H} {f:γ->List α} (hf1:∀x,(f x).length<=1) {o:List α->O}
  (hr:∀back i (hi:i<l.length) A,A.length<=i->r back (mk i A)=back (mk (i+1) (A++f l[i]))) (hf:∀back A,A.length<=l.length->r back (mk l.length A)=some (o A)) :
  ∀k,l.length<=k->L (k+1) (mk 0 [])=some (o (l.flatMap f)):=by
 have key:∀k i A,i<=l.length->l.length<=i+k->A.length<=i->L (k+1) (mk i A)=some (o (A++(l.drop i).flatMap f)):=by
  intro k
  induction k with
  | zero=>
   intro i A h1 h2 h3
   have e:i=l.length:=by omega
   subst e
   rw [hL,hf _ _ h3,List.drop_of_length_le (Nat.le_refl _)]
   simp
  | succ k ih=>
   intro i A h1 h2 h3
   by_cases h:i<l.length
   ·have hh:=hf1 l[i]
    rw [hL,hr _ i h A h3,ih (i+1) _ (by omega) (by omega) (by simp;omega),List.drop_eq_getElem_cons h,List.flatMap_cons,List.append_assoc]
   ·have e:i=l.length:=by omega
    subst e
    rw [hL,hf _ _ h3,List.drop_of_length_le (Nat.le_refl _)]
    simp
 intro k h
 have:=key k 0 [] (Nat.zero_le _) (by omega) (Nat.le_refl _)
 simpa using this
theorem flat_filter {α:Type} (p:α->Bool):∀l:List α,(l.flatMap fun y=>if p y=true then [y] else [])=l.filter p:=by
 intro l
 induction l with
 | nil=>rfl
 | cons x l ih=>
  rw [List.flatMap_cons,ih,List.filter_cons]
  split<;>simp
theorem flat_filterMap {α β:Type} (p:α->Bool) (g:α->β):∀l:List α,(l.flatMap fun y=>if p y=true then [g y] else [])=(l.filter p).map g:=by
 intro l
 induction l with
 | nil=>rfl
 | cons x l ih=>
  rw [List.flatMap_cons,ih,List.filter_cons]
  split<;>simp
theorem flat_setF (p:Nat->Bool):∀k x,((List.range' x k).flatMap fun y=>if p y=true then [(y:Int)] else [])=setF p k x:=by
 intro k
 induction k with
 | zero=>intro x;rfl
 | succ k ih=>
  intro x
  rw [List.range'_succ,List.flatMap_cons,ih]
  show _=if p x=true then (x:Int)::setF p k (x+1) else setF p k (x+1)
  split<;>simp
theorem one_len {α:Type} {c:Prop} [Decidable c] {x:α}:(if c then [x] else []).length<=1:=by split<;>simp
theorem nat_of {n:Int} (h:0<=n):∃a:Nat,n=(a:Int):=⟨n.toNat,by omega⟩
theorem l2Bits_lim (d) (r) (h:G_l2Bits d=some r):∃N,F_q95q N d=some r:=by
 obtain ⟨n,m,_⟩:=d
 unfold G_l2Bits at h
 split at h
 ·rename_i hc
  simp only [Bool.and_eq_true] at hc
  obtain ⟨hn,hm⟩:=hc
  have hn:=inB_iff.1 hn
  have hm:=inB_iff.1 hm
  obtain ⟨a,rfl⟩:=nat_of hn.1
  obtain ⟨b,rfl⟩:=nat_of hm.1
  have h:=Option.some.inj h
  subst h
  refine ⟨20,?_⟩
  unfold F_q95q
  have:=loop_keep (L:=q95q_l0 20) (r:=q95q_l0_r 20) (fun _ _=>rfl) (List.range' 0 a) (mk:=fun i A=>((a:Int),(b:Int),A,(i:Int),())) (f:=fun y=>if b.testBit y=true then [(y:Int)] else []) (o:=fun A=>.inl (A,())) (fun x=>one_len) (by
    intro back i hi A hA
    simp only [List.length_range'] at hi
    unfold q95q_l0_r
    have hle:decide (A.length+List.length [(i:Int)]<=lim)=true:=by unfold lim;simp;omega
    simp only [lt_dec hi,if_true,nonneg_dec,has_bit (show b<256 by omega) (show i<8 by omega),hle,wrap8 hi (by omega),List.getElem_range',Nat.one_mul,Nat.zero_add]
    by_cases hb:b.testBit i=true
    ·simp only [hb,if_true]
    ·simp only [hb,if_false,List.append_nil,Bool.false_eq_true])
   (by
    intro back A hA
    unfold q95q_l0_r
    simp only [List.length_range',lt_not,Bool.false_eq_true,if_false]) 19 (by simp;omega)
  rw [flat_setF] at this
  simp only [Int.natCast_zero] at this
  simp only [this,Option.bind_some,Int.toNat_natCast]
 ·cases h
theorem l2Without_lim (d) (r) (h:G_l2Without d=some r):∃N,F_q48q N d=some r:=by
 obtain ⟨l,x,_⟩:=d
 unfold G_l2Without at h
 split at h
 ·rename_i hc
  have hl:l.length<=lim:=okL_lim hc
  have h:=Option.some.inj h
  subst h
  refine ⟨l.length+1,?_⟩
  unfold F_q48q
  have:=loop_keep (L:=q48q_l0 (l.length+1)) (r:=q48q_l0_r (l.length+1)) (fun _ _=>rfl) l (mk:=fun i A=>(l,x,A,(i:Int),())) (f:=fun y=>if (y != x)=true then [y] else []) (o:=fun A=>.inl (A,())) (fun x=>one_len) (by
    intro back i hi A hA
    unfold q48q_l0_r
    have hle:decide (A.length+List.length [l[i]]<=lim)=true:=by simp;omega
    have e:at_ I l i=l[i]:=at_get (e:=I) hi
    simp only [lt_dec hi,if_true,idxIn_nat hi,Int.toNat_natCast,e,hle,wrap_up hi (lim_max hl)]
    by_cases hb:(l[i] != x)=true
    ·simp only [hb,if_true]
    ·simp only [hb,if_false,List.append_nil,Bool.false_eq_true])
   (by
    intro back A hA
    unfold q48q_l0_r
    simp only [lt_not,Bool.false_eq_true,if_false]) l.length (Nat.le_refl _)
  rw [flat_filter] at this
  simp only [Int.natCast_zero] at this
  simp only [this,Option.bind_some]
 ·cases h
theorem l5Rest_lim (d) (r) (h:G_l5Rest d=some r):∃N,F_q90q N d=some r:=by
 obtain ⟨⟨n,es,u⟩,S,_⟩:=d
 unfold G_l5Rest at h
 split at h
 ·rename_i hc
  simp only [Bool.and_eq_true,decide_eq_true_eq] at hc
  obtain ⟨⟨h0,h8⟩,hS⟩:=hc
  obtain ⟨a,rfl⟩:=nat_of h0
  have h8:(a:Int)<=8:=h8
  have h:=Option.some.inj h
  subst h
  refine ⟨20,?_⟩
  unfold F_q90q
  have:=loop_keep (L:=q90q_l0 20) (r:=q90q_l0_r 20) (fun _ _=>rfl) (List.range' 0 a) (mk:=fun i A=>(S,((a:Int),es,u),A,(i:Int),())) (f:=fun y=>if (!hasL S (y:Int))=true then [(y:Int)] else []) (o:=fun A=>.inl (A,())) (fun x=>one_len) (by
    intro back i hi A hA
    simp only [List.length_range'] at hi
    unfold q90q_l0_r
    have hle:decide (A.length+List.length [(i:Int)]<=lim)=true:=by unfold lim;simp;omega
    have hh:G_l1Has (S,(i:Int),())=some (hasL S (i:Int),()):=by unfold G_l1Has hasL;rw [if_pos hS]
    simp only [lt_dec hi,if_true,hh,Option.bind_some,hle,wrap8 hi (by omega),List.getElem_range',Nat.one_mul,Nat.zero_add]
    by_cases hb:(!hasL S (i:Int))=true
    ·simp only [hb,if_true]
    ·simp only [hb,if_false,List.append_nil,Bool.false_eq_true])
   (by
    intro back A hA
    unfold q90q_l0_r
    simp only [List.length_range',lt_not,Bool.false_eq_true,if_false]) 19 (by simp;omega)
  rw [flat_setF] at this
  simp only [Int.natCast_zero] at this
  simp only [this,Option.bind_some,Int.toNat_natCast]
 ·cases h
theorem l5Among_lim (d) (r) (h:G_l5Among d=some r):∃N,F_q72q N d=some r:=by
 obtain ⟨⟨n,es,u⟩,S,x,_⟩:=d
 unfold G_l5Among gOk at h
 split at h
 ·rename_i hc
  simp only [Bool.and_eq_true,decide_eq_true_eq] at hc
  obtain ⟨⟨⟨ho,h0⟩,h8⟩,hS⟩:=hc
  obtain ⟨a,rfl⟩:=nat_of h0
  have h8:(a:Int)<=8:=h8
  have h:=Option.some.inj h
  subst h
  refine ⟨20,?_⟩
  unfold F_q72q
  have hn:G_l2Neighbors (((a:Int),es,u),x,())=some (setF (fun y=>nearI es x (y:Int)) a 0,()):=by
   unfold G_l2Neighbors
   have e1:(okL es&&decide (0<=(a:Int))&&decide ((a:Int)<=8))=true:=by simp only [ho,h8,nonneg_dec,decide_true,Bool.and_self]
   simp only [e1,if_true,Int.toNat_natCast]
  have hl:=setF_len (p:=fun y=>nearI es x (y:Int)) (k:=a) (x:=0)
  have hmx:(setF (fun y=>nearI es x (y:Int)) a 0).length<=maxLen:=by unfold maxLen;omega
  have:=loop_keep (L:=q72q_l0 20) (r:=q72q_l0_r 20) (fun _ _=>rfl) (setF (fun y=>nearI es x (y:Int)) a 0) (mk:=fun i A=>(S,A,setF (fun y=>nearI es x (y:Int)) a 0,(i:Int),())) (f:=fun y=>if (!hasL S y)=true then [y] else []) (o:=fun A=>.inl (A,())) (fun x=>one_len) (by
    generalize setF (fun y=>nearI es x (y:Int)) a 0=l at hl hmx
    intro back i hi A hA
    unfold q72q_l0_r
    have hle:decide (A.length+List.length [l[i]]<=lim)=true:=by unfold lim;simp;omega
    have hh:G_l1Has (S,l[i],())=some (hasL S l[i],()):=by unfold G_l1Has hasL;rw [if_pos hS]
    have e:at_ I l i=l[i]:=at_get (e:=I) hi
    simp only [lt_dec hi,if_true,idxIn_nat hi,Int.toNat_natCast,e,hh,Option.bind_some,hle,wrap_up hi hmx]
    by_cases hb:(!hasL S l[i])=true
    ·simp only [hb,if_true]
    ·simp only [hb,if_false,List.append_nil,Bool.false_eq_true])
   (by
    intro back A hA
    unfold q72q_l0_r
    simp only [lt_not,Bool.false_eq_true,if_false]) 19 (by omega)
  rw [flat_filter] at this
  simp only [Int.natCast_zero] at this
  simp only [hn,this,Option.bind_some,Int.toNat_natCast]
  rfl
 ·cases h
theorem induced_l2 (N:Nat) (g:Gr) (hg:okL g.2.1=true) (S:List Int) (hS:S.length<=8) (z:Gr) (n':Int) (x:Nat) (hx:x<S.length):∀k y f (A:List E),y+k=S.length->k<f->A.length+k<=1000 ->
  q46q_l2 N f (S,g,z,(n',A,()),(x:Int),(y:Int),())=some (.inl (S,g,z,(n',A++rowE (fun i k=>nearI g.2.1 (atS S i) (atS S k)) x k y,()),(x:Int),())):=by
 intro k
 induction k with
 | zero=>
  intro y f A h1 h2 h3
  obtain ⟨f,rfl⟩:∃m,f=m+1:=⟨f-1,by omega⟩
  have e:y=S.length:=by omega
  subst e
  simp [q46q_l2,q46q_l2_r,rowE]
 | succ k ih=>
  intro y f A h1 h2 h3
  obtain ⟨f,rfl⟩:∃m,f=m+1:=⟨f-1,by omega⟩
  have hy:y<S.length:=by omega
  show q46q_l2_r N (q46q_l2 N f) (S,g,z,(n',A,()),(x:Int),(y:Int),())=_
  unfold q46q_l2_r
  have hle:decide (A.length+List.length [(((x:Int),(y:Int),()):E)]<=lim)=true:=by
   unfold lim
   simp
   omega
  have e1:at_ I S x=atS S x:=by unfold atS at_;rfl
  have e2:at_ I S y=atS S y:=by unfold atS at_;rfl
  have hn:G_l2Near (g,atS S x,atS S y,())=some (nearI g.2.1 (atS S x) (atS S y),()):=by unfold G_l2Near;rw [if_pos hg]
  simp only [lt_dec hy,if_true,idxIn_nat hx,idxIn_nat hy,Int.toNat_natCast,e1,e2,hn,Option.bind_some,hle,wrap8 hy hS]
  unfold rowE
  by_cases hh:nearI g.2.1 (atS S x) (atS S y)=true
  ·rw [if_pos hh,if_pos hh,ih (y+1) f _ (by omega) (by omega) (by simp;omega)]
   simp
  ·rw [if_neg hh,if_neg hh]
   exact ih (y+1) f A (by omega) (by omega) (by omega)
theorem induced_l0 (N:Nat) (hN:9<=N) (g:Gr) (hg:okL g.2.1=true) (S:List Int) (hS:S.length<=8) (z:Gr) (n':Int):∀k x f (A:List E),x+k=S.length->k<f->A.length+10*k<=900 ->
  q46q_l0 N f (S,g,z,(n',A,()),(x:Int),())=some (.inl (z,(n',A++allE (fun i k=>nearI g.2.1 (atS S i) (atS S k)) S.length k x,()),())):=by
 intro k
 induction k with
 | zero=>
  intro x f A h1 h2 h3
  obtain ⟨f,rfl⟩:∃m,f=m+1:=⟨f-1,by omega⟩
  have e:x=S.length:=by omega
  subst e
  simp [q46q_l0,q46q_l0_r,allE]
 | succ k ih=>
  intro x f A h1 h2 h3
  obtain ⟨f,rfl⟩:∃m,f=m+1:=⟨f-1,by omega⟩
  have hx:x<S.length:=by omega
  show q46q_l0_r N (q46q_l0 N f) (S,g,z,(n',A,()),(x:Int),())=_
  unfold q46q_l0_r
  have hin:=induced_l2 N g hg S hS z n' x hx (S.length-(x+1)) (x+1) N A (by omega) (by omega) (by omega)
  simp only [lt_dec hx,if_true,wrap8 hx hS,hin,Option.bind_some]
  have:=rowE_len (p:=fun i k=>nearI g.2.1 (atS S i) (atS S k)) (x:=x) (m:=S.length-(x+1)) (y:=x+1)
  rw [ih (x+1) f _ (by omega) (by omega) (by simp;omega)]
  simp [allE]
theorem l2Induced_lim (d) (r) (h:G_l2Induced d=some r):∃N,F_q46q N d=some r:=by
 obtain ⟨g,S,_⟩:=d
 unfold G_l2Induced at h
 split at h
 ·rename_i hc
  simp only [Bool.and_eq_true,decide_eq_true_eq] at hc
  obtain ⟨hg,hS⟩:=hc
  have h:=Option.some.inj h
  subst h
  refine ⟨20,?_⟩
  unfold F_q46q
  have:=induced_l0 20 (by omega) g hg S hS (0,[],()) (S.length:Int) S.length 0 20 [] (by omega) (by omega) (by simp;omega)
  simp only [Int.natCast_zero,List.nil_append] at this
  simp only [this,Option.bind_some]
  rfl
 ·cases h
theorem before_eq (a b:E) (u:Unit):g_q53q (a,b,u)=(lessE a b,()):=by
 unfold g_q53q lessE
 by_cases h:a.1<b.1
 ·simp [h]
 ·by_cases h2:a.1=b.1
  ·simp [h2]
  ·simp [h,h2]
theorem insE_low (e:E):∀l:List E,∃k,k<=l.length/\(∀j (hj:j<l.length),j<k->lessE l[j] e=true)/\(∀hk:k<l.length,lessE l[k] e=false)/\insE e l=l.take k++[e]++l.drop k:=by
 intro l
 induction l with
 | nil=>exact ⟨0,Nat.le_refl _,fun j hj=>absurd hj (by simp),fun hk=>absurd hk (by simp),rfl⟩
 | cons a l ih=>
  by_cases h:lessE a e=true
  ·obtain ⟨k,h1,h2,h3,h4⟩:=ih
   refine ⟨k+1,by simp;exact h1,fun j hj hjk => ?_,fun hk => ?_,?_⟩
   ·cases j with
    | zero=>exact h
    | succ j=>exact h2 j (by simpa using hj) (by omega)
   ·exact h3 (by simpa using hk)
   ·simp only [insE,h,if_true,h4,List.take_succ_cons,List.drop_succ_cons,List.cons_append]
  ·refine ⟨0,Nat.zero_le _,fun j hj hjk=>absurd hjk (by omega),fun hk=>by simpa using h,?_⟩
   simp only [insE,h,if_false,List.take_zero,List.drop_zero,List.nil_append,List.singleton_append,Bool.false_eq_true]
theorem l2Put_lim (d) (r) (h:G_l2Put d=some r):∃N,F_spec_l2Put N d=some r:=by
 obtain ⟨l,e,_⟩:=d
 unfold G_l2Put at h
 split at h
 ·rename_i hc
  have hl:l.length<=1000:=of_decide_eq_true hc
  have hmx:l.length<=maxLen:=by unfold maxLen;omega
  have h:=Option.some.inj h
  subst h
  obtain ⟨k,h1,h2,h3,h4⟩:=insE_low e l
  refine ⟨l.length+2,?_⟩
  have key:∀q i f,i+q=k->q<f->spec_l2Put_l0 (l.length+2) f (l,e,(i:Int),())=some (.inl (l,e,(k:Int),())):=by
   intro q
   induction q with
   | zero=>
    intro i f e1 e2
    obtain ⟨f,rfl⟩:∃m,f=m+1:=⟨f-1,by omega⟩
    have ei:i=k:=by omega
    subst ei
    show spec_l2Put_l0_r _ _ _=_
    unfold spec_l2Put_l0_r
    by_cases hi:i<l.length
    ·have ea:at_ K_Piiq l i=l[i]:=at_get (e:=K_Piiq) hi
     simp only [lt_dec hi,if_true,idxIn_nat hi,Int.toNat_natCast,ea,before_eq,h3 hi,Bool.false_eq_true,if_false]
    ·have ei:i=l.length:=by omega
     subst ei
     simp only [lt_not,Bool.false_eq_true,if_false]
   | succ q ih=>
    intro i f e1 e2
    obtain ⟨f,rfl⟩:∃m,f=m+1:=⟨f-1,by omega⟩
    have hi:i<l.length:=by omega
    show spec_l2Put_l0_r _ _ _=_
    unfold spec_l2Put_l0_r
    have ea:at_ K_Piiq l i=l[i]:=at_get (e:=K_Piiq) hi
    simp only [lt_dec hi,if_true,idxIn_nat hi,Int.toNat_natCast,ea,before_eq,h2 i hi (by omega),wrap_up hi hmx]
    exact ih (i+1) f (by omega) (by omega)
  have:=key k 0 (l.length+2) (by omega) (by omega)
  simp only [Int.natCast_zero] at this
  unfold F_spec_l2Put
  have c1:(decide (0<=(0:Int))&&decide ((0:Int)<=(k:Int))&&decide ((k:Int)<=(l.length:Int)))=true:=by simp;omega
  have s1:sub_ l 0 (k:Int)=l.take k:=by unfold sub_;simp
  have s2:sub_ l (k:Int) (l.length:Int)=l.drop k:=by unfold sub_;simp
  have c2:decide (List.length ([]:List E)+(l.take k).length<=lim)=true:=by unfold lim;simp;omega
  have c3:decide ((([]:List E)++l.take k).length+List.length [e]<=lim)=true:=by unfold lim;simp;omega
  have c4:(decide (0<=(k:Int))&&decide ((k:Int)<=(l.length:Int))&&decide ((l.length:Int)<=(l.length:Int)))=true:=by simp;omega
  have c5:decide ((([]:List E)++l.take k++[e]).length+(l.drop k).length<=lim)=true:=by unfold lim;simp;omega
  simp only [this,Option.bind_some,c1,if_true,s1,c2,c3,c4,s2,c5]
  rw [h4]
  simp
 ·cases h
theorem cloneI_lim (d) (r) (h:G_toIntS d=some r):∃N,F_q7q N d=some r:=by
 obtain ⟨l,_⟩:=d
 unfold G_toIntS at h
 split at h
 ·rename_i hl
  have hl:l.length<=lim:=of_decide_eq_true hl
  have h:=Option.some.inj h
  subst h
  refine ⟨0,?_⟩
  unfold F_q7q
  have h1:decide (List.length ([]:List Int)+l.length<=lim)=true:=by simp [hl]
  simp only [h1,if_true,List.nil_append]
  split
  ·rename_i h0
   have:l=[]:=List.length_eq_zero_iff.1 (of_decide_eq_true h0)
   subst this
   simp [both]
  ·rfl
 ·cases h
end Go.V.W
namespace Go.V.W
open Go.Proofs
theorem eqB_e (x y:E):eqB K_Piiq x y=decide (x=y):=by
 obtain ⟨a,b,_⟩:=x
 obtain ⟨c,d,_⟩:=y
 show ((a==c)&&((b==d)&&true))=_
 rw [Bool.eq_iff_iff]
 simp
theorem node_eq (n:Int) (l:List E) (v:Unit) (x:Int) (u:Unit) (h0:0<=n) (h8:n<=8):g_q105q ((n,l,v),x,u)=(inB 0 (n-1) x,()):=by
 unfold g_q105q
 have hw:IntKind.wrap .i64 (n-1)=n-1:=wrap_in _ (by omega) (by omega)
 simp only [hw,l1In_eq]
theorem least_eq (a b:Int) (u:Unit):g_q76q (a,b,u)=((if a<b then a else b),()):=by
 unfold g_q76q
 by_cases h:a<b<;>simp [h]
theorem eE_eq {a b:Int} (h:¬a=b) (u v:Unit):((g_q76q (a,b,u)).1,(g_q87q (a,b,v)).1,())=eE a b:=by
 rw [least_eq,most_eq]
 unfold eE
 by_cases h1:a<b
 ·simp only [h1,if_true]
 ·simp only [h1,if_false]
theorem ToggleEdge_lim (d) (r) (h:G_ToggleEdge d=some r):∃N,F_q39q N d=some r:=by
 obtain ⟨⟨n,es,u⟩,a,b,_⟩:=d
 unfold G_ToggleEdge at h
 split at h
 ·rename_i hc
  have hl:es.length<=1000:=of_decide_eq_true hc
  have hl2:es.length<=lim:=by unfold lim;omega
  have h:=Option.some.inj h
  subst h
  refine ⟨es.length+1,?_⟩
  unfold F_q39q togB G_graph
  have ho:okL es=true:=decide_eq_true hl2
  simp only [ho,if_true,Option.bind_some]
  cases hg:graphB (n,es,u) with
  | false=>rfl
  | true=>
   obtain ⟨h0,h8⟩:=graphB_n hg
   simp only [node_eq n es u _ _ h0 h8,Bool.not_true,Bool.false_eq_true,if_false,Bool.true_and]
   cases ha:inB 0 (n-1) a with
   | false=>rfl
   | true=>
    cases hb:inB 0 (n-1) b with
    | false=>rfl
    | true=>
     cases hab:a==b with
     | true=>rfl
     | false=>
      have hne:¬a=b:=by simpa using hab
      have he:=eE_eq hne () ()
      have:=loop_keep (L:=q39q_l0 (es.length+1)) (r:=q39q_l0_r (es.length+1)) (fun _ _=>rfl) es (mk:=fun i A=>((n,es,u),(0,[],()),eE a b,(n,A,()),(i:Int),())) (f:=fun x=>if (!decide (x=eE a b))=true then [x] else []) (o:=fun A=>.inl ((n,es,u),(0,[],()),eE a b,(n,A,()),())) (fun x=>one_len) (by
        intro back i hi A hA
        unfold q39q_l0_r
        have hle:decide (A.length+List.length [es[i]]<=lim)=true:=by unfold lim;simp;omega
        have e:at_ K_Piiq es i=es[i]:=at_get (e:=K_Piiq) hi
        simp only [lt_dec hi,if_true,idxIn_nat hi,Int.toNat_natCast,e,hle,wrap_up hi (lim_max hl2),eqB_e]
        by_cases hh:(!decide (es[i]=eE a b))=true
        ·simp only [hh,if_true]
        ·simp only [hh,if_false,List.append_nil,Bool.false_eq_true])
       (by
        intro back A hA
        unfold q39q_l0_r
        simp only [lt_not,Bool.false_eq_true,if_false]) es.length (Nat.le_refl _)
      rw [flat_filter] at this
      simp only [Int.natCast_zero] at this
      have hfl:(outE es (eE a b)).length<=es.length:=List.length_filter_le _ _
      have hp:G_l2Put (outE es (eE a b),eE a b,())=some (insE (eE a b) (outE es (eE a b)),()):=by
       unfold G_l2Put
       rw [if_pos (decide_eq_true (by show (outE es (eE a b)).length<=1000;omega))]
      rw [<- he] at this hp
      simp only [Bool.not_true,Bool.not_false,Bool.and_self,Bool.false_eq_true,if_false,if_true,this,Option.bind_some]
      show _=some ((n,togE es (eE a b),()),true,())
      unfold togE
      by_cases hh:(outE es (eE a b)).length=es.length
      ·have hh2:(((es.filter fun x => !decide (x=eE a b)).length:Int)==(es.length:Int))=true:=by
        have:(outE es (eE a b)).length=es.length:=hh
        unfold outE at this
        simp [this]
       rw [<- he] at hh2
       rw [if_pos hh]
       simp only [hh2,if_true]
       unfold outE at hp
       simp only [he] at hp |-
       simp only [hp,Option.bind_some]
       rfl
      ·have hh2:(((es.filter fun x => !decide (x=eE a b)).length:Int)==(es.length:Int))=false:=by
        have:¬(outE es (eE a b)).length=es.length:=hh
        unfold outE at this
        simp only [beq_eq_false_iff_ne,ne_eq]
        omega
       rw [<- he] at hh2
       rw [if_neg hh]
       simp only [hh2,Bool.false_eq_true,if_false]
       simp only [he]
       rfl
 ·cases h
theorem filter_setF (p:Nat->Bool) (q:Int->Bool):∀k x,(setF p k x).filter q=setF (fun y=>p y&&q (y:Int)) k x:=by
 intro k
 induction k with
 | zero=>intro x;rfl
 | succ k ih=>
  intro x
  show (if p x=true then (x:Int)::setF p k (x+1) else setF p k (x+1)).filter q=if (p x&&q (x:Int))=true then (x:Int)::setF (fun y=>p y&&q (y:Int)) k (x+1) else setF (fun y=>p y&&q (y:Int)) k (x+1)
  cases hp:p x with
  | false=>simp [ih]
  | true=>
   simp only [if_true,List.filter_cons,ih,Bool.true_and]
theorem all_mask {n:Nat} (h:n<=8):IntKind.wrap .i64 (shl .i64 1 (n:Int)-1)=((2 ^ n-1:Nat):Int)/\2 ^ n-1<=255:=by
 have:n=0\/n=1\/n=2\/n=3\/n=4\/n=5\/n=6\/n=7\/n=8:=by omega
 rcases this with rfl | rfl | rfl | rfl | rfl | rfl | rfl | rfl | rfl<;>decide
theorem all_some {n:Nat} (hn:n<=8) (es:List E) (u v:Unit):F_spec_l2All 0 (((n:Int),es,u),v)=some (setF (fun _=>true) n 0,()):=by
 unfold F_spec_l2All
 obtain ⟨m1,m2⟩:=all_mask hn
 have i1:inB 0 8 (n:Int)=true:=inB_iff.2 (by omega)
 have i2:inB 0 255 ((2 ^ n-1:Nat):Int)=true:=inB_iff.2 (by omega)
 simp only [nonneg_dec,if_true,m1,G_l2Bits,i1,i2,Bool.and_self,Option.bind_some,Int.toNat_natCast]
 congr 2
 refine setF_congr fun y _ hy => ?_
 rw [Nat.testBit_two_pow_sub_one]
 exact decide_eq_true (by omega)
theorem own_ws (n:Int) (l:List E) (v:Unit) (p q:Int) (m:List Int) (t:Int) (u w:Unit) (hl:okL l=true) (hm:okL m=true):F_q88q 0 (((n,l,v),p,q,m,t,u),w)=some (((n,l,()),p,q,m,t,()),()):=by
 unfold F_q88q F_spec_l1Own
 have e1:decide (List.length ([]:List E)+l.length<=lim)=true:=by
  have:=okL_lim hl
  simp;omega
 have e2:decide (List.length ([]:List Int)+m.length<=lim)=true:=by
  have:=okL_lim hm
  simp;omega
 simp only [e1,e2,if_true,List.nil_append,Option.bind_some]
theorem less_eq (y x:Int) (u:Unit) (h0 : -1<=y) (h1:y<=1000):g_q69q (y,x,u)=(lessN y x,()):=by
 unfold g_q69q lessN
 have hw:IntKind.wrap .i64 (y-1)=y-1:=wrap_in _ (by omega) (by omega)
 by_cases h:y>x<;>simp [h,hw]
theorem okW_parts {n:Int} {es:List E} {v:Unit} {p q:Int} {m:List Int} {t:Int} {u:Unit} (h:okW ((n,es,v),p,q,m,t,u)=true) :
  graphB (n,es,v)=true/\0<=n/\n<=8/\(-1<=p/\p<=n-1)/\(-1<=q/\q<=n-1)/\(∀y∈m,0<=y/\y<=n-1)/\risingB m=true/\(0<=t/\t<=1000)/\es.length<=1000/\m.length<=1000/\okL es=true/\okL m=true:=by
 unfold okW workB at h
 simp only [Bool.and_eq_true,decide_eq_true_eq] at h
 obtain ⟨⟨⟨⟨⟨⟨h1,h2⟩,h3⟩,h4,h5⟩,h6⟩,h7⟩,h8⟩:=h
 obtain ⟨n0,n8⟩:=graphB_n h1
 refine ⟨h1,n0,n8,inB_iff.1 h2,inB_iff.1 h3,fun y hy=>inB_iff.1 (List.all_eq_true.1 h4 y hy),h5,inB_iff.1 h6,h7,h8,decide_eq_true (by unfold lim;omega),decide_eq_true (by unfold lim;omega)⟩
theorem dropG_eq {n:Nat} (hn:n<=8) (es:List E) (ho:okL es=true) (v:Unit) (x:Int) :
  G_l2Without (setF (fun _=>true) n 0,x,())=some (setF (fun y => !decide ((y:Int)=x)) n 0,())/\G_l2Induced (((n:Int),es,v),setF (fun y => !decide ((y:Int)=x)) n 0,())=some (dropG ((n:Int),es,v) x,()):=by
 have l1:=setF_len (p:=fun _=>true) (k:=n) (x:=0)
 have l2:=setF_len (p:=fun y => !decide ((y:Int)=x)) (k:=n) (x:=0)
 refine ⟨?_,?_⟩
 ·unfold G_l2Without
  rw [if_pos (show okL (setF (fun _=>true) n 0)=true from decide_eq_true (by unfold lim;omega)),filter_setF]
  rfl
 ·unfold G_l2Induced dropG
  have e:decide ((setF (fun y => !decide ((y:Int)=x)) n 0).length<=8)=true:=decide_eq_true (by omega)
  simp only [ho,e,Bool.and_self,if_true,Int.toNat_natCast]
theorem l12Drop_lim (d) (r) (h:G_l12Drop d=some r):∃N,F_q65q N d=some r:=by
 obtain ⟨⟨⟨n,es,v⟩,p,q,m,t,u⟩,x,_⟩:=d
 unfold G_l12Drop at h
 split at h
 ·rename_i hc
  simp only [Bool.and_eq_true] at hc
  obtain ⟨hw,hx⟩:=hc
  obtain ⟨hg,n0,n8,hp,hq,hmm,hr,ht,le1,le2,ho,hm⟩:=okW_parts hw
  have hx:inB 0 (n-1) x=true:=hx
  have h:=Option.some.inj h
  subst h
  refine ⟨m.length+1,?_⟩
  obtain ⟨a,rfl⟩:=nat_of n0
  unfold F_q65q
  have ha:a<=8:=by omega
  obtain ⟨d1,d2⟩:=dropG_eq ha es ho v x
  have hml:m.length<=lim:=okL_lim hm
  have:=loop_keep (L:=q65q_l0 (m.length+1)) (r:=q65q_l0_r (m.length+1)) (fun _ _=>rfl) m (mk:=fun i A=>(x,(((a:Int),es,v),p,q,m,t,u),W0,(dropG ((a:Int),es,v) x,lessN p x,lessN q x,A,t,()),(i:Int),())) (f:=fun y=>if (y != x)=true then [lessN y x] else []) (o:=fun A=>.inl (W0,(dropG ((a:Int),es,v) x,lessN p x,lessN q x,A,t,()),())) (fun x=>one_len) (by
    intro back i hi A hA
    unfold q65q_l0_r
    have hle:decide (A.length+List.length [lessN m[i] x]<=lim)=true:=by simp;omega
    have e:at_ I m i=m[i]:=at_get (e:=I) hi
    have hb:=hmm m[i] (List.getElem_mem hi)
    simp only [lt_dec hi,if_true,idxIn_nat hi,Int.toNat_natCast,e,less_eq m[i] x () (by omega) (by omega),hle,wrap_up hi (lim_max hml)]
    by_cases hh:(m[i] != x)=true
    ·simp only [hh,if_true]
    ·simp only [hh,if_false,List.append_nil,Bool.false_eq_true])
   (by
    intro back A hA
    unfold q65q_l0_r
    simp only [lt_not,Bool.false_eq_true,if_false]) m.length (Nat.le_refl _)
  rw [flat_filterMap] at this
  simp only [Int.natCast_zero] at this
  unfold W0 at this
  simp only [own_ws (a:Int) es v p q m t u () ho hm,all_some ha,d1,d2,Option.bind_some,less_eq p x () (by omega) (by omega),less_eq q x () (by omega) (by omega),this]
  rfl
 ·cases h
theorem find_idx {α:Type} (p:α->Bool):∀l:List α,l.any p=true -> ∃j,∃hj:j<l.length,p l[j]=true/\(∀i (hi:i<l.length),i<j->p l[i]=false)/\l.find? p=some l[j]:=by
 intro l
 induction l with
 | nil=>intro h;cases h
 | cons a l ih=>
  intro h
  cases hp:p a with
  | true=>exact ⟨0,by simp,hp,fun i hi hij=>absurd hij (by omega),by simp [List.find?_cons,hp]⟩
  | false=>
   rw [List.any_cons,hp,Bool.false_or] at h
   obtain ⟨j,hj,h1,h2,h3⟩:=ih h
   refine ⟨j+1,by simp;exact hj,h1,fun i hi hij => ?_,?_⟩
   ·cases i with
    | zero=>exact hp
    | succ i=>exact h2 i (by simpa using hi) (by omega)
   ·rw [List.find?_cons,hp]
    exact h3
theorem sqB_bound {n:Nat} {T:Tab} (h:sqB n T=true):sqL n T=true /\ ∀c r,c<n->r<n -> -1<=tab2 T (c:Int) (r:Int)/\tab2 T (c:Int) (r:Int)<=1000:=by
 unfold sqB at h
 simp only [Bool.and_eq_true] at h
 obtain ⟨h1,h2⟩:=h
 refine ⟨h1,fun c r hc hr => ?_⟩
 obtain ⟨t1,t2⟩:=sqL_parts h1
 have hcl:c<T.length:=by omega
 have e1:at_ K_Si T c=T[c]:=at_get (e:=K_Si) hcl
 have t2':=t2 c hc
 rw [e1] at t2'
 have hrl:r<T[c].length:=by omega
 have:=List.all_eq_true.1 (List.all_eq_true.1 h2 T[c] (List.getElem_mem hcl)) T[c][r] (List.getElem_mem hrl)
 simp only [Bool.and_eq_true,decide_eq_true_eq] at this
 have e2:tab2 T (c:Int) (r:Int)=T[c][r]:=by
  unfold tab2
  simp [List.getD_eq_getElem?_getD,hcl,hrl]
 rw [e2]
 exact this
theorem two_parts {g:Gr} {c r:Int} (hg:grB g=true) (h:twoB g c r=true):c=(c.toNat:Int)/\c.toNat<g.1.toNat/\r=(r.toNat:Int)/\r.toNat<g.1.toNat:=by
 obtain ⟨_,g2,_,_⟩:=grB_parts hg
 unfold twoB at h
 simp only [Bool.and_eq_true] at h
 obtain ⟨a,b⟩:=inB_nat g2 h.1
 obtain ⟨c,d⟩:=inB_nat g2 h.2
 exact ⟨a,b,c,d⟩
theorem l3Chase_lim (d) (r) (h:G_l3Chase d=some r):∃N,F_q78q N d=some r:=by
 obtain ⟨g,T,c,q,_⟩:=d
 unfold G_l3Chase at h
 split at h
 ·rename_i hc
  simp only [Bool.and_eq_true,decide_eq_true_eq] at hc
  obtain ⟨⟨⟨⟨hg,hT⟩,h2⟩,ht⟩,hany⟩:=hc
  have hT:sqB g.1.toNat T=true:=hT
  obtain ⟨c1,c2,q1,q2⟩:=two_parts hg h2
  obtain ⟨hsq,hbd⟩:=sqB_bound hT
  obtain ⟨t1,t2⟩:=sqL_parts hsq
  have h:=Option.some.inj h
  subst h
  refine ⟨20,?_⟩
  unfold F_q78q
  have hb:=ball_some hg c2
  rw [<- c1] at hb
  simp only [hb,Option.bind_some]
  obtain ⟨j,hj,p1,p2,p3⟩:=find_idx _ _ hany
  have hbl:=ballF_len g.1.toNat g.2.1 c
  obtain ⟨_,_,g8,_⟩:=grB_parts hg
  have hok:=ballF_ok g.1.toNat g.2.1 c.toNat c2
  rw [<- c1] at hok
  have hj:j<(ballF g.1.toNat g.2.1 c).length:=hj
  have p1:chaseP (ballF g.1.toNat g.2.1) T c q (ballF g.1.toNat g.2.1 c)[j]=true:=p1
  have p2:∀i (hi:i<(ballF g.1.toNat g.2.1 c).length),i<j->chaseP (ballF g.1.toNat g.2.1) T c q (ballF g.1.toNat g.2.1 c)[i]=false:=p2
  have p3:(ballF g.1.toNat g.2.1 c).find? (chaseP (ballF g.1.toNat g.2.1) T c q)=some (ballF g.1.toNat g.2.1 c)[j]:=p3
  have ht:1<=tab2 T c q:=ht
  have hbd':=hbd c.toNat q.toNat c2 q2
  have hat:=tab2_at hsq c2 q2
  rw [<- c1,<- q1] at hbd' hat
  have i1:idxIn c T.length=true:=by rw [c1];exact idxIn_nat (by omega)
  have i2:idxIn q (at_ K_Si T c.toNat).length=true:=by rw [q1];exact idxIn_nat (by rw [t2 _ c2];exact q2)
  have hw:IntKind.wrap .i64 (tab2 T c q-1)=tab2 T c q-1:=wrap_in _ (by omega) (by omega)
  have step:∀i (hi:i<(ballF g.1.toNat g.2.1 c).length) f,q78q_l0 20 (f+1) (T,c,q,g,ballF g.1.toNat g.2.1 c,(i:Int),())=if chaseP (ballF g.1.toNat g.2.1) T c q (ballF g.1.toNat g.2.1 c)[i]=true then some (.inl (ballF g.1.toNat g.2.1 c,(i:Int),())) else q78q_l0 20 f (T,c,q,g,ballF g.1.toNat g.2.1 c,((i+1:Nat):Int),()):=by
   intro i hi f
   show q78q_l0_r 20 (q78q_l0 20 f) _=_
   unfold q78q_l0_r
   obtain ⟨y,hy,ey⟩:=hok _ (List.getElem_mem hi)
   have ea:at_ I (ballF g.1.toNat g.2.1 c) i=(y:Int):=(at_get (e:=I) hi).trans ey
   have haf:=after_some hg hT hy q2
   rw [<- q1] at haf
   simp only [idxIn_nat hi,if_true,Int.toNat_natCast,ea,haf,Option.bind_some,i1,i2,hat,hw,wrap_up hi (show (ballF g.1.toNat g.2.1 c).length<=maxLen by unfold maxLen;omega),ey]
   unfold chaseP
   by_cases hh:afterT (ballF g.1.toNat g.2.1) T (y:Int) q=tab2 T c q-1
   ·have a1:decide (afterT (ballF g.1.toNat g.2.1) T (y:Int) q+1=tab2 T c q)=true:=decide_eq_true (by omega)
    have a2:decide (0<=afterT (ballF g.1.toNat g.2.1) T (y:Int) q)=true:=decide_eq_true (by omega)
    have a3:(afterT (ballF g.1.toNat g.2.1) T (y:Int) q != tab2 T c q-1)=false:=by simpa using hh
    simp only [a1,a2,a3,Bool.and_self,Bool.false_eq_true,if_false,if_true]
   ·have a1:decide (afterT (ballF g.1.toNat g.2.1) T (y:Int) q+1=tab2 T c q)=false:=decide_eq_false (by omega)
    have a3:(afterT (ballF g.1.toNat g.2.1) T (y:Int) q != tab2 T c q-1)=true:=by simpa using hh
    simp only [a1,a3,Bool.false_and,Bool.false_eq_true,if_false,if_true]
  have key:∀k i f,i+k=j->k<f->q78q_l0 20 f (T,c,q,g,ballF g.1.toNat g.2.1 c,(i:Int),())=some (.inl (ballF g.1.toNat g.2.1 c,(j:Int),())):=by
   intro k
   induction k with
   | zero=>
    intro i f e1 e2
    obtain ⟨f,rfl⟩:∃m,f=m+1:=⟨f-1,by omega⟩
    have e:i=j:=by omega
    subst e
    rw [step i hj f,if_pos p1]
   | succ k ih=>
    intro i f e1 e2
    obtain ⟨f,rfl⟩:∃m,f=m+1:=⟨f-1,by omega⟩
    have hi:i<(ballF g.1.toNat g.2.1 c).length:=by omega
    rw [step i hi f,if_neg (by rw [p2 i hi (by omega)];simp)]
    exact ih (i+1) f (by omega) (by omega)
  have:=key j 0 20 (by omega) (by omega)
  simp only [Int.natCast_zero] at this
  have ea:at_ I (ballF g.1.toNat g.2.1 c) j=(ballF g.1.toNat g.2.1 c)[j]:=at_get (e:=I) hj
  simp only [this,Option.bind_some,idxIn_nat hj,if_true,Int.toNat_natCast,ea,firstL,p3,Option.getD_some]
 ·cases h
theorem ball_self {n:Nat} (es:List E) {x:Nat} (hx:x<n):(x:Int)∈ballF n es (x:Int):=setF_mem.2 ⟨x,Nat.zero_le _,by omega,by simp,rfl⟩
theorem l3Flee_lim (d) (r) (h:G_l3Flee d=some r):∃N,F_q98q N d=some r:=by
 obtain ⟨g,T,c,q,_⟩:=d
 unfold G_l3Flee at h
 split at h
 ·rename_i hc
  simp only [Bool.and_eq_true] at hc
  obtain ⟨⟨hg,hsq⟩,h2⟩:=hc
  have hsq:sqL g.1.toNat T=true:=hsq
  obtain ⟨c1,c2,q1,q2⟩:=two_parts hg h2
  obtain ⟨t1,t2⟩:=sqL_parts hsq
  have h:=Option.some.inj h
  subst h
  refine ⟨20,?_⟩
  unfold F_q98q
  have hb:=ball_some hg q2
  have hbl:=ballF_len g.1.toNat g.2.1 q
  have hok:=ballF_ok g.1.toNat g.2.1 q.toNat q2
  have hself:=ball_self g.2.1 q2
  rw [<- q1] at hok hself hb
  obtain ⟨_,_,g8,_⟩:=grB_parts hg
  simp only [hb,Option.bind_some]
  show (if idxIn 0 (ballF g.1.toNat g.2.1 q).length=true then _ else none)=some (fleeL (tab2 T c) (ballF g.1.toNat g.2.1 q) ((ballF g.1.toNat g.2.1 q).headD 0),())
  generalize ballF g.1.toNat g.2.1 q=ball at hbl hok hself
  have hlen:0<ball.length:=List.length_pos_of_mem hself
  have h0:idxIn (0:Int) ball.length=true:=idxIn_nat hlen
  have i1:idxIn c T.length=true:=by rw [c1];exact idxIn_nat (by omega)
  have key:∀k i f (b:Nat),i+k=ball.length->k<f->b<g.1.toNat ->
    q98q_l0 20 f (T,c,ball,(b:Int),(i:Int),())=some (.inl (fleeL (tab2 T c) (ball.drop i) (b:Int),()))\/q98q_l0 20 f (T,c,ball,(b:Int),(i:Int),())=some (.inr (.inl (fleeL (tab2 T c) (ball.drop i) (b:Int),()))):=by
   intro k
   induction k with
   | zero=>
    intro i f b e1 e2 e3
    obtain ⟨f,rfl⟩:∃m,f=m+1:=⟨f-1,by omega⟩
    have e:i=ball.length:=by omega
    subst e
    rw [List.drop_of_length_le (Nat.le_refl _)]
    right
    simp [q98q_l0,q98q_l0_r,fleeL]
   | succ k ih=>
    intro i f b e1 e2 e3
    obtain ⟨f,rfl⟩:∃m,f=m+1:=⟨f-1,by omega⟩
    have hi:i<ball.length:=by omega
    obtain ⟨y,hy,ey⟩:=hok _ (List.getElem_mem hi)
    have ea:at_ I ball i=(y:Int):=(at_get (e:=I) hi).trans ey
    have hd:ball.drop i=(y:Int)::ball.drop (i+1):=by rw [List.drop_eq_getElem_cons hi,ey]
    have hv:=tab2_at hsq c2 hy
    have hv2:=tab2_at hsq c2 e3
    rw [<- c1] at hv hv2
    have i2:idxIn (y:Int) (at_ K_Si T c.toNat).length=true:=idxIn_nat (by rw [t2 _ c2];exact hy)
    have i3:idxIn (b:Int) (at_ K_Si T c.toNat).length=true:=idxIn_nat (by rw [t2 _ c2];exact e3)
    have step:q98q_l0 20 (f+1) (T,c,ball,(b:Int),(i:Int),())=if tab2 T c (y:Int)<0 then some (.inl ((y:Int),())) else q98q_l0 20 f (T,c,ball,(if tab2 T c (y:Int)>tab2 T c (b:Int) then (y:Int) else (b:Int)),((i+1:Nat):Int),()):=by
     show q98q_l0_r 20 (q98q_l0 20 f) _=_
     unfold q98q_l0_r
     simp only [lt_dec hi,if_true,i1,idxIn_nat hi,Int.toNat_natCast,ea,i2,i3,hv,hv2,wrap_up hi (show ball.length<=maxLen by unfold maxLen;omega)]
     by_cases hh:tab2 T c (y:Int)<0
     ·simp only [hh,decide_true,if_true]
     ·by_cases hh2:tab2 T c (y:Int)>tab2 T c (b:Int)
      ·simp only [hh,hh2,decide_true,decide_false,if_true,if_false,Bool.false_eq_true]
      ·simp only [hh,hh2,decide_true,decide_false,if_true,if_false,Bool.false_eq_true]
    rw [step,hd]
    simp only [fleeL]
    by_cases hh:tab2 T c (y:Int)<0
    ·rw [if_pos hh,if_pos hh]
     exact .inl rfl
    ·rw [if_neg hh,if_neg hh]
     by_cases hh2:tab2 T c (y:Int)>tab2 T c (b:Int)
     ·rw [if_pos hh2]
      exact ih (i+1) f y (by omega) (by omega) hy
     ·rw [if_neg hh2]
      exact ih (i+1) f b (by omega) (by omega) e3
  obtain ⟨y,hy,ey⟩:=hok _ (List.getElem_mem hlen)
  have ea:at_ I ball 0=(y:Int):=(at_get (e:=I) hlen).trans ey
  have eh:ball.headD 0=(y:Int):=by
   cases ball with
   | nil=>simp at hlen
   | cons z zs=>exact ey
  have:=key ball.length 0 20 y (by omega) (by omega) hy
  simp only [Int.natCast_zero,List.drop_zero] at this
  simp only [h0,if_true,Int.toNat_zero,ea,eh]
  rcases this with h | h
  ·simp only [h,Option.bind_some]
  ·simp only [h,Option.bind_some]
 ·cases h
theorem l9Once_lim (d) (r) (h:G_l9Once d=some r):∃N,F_q104q N d=some r:=by
 obtain ⟨⟨n,es,u⟩,S,sk,_⟩:=d
 unfold G_l9Once at h
 split at h
 ·rename_i hc
  simp only [Bool.and_eq_true,decide_eq_true_eq,Bool.not_eq_true'] at hc
  obtain ⟨⟨hsk,hG⟩,hS⟩:=hc
  have hsk:sk=false:=hsk
  subst hsk
  have hG':=hG
  unfold gOk at hG'
  simp only [Bool.and_eq_true,decide_eq_true_eq] at hG'
  obtain ⟨⟨ho,h0⟩,h8⟩:=hG'
  obtain ⟨a,rfl⟩:=nat_of h0
  have h8:(a:Int)<=8:=h8
  have hS:S.length<=100:=hS
  have hoS:okL S=true:=decide_eq_true (by unfold lim;omega)
  have h:=Option.some.inj h
  subst h
  refine ⟨20,?_⟩
  unfold F_q104q
  have key:∀k x f (o:List Int),x+k=a->k<f->o.length<=100+x ->
    q104q_l0 20 f (S,false,((a:Int),es,u),o,(x:Int),())=some (.inl (onceL es a S k x o,())):=by
   intro k
   induction k with
   | zero=>
    intro x f o e1 e2 e3
    obtain ⟨f,rfl⟩:∃m,f=m+1:=⟨f-1,by omega⟩
    have e:x=a:=by omega
    subst e
    simp [q104q_l0,q104q_l0_r,onceL]
   | succ k ih=>
    intro x f o e1 e2 e3
    obtain ⟨f,rfl⟩:∃m,f=m+1:=⟨f-1,by omega⟩
    have hx:x<a:=by omega
    show q104q_l0_r 20 (q104q_l0 20 f) _=_
    unfold q104q_l0_r
    have hop:F_q93q 0 (((a:Int),es,u),S,(x:Int),())=some (amongL es a S (x:Int),()):=by
     unfold F_q93q G_l5Among
     have e:(gOk ((a:Int),es,u)&&okL S)=true:=by rw [hG,hoS];rfl
     simp only [e,if_true,Option.bind_some,Int.toNat_natCast]
    have hh:G_l1Has (S,(x:Int),())=some (hasL S (x:Int),()):=by unfold G_l1Has hasL;rw [if_pos hoS]
    simp only [lt_dec hx,if_true,hop,Option.bind_some,hh,wrap8 hx (by omega),onceL,Bool.false_eq_true,if_false]
    by_cases c1:(amongL es a S (x:Int)).length=1
    ·have b1:(((amongL es a S (x:Int)).length:Int)==(1:Int))=true:=by simp [c1]
     have i0:idxIn (0:Int) (amongL es a S (x:Int)).length=true:=idxIn_nat (show 0<(amongL es a S (x:Int)).length by omega)
     have ea:at_ I (amongL es a S (x:Int)) (0:Int).toNat=(amongL es a S (x:Int)).headD 0:=by
      generalize amongL es a S (x:Int)=l at c1
      match l,c1 with
      | [z],_=>rfl
     simp only [b1,if_true,i0,ea]
     by_cases c2:hasL S (x:Int)=true
     ·have hp:∀z,G_l1Put (o,z,())=some (putL z o,()):=fun z=>by
       unfold G_l1Put
       rw [if_pos (show okS1 o=true from decide_eq_true (by omega))]
      have hp2:∀z,G_l1PutW (o,z,())=some (putL z o,[],()):=fun z=>by
       unfold G_l1PutW
       rw [if_pos (show okS1 o=true from decide_eq_true (by omega))]
      simp only [c2,if_true,hp,hp2,Option.bind_some,c1,and_self]
      refine ih (x+1) f _ (by omega) (by omega) ?_
      have:=putL_len ((amongL es a S (x:Int)).headD 0) o
      omega
     ·simp only [c2,if_false,and_false,Bool.false_eq_true]
      exact ih (x+1) f _ (by omega) (by omega) (by omega)
    ·have b1:(((amongL es a S (x:Int)).length:Int)==(1:Int))=false:=by
      simp only [beq_eq_false_iff_ne,ne_eq]
      omega
     simp only [b1,Bool.false_eq_true,if_false,c1,false_and]
     exact ih (x+1) f _ (by omega) (by omega) (by omega)
  have:=key a 0 20 S (by omega) (by omega) (by omega)
  simp only [Int.natCast_zero] at this
  simp only [own_some S (by omega),Option.bind_some,this,Int.toNat_natCast]
 ·cases h
end Go.V.W
namespace Go.V.W
open Go.Proofs
theorem bits_xor {a b:Nat} (ha:a<256) (hb:b<256):bits .xor .i64 (a:Int) (b:Int)=((a^^^b:Nat):Int):=by
 have hab:a^^^b<256:=Nat.xor_lt_two_pow (n:=8) ha hb
 have e:(BitVec.ofInt IntKind.i64.bits (a:Int)^^^BitVec.ofInt IntKind.i64.bits (b:Int)).toNat=a^^^b:=by
  show (BitVec.ofInt 64 (a:Int)^^^BitVec.ofInt 64 (b:Int)).toNat=a^^^b
  rw [ofInt_nat,ofInt_nat,BitVec.toNat_xor,BitVec.toNat_ofNat,BitVec.toNat_ofNat,Nat.mod_eq_of_lt (by omega),Nat.mod_eq_of_lt (by omega)]
 unfold bits bitI
 simp only [Option.getD_some]
 rw [e]
 exact wrap_nat (by omega)
theorem bit_255 (i:Nat):(255:Nat).testBit i=decide (i<8):=Nat.testBit_two_pow_sub_one 8 i
theorem bits_andNot {a b:Nat} (ha:a<256) (hb:b<256):bits .andNot .i64 (a:Int) (b:Int)=((a&&&(255^^^b):Nat):Int):=by
 have hab:a&&&(255^^^b)<=a:=Nat.and_le_left
 have e:(BitVec.ofInt IntKind.i64.bits (a:Int) &&& ~~~BitVec.ofInt IntKind.i64.bits (b:Int)).toNat=a&&&(255^^^b):=by
  show (BitVec.ofInt 64 (a:Int) &&& ~~~BitVec.ofInt 64 (b:Int)).toNat=a&&&(255^^^b)
  rw [ofInt_nat,ofInt_nat]
  refine Nat.eq_of_testBit_eq fun i => ?_
  rw [BitVec.testBit_toNat,BitVec.getLsbD_and,BitVec.getLsbD_not,BitVec.getLsbD_ofNat,BitVec.getLsbD_ofNat,Nat.testBit_and,Nat.testBit_xor,bit_255]
  by_cases h:i<8
  ·have h2:i<64:=by omega
   simp [h,h2]
  ·have:a.testBit i=false:=Nat.testBit_lt_two_pow (Nat.lt_of_lt_of_le (show a<2 ^ 8 from ha) (Nat.pow_le_pow_right (by omega) (by omega)))
   simp [this]
 unfold bits bitI
 simp only [Option.getD_some]
 rw [e]
 exact wrap_nat (by omega)
theorem isM_xor {n a:Nat} {p:Nat->Bool} {x:Nat} (hn:n<=8) (hx:x<n) (h:isM n a p):isM n (a^^^2 ^ x) (fun y=>Bool.xor (p y) (decide ((y:Int)=(x:Int)))):=by
 refine ⟨Nat.xor_lt_two_pow (n:=8) h.1 (pow_small (by omega)),fun y => ?_⟩
 rw [Nat.testBit_xor,h.2 y,Nat.testBit_two_pow]
 by_cases e:y=x
 ·subst e;simp [hx]
 ·have e2:¬x=y:=fun h=>e h.symm
  have e3:¬(y:Int)=(x:Int):=by omega
  simp [e,e2,e3]
theorem isM_out {n a:Nat} {p:Nat->Bool} (hn:n<=8) (h:isM n a p):isM n ((2 ^ n-1)&&&(255^^^a)) (fun y => !p y):=by
 refine ⟨Nat.lt_of_le_of_lt Nat.and_le_left (by have:=(all_mask hn).2;omega),fun y => ?_⟩
 rw [Nat.testBit_and,Nat.testBit_xor,Nat.testBit_two_pow_sub_one,bit_255,h.2 y]
 by_cases hy:y<n
 ·have:y<8:=by omega
  simp [hy,this]
 ·simp [hy]
theorem maskN_fold (n:Nat) (hn:n<=8):∀(l:List Int) (s:Nat) (p:Nat->Bool),isM n s p->(∀y∈l,0<=y/\y<=(n:Int)-1)->isM n (l.foldl (fun a x=>a|||2 ^ x.toNat) s) (fun y=>p y||hasL l (y:Int)):=by
 intro l
 induction l with
 | nil=>intro s p h _;exact ⟨h.1,fun y=>by simp [h.2 y,hasL]⟩
 | cons x l ih=>
  intro s p h hl
  have hx:=hl x (by simp)
  rw [List.foldl_cons]
  have h2:isM n (s|||2 ^ x.toNat) (fun y=>p y||(x==(y:Int))):=by
   refine ⟨Nat.or_lt_two_pow (n:=8) h.1 (pow_small (by omega)),fun y => ?_⟩
   rw [Nat.testBit_or,h.2 y,Nat.testBit_two_pow,Bool.eq_iff_iff]
   simp only [Bool.or_eq_true,Bool.and_eq_true,decide_eq_true_eq,beq_iff_eq]
   constructor
   ·rintro (⟨a,b⟩ | a)
    ·exact ⟨a,.inl b⟩
    ·exact ⟨by omega,.inr (by omega)⟩
   ·rintro ⟨a,b | b⟩
    ·exact .inl ⟨a,b⟩
    ·exact .inr (by omega)
  have:=ih _ _ h2 fun y hy=>hl y (by simp [hy])
  refine ⟨this.1,fun y => ?_⟩
  rw [this.2 y]
  simp only [hasL,List.any_cons,Bool.or_assoc]
theorem maskN_isM {n:Nat} (hn:n<=8) {l:List Int} (h:∀y∈l,0<=y/\y<=(n:Int)-1):isM n (maskN l) (fun y=>hasL l (y:Int)):=by
 have:=maskN_fold n hn l 0 (fun _=>false) ⟨by omega,fun y=>by simp⟩ h
 exact ⟨this.1,fun y=>by rw [show maskN l=l.foldl (fun a x=>a|||2 ^ x.toNat) 0 from rfl,this.2 y];rfl⟩
theorem maskOf_l0 (N:Nat) (l:List Int) (hl:l.length<=lim) (hr:∀y∈l,0<=y/\y<=7):∀k i f (s:Nat),i+k=l.length->k<f->s<256 ->
  q91q_l0 N f ((s:Int),l,(l.length:Int),(i:Int),())=some (.inl ((((l.drop i).foldl (fun a x=>a|||2 ^ x.toNat) s:Nat):Int),())):=by
 intro k
 induction k with
 | zero=>
  intro i f s e1 e2 e3
  obtain ⟨f,rfl⟩:∃m,f=m+1:=⟨f-1,by omega⟩
  have e:i=l.length:=by omega
  subst e
  rw [List.drop_of_length_le (Nat.le_refl _)]
  simp [q91q_l0,q91q_l0_r]
 | succ k ih=>
  intro i f s e1 e2 e3
  obtain ⟨f,rfl⟩:∃m,f=m+1:=⟨f-1,by omega⟩
  have hi:i<l.length:=by omega
  have hx:=hr l[i] (List.getElem_mem hi)
  obtain ⟨y,ey⟩:=nat_of hx.1
  have ea:at_ I l i=(y:Int):=(at_get (e:=I) hi).trans ey
  have hy:y<8:=by omega
  show q91q_l0_r N (q91q_l0 N f) _=_
  unfold q91q_l0_r
  simp only [lt_dec hi,if_true,idxIn_nat hi,Int.toNat_natCast,ea,nonneg_dec,shl_one hy,bits_or e3 (pow_small hy),wrap_up hi (lim_max hl)]
  rw [ih (i+1) f _ (by omega) (by omega) (Nat.or_lt_two_pow (n:=8) e3 (pow_small hy)),List.drop_eq_getElem_cons hi,List.foldl_cons,ey,Int.toNat_natCast]
theorem maskOf_lim (d) (r) (h:G_maskOf d=some r):∃N,F_q91q N d=some r:=by
 obtain ⟨l,_⟩:=d
 unfold G_maskOf at h
 split at h
 ·rename_i hc
  simp only [Bool.and_eq_true] at hc
  have h:=Option.some.inj h
  subst h
  refine ⟨l.length+1,?_⟩
  unfold F_q91q
  have:=maskOf_l0 (l.length+1) l (okL_lim hc.1) (fun y hy=>inB_iff.1 (List.all_eq_true.1 hc.2 y hy)) l.length 0 (l.length+1) 0 (by omega) (by omega) (by omega)
  simp only [Int.natCast_zero,List.drop_zero] at this
  simp only [this,Option.bind_some]
  rfl
 ·cases h
theorem forced_lim (d) (r) (h:G_forced d=some r):∃N,F_q30q N d=some r:=by
 obtain ⟨⟨l,u⟩,s,sk,_⟩:=d
 unfold G_forced at h
 split at h
 ·rename_i hc
  simp only [Bool.and_eq_true,Bool.not_eq_true'] at hc
  obtain ⟨⟨hl,hs⟩,hsk⟩:=hc
  have hsk:sk=false:=hsk
  subst hsk
  obtain ⟨e,hm,h8⟩:=smallN_nat hl
  have hs:=inB_iff.1 hs
  obtain ⟨b,rfl⟩:=nat_of hs.1
  have hb:b<256:=by
   have:(b:Int)<=255:=hs.2
   omega
  have h:=Option.some.inj h
  subst h
  refine ⟨20,?_⟩
  unfold F_q30q
  have key:∀k x f (o:Nat),x+k=l.length->k<f->o<256 ->
    q30q_l0 20 f ((b:Int),false,(o:Int),l,(l.length:Int),(x:Int),())=some (.inl ((forceN (fromI l) b k x o:Int),())):=by
   intro k
   induction k with
   | zero=>
    intro x f o e1 e2 e3
    obtain ⟨f,rfl⟩:∃m,f=m+1:=⟨f-1,by omega⟩
    have e:x=l.length:=by omega
    subst e
    simp [q30q_l0,q30q_l0_r,forceN]
   | succ k ih=>
    intro x f o e1 e2 e3
    obtain ⟨f,rfl⟩:∃m,f=m+1:=⟨f-1,by omega⟩
    have hx:x<l.length:=by omega
    have ea:at_ I l x=(((fromI l).getD x 0:Nat):Int):=by
     have:=at_toI (fromI l) x
     rw [<- e] at this
     exact this
    have hm1:=hm.2 x
    generalize hg:(fromI l).getD x 0=v at ea hm1
    have hlt:v&&&(255^^^b)<256:=Nat.lt_of_le_of_lt Nat.and_le_left hm1
    show q30q_l0_r 20 (q30q_l0 20 f) _=_
    unfold q30q_l0_r
    simp only [lt_dec hx,if_true,idxIn_nat hx,Int.toNat_natCast,ea,bits_andNot hm1 hb,Bool.false_eq_true,if_false,nonneg_dec,has_bit hb (show x<8 by omega),wrap8 hx h8,forceN,hg]
    generalize v&&&(255^^^b)=z at hlt
    by_cases c1:b.testBit x=true
    ·simp only [c1,if_true,true_and]
     by_cases c2:z=0
     ·subst c2
      have b1:(((0:Nat):Int) != (0:Int))=false:=by simp
      simp only [b1,Bool.false_eq_true,if_false,ne_eq,not_true,false_and]
      exact ih (x+1) f o (by omega) (by omega) e3
     ·have b1:((z:Int) != (0:Int))=true:=by simp;omega
      have w1:IntKind.wrap .i64 ((z:Int)-1)=((z-1:Nat):Int):=by
       rw [wrap_in _ (by omega) (by omega)]
       omega
      simp only [b1,if_true,w1,bits_and hlt (show z-1<256 by omega),ne_eq,c2,not_false_eq_true,true_and]
      by_cases c3:z&&&(z-1)=0
      ·have b2:(((z&&&(z-1):Nat):Int)==(0:Int))=true:=by rw [c3];rfl
       simp only [b2,if_true,c3,bits_or e3 hlt]
       exact ih (x+1) f _ (by omega) (by omega) (Nat.or_lt_two_pow (n:=8) e3 hlt)
      ·have b2:(((z&&&(z-1):Nat):Int)==(0:Int))=false:=by
        simp only [beq_eq_false_iff_ne,ne_eq]
        omega
       simp only [b2,Bool.false_eq_true,if_false,c3]
       exact ih (x+1) f o (by omega) (by omega) e3
    ·simp only [c1,Bool.false_eq_true,if_false,false_and]
     exact ih (x+1) f o (by omega) (by omega) e3
  have:=key l.length 0 20 b (by omega) (by omega) hb
  simp only [Int.natCast_zero] at this
  simp only [this,Option.bind_some,Int.toNat_natCast]
 ·cases h
theorem atS_at (S:List Int) (i:Nat):at_ I S i=atS S i:=rfl
theorem atS_get {S:List Int} {i:Nat} (h:i<S.length):atS S i=S[i]:=by unfold atS;simp [List.getD_eq_getElem?_getD,h]
theorem indV {l:List Int} (hl:smallN l=true) {S:List Int} (hS:S.all (inB 0 ((l.length:Int)-1))=true) (u v w z:Unit) {x y:Nat} (hx:x<S.length) (hy:y<S.length) :
  FV_q14q ((x:Int),(y:Int),(u,(l,v),S,w),z)=some (hasN (fromI l) (atS S x).toNat (atS S y).toNat,()):=by
 obtain ⟨e,hm,h8⟩:=smallN_nat hl
 unfold FV_q14q F_q14q F_q63q
 obtain ⟨a1,a2⟩:=inB_len (List.all_eq_true.1 hS _ (List.getElem_mem hx))
 obtain ⟨b1,b2⟩:=inB_len (List.all_eq_true.1 hS _ (List.getElem_mem hy))
 rw [<- atS_get hx] at a1 a2
 rw [<- atS_get hy] at b1 b2
 generalize (atS S x).toNat=p at a1 a2
 generalize (atS S y).toNat=q at b1 b2
 have ea:at_ I l p=(((fromI l).getD p 0:Nat):Int):=by
  have:=at_toI (fromI l) p
  rw [<- e] at this
  exact this
 simp only [idxIn_nat hx,idxIn_nat hy,if_true,Int.toNat_natCast,atS_at,a1,b1,idxIn_nat a2,nonneg_dec,ea,has_bit (hm.2 p) (show q<8 by omega),Option.bind_some]
 rfl
theorem graphInd_l2 (N:Nat) {l:List Int} (hl:smallN l=true) {S:List Int} (hS:S.all (inB 0 ((l.length:Int)-1))=true) (h8:S.length<=8) (u v w:Unit) (z:Gr) (n':Int) (x:Nat) (hx:x<S.length) (s10 s11:Int):∀k y f (A:List E),y+k=S.length->k<f->A.length+k<=1000 ->
  q2q_l2 N f ((S.length:Int),(u,(l,v),S,w),z,(n',A,()),(x:Int),(y:Int),s10,s11,())=some (.inl ((S.length:Int),(u,(l,v),S,w),z,(n',A++rowE (fun i k=>hasN (fromI l) (atS S i).toNat (atS S k).toNat) x k y,()),s10,s11,())):=by
 intro k
 induction k with
 | zero=>
  intro y f A h1 h2 h3
  obtain ⟨f,rfl⟩:∃m,f=m+1:=⟨f-1,by omega⟩
  have e:y=S.length:=by omega
  subst e
  simp [q2q_l2,q2q_l2_r,rowE]
 | succ k ih=>
  intro y f A h1 h2 h3
  obtain ⟨f,rfl⟩:∃m,f=m+1:=⟨f-1,by omega⟩
  have hy:y<S.length:=by omega
  show q2q_l2_r N (q2q_l2 N f) _=_
  unfold q2q_l2_r
  have hle:decide (A.length+List.length [(((x:Int),(y:Int),()):E)]<=lim)=true:=by
   unfold lim
   simp
   omega
  simp only [lt_dec hy,if_true,indV hl hS u v w () hx hy,Option.bind_some,hle,wrap8 hy h8]
  unfold rowE
  by_cases hh:hasN (fromI l) (atS S x).toNat (atS S y).toNat=true
  ·rw [if_pos hh,if_pos hh,ih (y+1) f _ (by omega) (by omega) (by simp;omega)]
   simp
  ·rw [if_neg hh,if_neg hh]
   exact ih (y+1) f A (by omega) (by omega) (by omega)
theorem graphInd_l0 (N:Nat) (hN:9<=N) {l:List Int} (hl:smallN l=true) {S:List Int} (hS:S.all (inB 0 ((l.length:Int)-1))=true) (h8:S.length<=8) (u v w:Unit) (z:Gr) (n':Int):∀k x f (A:List E),x+k=S.length->k<f->A.length+10*k<=900 ->
  q2q_l0 N f ((S.length:Int),(u,(l,v),S,w),z,(n',A,()),(S.length:Int),(x:Int),())=some (.inl (z,(n',A++allE (fun i k=>hasN (fromI l) (atS S i).toNat (atS S k).toNat) S.length k x,()),())):=by
 intro k
 induction k with
 | zero=>
  intro x f A h1 h2 h3
  obtain ⟨f,rfl⟩:∃m,f=m+1:=⟨f-1,by omega⟩
  have e:x=S.length:=by omega
  subst e
  simp [q2q_l0,q2q_l0_r,allE]
 | succ k ih=>
  intro x f A h1 h2 h3
  obtain ⟨f,rfl⟩:∃m,f=m+1:=⟨f-1,by omega⟩
  have hx:x<S.length:=by omega
  show q2q_l0_r N (q2q_l0 N f) _=_
  unfold q2q_l0_r
  have hin:=graphInd_l2 N hl hS h8 u v w z n' x hx (S.length:Int) (x:Int) (S.length-(x+1)) (x+1) N A (by omega) (by omega) (by omega)
  simp only [lt_dec hx,if_true,wrap8 hx h8,hin,Option.bind_some]
  have:=rowE_len (p:=fun i k=>hasN (fromI l) (atS S i).toNat (atS S k).toNat) (x:=x) (m:=S.length-(x+1)) (y:=x+1)
  rw [ih (x+1) f _ (by omega) (by omega) (by simp;omega)]
  simp [allE]
theorem graphByInd_lim (d) (r) (h:G_graphByInd d=some r):∃N,F_q2q N d=some r:=by
 obtain ⟨n',⟨u,⟨l,v⟩,S,w⟩,_⟩:=d
 unfold G_graphByInd at h
 split at h
 ·rename_i hc
  simp only [Bool.and_eq_true,decide_eq_true_eq] at hc
  obtain ⟨⟨⟨hl,hS⟩,hn⟩,h8⟩:=hc
  have hn:n'=(S.length:Int):=hn
  subst hn
  have h:=Option.some.inj h
  subst h
  refine ⟨20,?_⟩
  unfold F_q2q
  have:=graphInd_l0 20 (by omega) hl hS h8 u v w (0,[],()) (S.length:Int) S.length 0 20 [] (by omega) (by omega) (by simp;omega)
  simp only [Int.natCast_zero,List.nil_append] at this
  simp only [this,Option.bind_some]
  rfl
 ·cases h
theorem has_nodes (n:Int) (es:List E) (v u:Unit) (l:List Int) (ho:okL es=true) (hl:okL l=true):F_q61q 0 ((n,es,v),l,u)=some (graphB (n,es,v)&&l.all (inB 0 (n-1)),()):=by
 unfold F_q61q G_graph G_allWithin
 simp only [ho,hl,if_true,Option.bind_some]
 cases hg:graphB (n,es,v) with
 | false=>rfl
 | true=>
  have:=graphB_n hg
  have hw:IntKind.wrap .i64 (n-1)=n-1:=wrap_in _ (by omega) (by omega)
  simp only [if_true,hw,Bool.true_and,Option.bind_some]
theorem net_some {n:Nat} {es:List E} {v u:Unit} (hg:graphB ((n:Int),es,v)=true) (ho:okL es=true):G_netOf (((n:Int),es,v),u)=some ((toI (netN n es),()),()):=by
 obtain ⟨h0,h8⟩:=graphB_n hg
 obtain ⟨g1,g2⟩:=graphB_edges hg
 unfold G_netOf
 have a1:(decide (0<=(n:Int))&&decide ((n:Int)<=8)&&okL es&&es.all (edgeB (n:Int)))=true:=by simp only [h0,h8,ho,g1,decide_true,Bool.and_self]
 simp only [a1,if_true,Int.toNat_natCast]
theorem all_net {n:Nat} (hn:n<=8) {es:List E} (h:es.all (edgeB (n:Int))=true) (u v:Unit):F_q64q 0 ((toI (netN n es),u),v)=some (((2 ^ n-1:Nat):Int),()):=by
 unfold F_q64q
 have hl:(toI (netN n es)).length=n:=(netB_net hn h).2
 simp only [hl,nonneg_dec,if_true,(all_mask hn).1]
theorem allE_congr {p q:Nat->Nat->Bool} {n:Nat} (h:∀x y,x<n->y<n->p x y=q x y):allE p n n 0=allE q n n 0:=by
 refine sorted_ext allE_pair allE_pair fun e => ?_
 rw [allE_mem,allE_mem]
 constructor
 ·rintro ⟨u,z,h1,h2,h3,h4,h5,h6⟩
  exact ⟨u,z,h1,h2,h3,h4,by rw [<- h u z (by omega) h4];exact h5,h6⟩
 ·rintro ⟨u,z,h1,h2,h3,h4,h5,h6⟩
  exact ⟨u,z,h1,h2,h3,h4,by rw [h u z (by omega) h4];exact h5,h6⟩
theorem hasN_near {n:Nat} (hn:n<=8) {es:List E} (h:es.all (edgeB (n:Int))=true) (x y:Nat):hasN (netN n es) x y=nearI es (x:Int) (y:Int):=by rw [netN_bit hn h,isE_near es h]
theorem ind_same {n:Nat} (hn:n<=8) {es:List E} (h:es.all (edgeB (n:Int))=true) {S:List Int} (hS:∀z∈S,∃y:Nat,y<n/\z=(y:Int)):indE (fun a b=>hasN (netN n es) a.toNat b.toNat) S=indE (nearI es) S:=by
 unfold indE
 refine allE_congr fun x y hx hy => ?_
 obtain ⟨a,_,ea⟩:=hS _ (List.getElem_mem hx)
 obtain ⟨b,_,eb⟩:=hS _ (List.getElem_mem hy)
 rw [<- atS_get hx] at ea
 rw [<- atS_get hy] at eb
 show hasN (netN n es) (atS S x).toNat (atS S y).toNat=nearI es (atS S x) (atS S y)
 rw [ea,eb,hasN_near hn h]
 rfl
theorem remove_some {n:Nat} {es:List E} {v:Unit} (hg:graphB ((n:Int),es,v)=true) (ho:okL es=true) (x:Int) (u:Unit) :
  F_q28q 0 (((n:Int),es,v),x,u)=some (if inB 0 ((n:Int)-1) x=true then (dropG ((n:Int),es,v) x,true,()) else ((0,[],()),false,())):=by
 obtain ⟨h0,h8⟩:=graphB_n hg
 obtain ⟨g1,g2⟩:=graphB_edges hg
 have hn:n<=8:=by omega
 unfold F_q28q
 have hN:=has_nodes (n:Int) es v () [x] ho (decide_eq_true (by unfold lim;simp))
 rw [hg] at hN
 simp only [hN,Option.bind_some,List.all_cons,List.all_nil,Bool.and_true,Bool.true_and]
 cases hx:inB 0 ((n:Int)-1) x with
 | false=>rfl
 | true=>
  have hx':=inB_iff.1 hx
  obtain ⟨y,rfl⟩:=nat_of hx'.1
  have hy:y<n:=by omega
  have hm:=isM_out hn (one_isM hn hy)
  have hset:G_setOf ((((2 ^ n-1)&&&(255^^^2 ^ y):Nat):Int),())=some (setF (fun z => !decide ((z:Int)=(y:Int))) n 0,()):=by
   unfold G_setOf
   have b2:decide ((((2 ^ n-1)&&&(255^^^2 ^ y):Nat):Int)<256)=true:=by
    have:=hm.1
    simp only [decide_eq_true_eq]
    omega
   simp only [nonneg_dec,b2,Bool.and_self,if_true,Int.toNat_natCast]
   rw [setF_mask hn hm]
  have hlen:=setF_len (p:=fun z => !decide ((z:Int)=(y:Int))) (k:=n) (x:=0)
  have hnt:=(netB_net hn g1).2
  have hind:F_q24q 0 ((toI (netN n es),()),setF (fun z => !decide ((z:Int)=(y:Int))) n 0,())=some (dropG ((n:Int),es,v) (y:Int),()):=by
   unfold F_q24q G_graphByInd
   have hall:(setF (fun z => !decide ((z:Int)=(y:Int))) n 0).all (inB 0 (((toI (netN n es)).length:Int)-1))=true:=List.all_eq_true.2 fun z hz=>by
    obtain ⟨a,ha,rfl⟩:=setF_nat z hz
    rw [hnt]
    exact inB_iff.2 (by omega)
   have e8:decide ((setF (fun z => !decide ((z:Int)=(y:Int))) n 0).length<=8)=true:=decide_eq_true (by omega)
   simp only [small_toI (netN_ok hn g1) hn,hall,decide_true,e8,Bool.and_self,if_true,Option.bind_some,toI_from,ind_same hn g1 (setF_nat (p:=fun z => !decide ((z:Int)=(y:Int))))]
   rfl
  have m256:=(all_mask hn).2
  simp only [Bool.not_true,Bool.false_eq_true,if_false,net_some hg ho,Option.bind_some,all_net hn g1,nonneg_dec,if_true,shl_one (show y<8 by omega),bits_andNot (show 2 ^ n-1<256 by omega) (pow_small (show y<8 by omega)),hset,hind]
theorem drop_l0 (N:Nat) (x:Int) (g:Gr) (p q:Int) (m:List Int) (tu:Int×Unit) (n:Int) (n8:n<=8) (hmm:∀y∈m,0<=y/\y<=n-1) (hml:m.length<=lim) :
  q56q_l0 N (m.length+1) ((g,p,q,m,tu),x,[],(m.length:Int),0,(),())=some (.inl ((g,p,q,m,tu),dropM m x,())):=by
 have:=loop_keep (L:=q56q_l0 N) (r:=q56q_l0_r N) (fun _ _=>rfl) m (mk:=fun i A=>((g,p,q,m,tu),x,A,(m.length:Int),(i:Int),(),())) (f:=fun y=>if (y != x)=true then [lessN y x] else []) (o:=fun A=>.inl ((g,p,q,m,tu),A,())) (fun x=>one_len) (by
   intro back i hi A hA
   unfold q56q_l0_r
   have hle:∀z:Int,decide (A.length+List.length [z]<=lim)=true:=fun z=>by simp;omega
   have e:at_ I m i=m[i]:=at_get (e:=I) hi
   have hb:=hmm m[i] (List.getElem_mem hi)
   have hw:IntKind.wrap .i64 (m[i]-1)=m[i]-1:=wrap_in _ (by omega) (by omega)
   simp only [lt_dec hi,if_true,idxIn_nat hi,Int.toNat_natCast,e,hle,wrap_up hi (lim_max hml),hw]
   unfold lessN
   by_cases c1:m[i]<x
   ·have c2:(m[i] != x)=true:=by simp;omega
    have c3:¬m[i]>x:=by omega
    simp only [c1,c2,c3,decide_true,if_true,if_false]
   ·by_cases c3:m[i]>x
    ·have c2:(m[i] != x)=true:=by simp;omega
     simp only [c1,c2,c3,decide_true,decide_false,Bool.false_eq_true,if_true,if_false]
    ·have c2:(m[i] != x)=false:=by
      simp only [bne_eq_false_iff_eq]
      omega
     simp only [c1,c2,c3,decide_false,Bool.false_eq_true,if_false,List.append_nil])
  (by
   intro back A hA
   unfold q56q_l0_r
   simp only [lt_not,Bool.false_eq_true,if_false]) m.length (Nat.le_refl _)
 rw [flat_filterMap] at this
 simp only [Int.natCast_zero] at this
 exact this
theorem dropNode_lim (d) (r) (h:G_dropNode d=some r):∃N,F_q56q N d=some r:=by
 obtain ⟨⟨⟨n,es,v⟩,p,q,m,t,u⟩,x,_⟩:=d
 unfold G_dropNode at h
 split at h
 ·rename_i hw
  obtain ⟨hg,n0,n8,hp,hq,hmm,hr,ht,le1,le2,ho,hm⟩:=okW_parts hw
  have h:=Option.some.inj h
  subst h
  obtain ⟨a,rfl⟩:=nat_of n0
  refine ⟨m.length+1,?_⟩
  unfold F_q56q dropB
  simp only [remove_some hg ho,Option.bind_some]
  cases hx:inB 0 ((a:Int)-1) x with
  | false=>rfl
  | true=>
   simp only [if_true,Bool.not_true,Bool.false_eq_true,if_false,Bool.true_and]
   cases c1:p==x with
   | true=>rfl
   | false=>
    cases c2:q==x with
    | true=>rfl
    | false=>
     have hl:=fun p' q'=>drop_l0 (m.length+1) x (dropG ((a:Int),es,v) x) p' q' m (t,u) (a:Int) n8 hmm (okL_lim hm)
     have w1:IntKind.wrap .i64 (p-1)=p-1:=wrap_in _ (by omega) (by omega)
     have w2:IntKind.wrap .i64 (q-1)=q-1:=wrap_in _ (by omega) (by omega)
     simp only [Bool.not_false,Bool.and_self,if_true,Bool.false_eq_true,if_false,w1,w2,dropW]
     by_cases d1:p>x
     ·by_cases d2:q>x
      ·have e1:lessN p x=p-1:=if_pos d1
       have e2:lessN q x=q-1:=if_pos d2
       simp only [d1,d2,decide_true,if_true,hl,Option.bind_some,e1,e2]
      ·have e1:lessN p x=p-1:=if_pos d1
       have e2:lessN q x=q:=if_neg d2
       simp only [d1,d2,decide_true,decide_false,if_true,Bool.false_eq_true,if_false,hl,Option.bind_some,e1,e2]
     ·by_cases d2:q>x
      ·have e1:lessN p x=p:=if_neg d1
       have e2:lessN q x=q-1:=if_pos d2
       simp only [d1,d2,decide_true,decide_false,if_true,Bool.false_eq_true,if_false,hl,Option.bind_some,e1,e2]
      ·have e1:lessN p x=p:=if_neg d1
       have e2:lessN q x=q:=if_neg d2
       simp only [d1,d2,decide_false,Bool.false_eq_true,if_false,hl,Option.bind_some,e1,e2]
 ·cases h
theorem after_bound {n:Nat} {T:Tab} (hT:sqB n T=true) {ball:Int->List Int} (hb:okBall n ball) {b r:Nat} (hbn:b<n) (hr:r<n) : -1<=afterT ball T (b:Int) (r:Int)/\afterT ball T (b:Int) (r:Int)<=1000:=by
 obtain ⟨hsq,hbd⟩:=sqB_bound hT
 unfold afterT
 split
 ·omega
 ·rcases worst_spec (tab2 T (b:Int)) (ball (r:Int)) 0 with ⟨_,h⟩ | ⟨_,h0,h | ⟨x,hx,h⟩⟩
  ·omega
  ·omega
  ·obtain ⟨y,hy,rfl⟩:=hb r hr x hx
   have:=hbd b y hbn hy
   omega
theorem time_row {l:List Int} (hn:netB l=true) (u:Unit) {T:Tab} (hT:sqL l.length T=true) {b q:Nat} (hb:b<l.length) (hq:q<l.length) (hbq:¬(b:Int)=(q:Int)):G_timeAfter ((l,u),at_ K_Si T b,(q:Int),())=some (afterT (ballM l) T (b:Int) (q:Int),()):=by
 obtain ⟨t1,t2⟩:=sqL_parts hT
 have i2:inB 0 ((l.length:Int)-1) (q:Int)=true:=inB_iff.2 (by omega)
 have hlen:decide ((at_ K_Si T b).length=l.length)=true:=decide_eq_true (t2 b hb)
 unfold G_timeAfter afterT
 simp only [hn,hlen,i2,Bool.and_self,if_true,hbq,if_false]
 have hw:worstL (fun z=>(at_ K_Si T b).getD z.toNat 0) (ballM l (q:Int)) 0=worstL (tab2 T (b:Int)) (ballM l (q:Int)) 0:=worst_congr fun z hz=>by
  have hlt:b<T.length:=by omega
  have ea:at_ K_Si T b=T[b]:=at_get (e:=K_Si) hlt
  unfold tab2
  simp only [ea,Int.toNat_natCast,List.getD_eq_getElem?_getD,List.getElem?_eq_getElem hlt,Option.getD_some]
 rw [hw]
theorem copMove_lim (d) (r) (h:G_copMove d=some r):∃N,F_q25q N d=some r:=by
 obtain ⟨⟨l,u⟩,T,c,q,_⟩:=d
 unfold G_copMove at h
 split at h
 ·rename_i hc
  simp only [Bool.and_eq_true] at hc
  obtain ⟨⟨⟨hn,hT⟩,hc⟩,hq⟩:=hc
  have hT:sqB l.length T=true:=hT
  obtain ⟨c1,c2⟩:=inB_len hc
  obtain ⟨q1,q2⟩:=inB_len hq
  obtain ⟨hsq,hbd⟩:=sqB_bound hT
  obtain ⟨t1,t2⟩:=sqL_parts hsq
  have h:=Option.some.inj h
  subst h
  refine ⟨20,?_⟩
  unfold F_q25q
  have hcl:=closedM hn u c2
  have hst:=setOfM hn c2
  have hok:=ballM_ok hn
  have hokc:=hok c.toNat c2
  have hbl:=ballM_len l c
  have hat:=tab2_at hsq c2 q2
  rw [<- c1] at hcl hst hokc hat
  rw [<- q1] at hat
  have i1:idxIn c T.length=true:=by rw [c1];exact idxIn_nat (by omega)
  have i2:idxIn q (at_ K_Si T c.toNat).length=true:=by rw [q1];exact idxIn_nat (by rw [t2 _ c2];exact q2)
  simp only [hcl,hst,Option.bind_some]
  have key:∀k i f,i+k=(ballM l c).length->k<f->q25q_l0 20 f (T,c,q,(l,u),ballM l c,((ballM l c).length:Int),(i:Int),())=some (match ((ballM l c).drop i).find? (chaseP (ballM l) T c q) with | some b=>.inl (b,()) | none=>.inr (.inl (c,()))):=by
   intro k
   induction k with
   | zero=>
    intro i f e1 e2
    obtain ⟨f,rfl⟩:∃m,f=m+1:=⟨f-1,by omega⟩
    have e:i=(ballM l c).length:=by omega
    subst e
    rw [List.drop_of_length_le (Nat.le_refl _)]
    simp [q25q_l0,q25q_l0_r]
   | succ k ih=>
    intro i f e1 e2
    obtain ⟨f,rfl⟩:∃m,f=m+1:=⟨f-1,by omega⟩
    have hi:i<(ballM l c).length:=by omega
    obtain ⟨y,hy,ey⟩:=hokc _ (List.getElem_mem hi)
    have ea:at_ I (ballM l c) i=(y:Int):=(at_get (e:=I) hi).trans ey
    have hd:(ballM l c).drop i=(y:Int)::(ballM l c).drop (i+1):=by rw [List.drop_eq_getElem_cons hi,ey]
    have ih':=ih (i+1) f (by omega) (by omega)
    show q25q_l0_r 20 (q25q_l0 20 f) _=_
    unfold q25q_l0_r
    rw [hd,List.find?_cons]
    have iy:idxIn (y:Int) T.length=true:=idxIn_nat (by omega)
    simp only [lt_dec hi,if_true,idxIn_nat hi,Int.toNat_natCast,ea,iy,i1,i2,hat,wrap_up hi (show (ballM l c).length<=maxLen by unfold maxLen;omega)]
    by_cases hyq:(y:Int)=q
    ·have b1:((y:Int) != q)=false:=by simpa using hyq
     have ha:afterT (ballM l) T (y:Int) q=0:=if_pos hyq
     simp only [b1,Bool.false_eq_true,if_false]
     unfold chaseP
     rw [ha]
     by_cases ht:(1:Int)=tab2 T c q
     ·have b2:((1:Int)==tab2 T c q)=true:=by simpa using ht
      have b3:(decide ((0:Int)+1=tab2 T c q)&&decide ((0:Int)<=0))=true:=by simpa using ht
      simp only [b2,if_true,b3]
      rfl
     ·have b2:((1:Int)==tab2 T c q)=false:=by simpa using ht
      have b3:(decide ((0:Int)+1=tab2 T c q)&&decide ((0:Int)<=0))=false:=by simpa using ht
      simp only [b2,Bool.false_eq_true,if_false,b3]
      exact ih'
    ·have b1:((y:Int) != q)=true:=by simpa using hyq
     have hyq':¬(y:Int)=((q.toNat:Nat):Int):=by rw [<- q1];exact hyq
     have htm:=time_row hn u hsq hy q2 hyq'
     obtain ⟨a1,a2⟩:=after_bound hT hok hy q2
     rw [<- q1] at htm a1 a2
     have hw:IntKind.wrap .i64 (afterT (ballM l) T (y:Int) q+1)=afterT (ballM l) T (y:Int) q+1:=wrap_in _ (by omega) (by omega)
     simp only [b1,if_true,htm,Option.bind_some,hw]
     unfold chaseP
     by_cases ht:afterT (ballM l) T (y:Int) q+1=tab2 T c q
     ·simp only [ht,beq_self_eq_true,if_true,decide_true,Bool.true_and]
      by_cases h0:0<=afterT (ballM l) T (y:Int) q
      ·have b3:decide (tab2 T c q>0)=true:=decide_eq_true (by omega)
       simp only [b3,h0,decide_true,if_true]
      ·have b3:decide (tab2 T c q>0)=false:=decide_eq_false (by omega)
       simp only [b3,h0,decide_false,Bool.false_eq_true,if_false]
       exact ih'
     ·have b2:(afterT (ballM l) T (y:Int) q+1==tab2 T c q)=false:=by simpa using ht
      simp only [b2,Bool.false_eq_true,if_false,ht,decide_false,Bool.false_and]
      exact ih'
  have:=key (ballM l c).length 0 20 (by omega) (by omega)
  simp only [Int.natCast_zero,List.drop_zero] at this
  rw [this]
  show _=some (firstL (chaseP (ballM l) T c q) (ballM l c) c,())
  unfold firstL
  cases (ballM l c).find? (chaseP (ballM l) T c q)<;>rfl
 ·cases h
theorem ballM_self {l:List Int} (hn:netB l=true) {x:Nat} (hx:x<l.length):(x:Int)∈ballM l (x:Int):=by
 obtain ⟨_,_,h8,_⟩:=netB_parts hn
 refine setF_mem.2 ⟨x,Nat.zero_le _,by omega,?_,rfl⟩
 rw [Int.toNat_natCast,Nat.testBit_or,Nat.testBit_two_pow]
 simp
theorem robberMove_lim (d) (r) (h:G_robberMove d=some r):∃N,F_q10q N d=some r:=by
 obtain ⟨⟨l,u⟩,row,q,_⟩:=d
 unfold G_robberMove at h
 split at h
 ·rename_i hc
  simp only [Bool.and_eq_true,decide_eq_true_eq] at hc
  obtain ⟨⟨hn,hrow⟩,hq⟩:=hc
  have hrow:row.length=l.length:=hrow
  obtain ⟨q1,q2⟩:=inB_len hq
  have h:=Option.some.inj h
  subst h
  refine ⟨20,?_⟩
  unfold F_q10q
  have hcl:=closedM hn u q2
  have hst:=setOfM hn q2
  have hok:=ballM_ok hn q.toNat q2
  have hself:=ballM_self hn q2
  have hbl:=ballM_len l q
  rw [<- q1] at hcl hst hok hself
  simp only [hcl,hst,Option.bind_some]
  show (if idxIn 0 (ballM l q).length=true then _ else none)=some (robL (rowI row) (ballM l q).tail ((ballM l q).headD 0),())
  generalize ballM l q=ball at hok hself hbl
  match ball,hself,hok,hbl with
  | h0::tl,_,hok,hbl=>
   obtain ⟨y0,hy0,rfl⟩:=hok h0 (by simp)
   have i0:idxIn (0:Int) ((y0:Int)::tl).length=true:=idxIn_nat (show 0<((y0:Int)::tl).length by simp)
   have c1:(decide (0<=(1:Int))&&decide ((1:Int)<=(((y0:Int)::tl).length:Int))&&decide ((((y0:Int)::tl).length:Int)<=(((y0:Int)::tl).length:Int)))=true:=by simp;omega
   have s1:sub_ ((y0:Int)::tl) 1 (((y0:Int)::tl).length:Int)=tl:=by unfold sub_;simp
   have ea0:at_ I ((y0:Int)::tl) (0:Int).toNat=(y0:Int):=rfl
   have htl:tl.length<=8:=by simp at hbl;omega
   have rv:∀y:Nat,y<l.length->at_ I row y=rowI row (y:Int):=fun y hy=>rfl
   have key:∀k i f (b:Nat),i+k=tl.length->k<f->b<l.length->q10q_l0 20 f (row,(b:Int),tl,(tl.length:Int),(i:Int),())=some (.inl (robL (rowI row) (tl.drop i) (b:Int),())):=by
    intro k
    induction k with
    | zero=>
     intro i f b e1 e2 e3
     obtain ⟨f,rfl⟩:∃m,f=m+1:=⟨f-1,by omega⟩
     have e:i=tl.length:=by omega
     subst e
     rw [List.drop_of_length_le (Nat.le_refl _)]
     simp [q10q_l0,q10q_l0_r,robL]
    | succ k ih=>
     intro i f b e1 e2 e3
     obtain ⟨f,rfl⟩:∃m,f=m+1:=⟨f-1,by omega⟩
     have hi:i<tl.length:=by omega
     obtain ⟨y,hy,ey⟩:=hok tl[i] (List.mem_cons_of_mem _ (List.getElem_mem hi))
     have ea:at_ I tl i=(y:Int):=(at_get (e:=I) hi).trans ey
     have hd:tl.drop i=(y:Int)::tl.drop (i+1):=by rw [List.drop_eq_getElem_cons hi,ey]
     have i2:idxIn (y:Int) row.length=true:=idxIn_nat (by omega)
     have i3:idxIn (b:Int) row.length=true:=idxIn_nat (by omega)
     show q10q_l0_r 20 (q10q_l0 20 f) _=_
     unfold q10q_l0_r
     rw [hd]
     simp only [lt_dec hi,if_true,idxIn_nat hi,Int.toNat_natCast,ea,i2,i3,rv y hy,rv b e3,wrap_up hi (show tl.length<=maxLen by unfold maxLen;omega),robL]
     by_cases d1:0<=rowI row (b:Int)
     ·have d1':decide (rowI row (b:Int)>=0)=true:=decide_eq_true d1
      by_cases d2:rowI row (y:Int)<0
      ·simp only [d1,d1',d2,decide_true,if_true,true_or,and_self]
       exact ih (i+1) f y (by omega) (by omega) hy
      ·by_cases d3:rowI row (y:Int)>rowI row (b:Int)
       ·simp only [d1,d1',d2,d3,decide_true,decide_false,Bool.false_eq_true,if_true,if_false,or_true,and_self]
        exact ih (i+1) f y (by omega) (by omega) hy
       ·simp only [d1,d1',d2,d3,decide_true,decide_false,Bool.false_eq_true,if_true,if_false,or_self,and_false]
        exact ih (i+1) f b (by omega) (by omega) e3
     ·have d1':decide (rowI row (b:Int)>=0)=false:=decide_eq_false d1
      simp only [d1,d1',Bool.false_eq_true,if_false,false_and]
      exact ih (i+1) f b (by omega) (by omega) e3
   have:=key tl.length 0 20 y0 (by omega) (by omega) hy0
   simp only [Int.natCast_zero,List.drop_zero] at this
   simp only [i0,if_true,c1,s1,ea0,this,Option.bind_some]
   rfl
 ·cases h
end Go.V.W
namespace Go.V.W
open Go.Proofs
theorem hasL_iff {S:List Int} {y:Int}:hasL S y=true↔y∈S:=by
 unfold hasL
 simp only [List.any_eq_true,beq_iff_eq,exists_eq_right]
theorem rising_low:∀{l:List Int} {a:Int},risingB (a::l)=true -> ∀y∈l,a<y:=by
 intro l
 induction l with
 | nil=>intro a _ y hy;cases hy
 | cons b l ih=>
  intro a h y hy
  simp only [risingB,Bool.and_eq_true,decide_eq_true_eq] at h
  rcases List.mem_cons.1 hy with rfl | hy
  ·exact h.1
  ·have:=ih h.2 y hy
   omega
theorem rising_tail {l:List Int} {a:Int} (h:risingB (a::l)=true):risingB l=true:=by
 cases l with
 | nil=>rfl
 | cons b l=>
  simp only [risingB,Bool.and_eq_true] at h
  exact h.2
theorem rising_setF:∀(k x:Nat) (l:List Int),risingB l=true->(∀y∈l,(x:Int)<=y/\y<((x+k:Nat):Int))->l=setF (fun y=>hasL l (y:Int)) k x:=by
 intro k
 induction k with
 | zero=>
  intro x l _ h
  cases l with
  | nil=>rfl
  | cons a l=>have:=h a (by simp);omega
 | succ k ih=>
  intro x l hr h
  show l=if hasL l (x:Int)=true then (x:Int)::setF (fun y=>hasL l (y:Int)) k (x+1) else setF (fun y=>hasL l (y:Int)) k (x+1)
  cases l with
  | nil=>simp only [hasL,List.any_nil,Bool.false_eq_true,if_false];exact (setF_empty).symm
  | cons a l=>
   have ha:=h a (by simp)
   have hlow:=rising_low hr
   by_cases e:a=(x:Int)
   ·subst e
    have h1:hasL ((x:Int)::l) (x:Int)=true:=hasL_iff.2 (by simp)
    rw [if_pos h1]
    have h2:=ih (x+1) l (rising_tail hr) fun y hy=>by
     have:=hlow y hy
     have:=h y (by simp [hy])
     omega
    have h3:setF (fun y=>hasL ((x:Int)::l) (y:Int)) k (x+1)=setF (fun y=>hasL l (y:Int)) k (x+1):=setF_congr fun y hy _=>by
     unfold hasL
     rw [List.any_cons]
     have:((x:Int)==(y:Int))=false:=by simp;omega
     rw [this,Bool.false_or]
    rw [h3,<- h2]
   ·have h1:¬hasL (a::l) (x:Int)=true:=fun hh=>by
     rcases List.mem_cons.1 (hasL_iff.1 hh) with h' | h'
     ·exact e h'.symm
     ·have:=hlow _ h';omega
    rw [if_neg h1]
    exact ih (x+1) (a::l) hr fun y hy=>by
     have:=h y hy
     rcases List.mem_cons.1 hy with rfl | hy
     ·omega
     ·have:=hlow y hy;omega
theorem marked_set {n:Nat} {m:List Int} (hr:risingB m=true) (h:∀y∈m,0<=y/\y<=(n:Int)-1):m=setF (fun y=>hasL m (y:Int)) n 0:=rising_setF n 0 m hr fun y hy=>by
 have:=h y hy
 omega
theorem hasL_setF {p:Nat->Bool} {n y:Nat} (hy:y<n):hasL (setF p n 0) (y:Int)=p y:=any_setF hy
theorem lessE_total {a b:E} (h:¬a=b):lessE a b=true\/lessE b a=true:=by
 obtain ⟨a1,a2,_⟩:=a
 obtain ⟨b1,b2,_⟩:=b
 simp only [lessE,Bool.or_eq_true,Bool.and_eq_true,decide_eq_true_eq]
 have:¬(a1=b1/\a2=b2):=fun ⟨h1,h2⟩=>h (by rw [h1,h2])
 omega
theorem insE_mem {e x:E}:∀{l:List E},x∈insE e l↔x=e\/x∈l:=by
 intro l
 induction l with
 | nil=>simp [insE]
 | cons a l ih=>
  unfold insE
  split
  ·simp only [List.mem_cons,ih]
   constructor
   ·rintro (h | h | h)
    ·exact .inr (.inl h)
    ·exact .inl h
    ·exact .inr (.inr h)
   ·rintro (h | h | h)
    ·exact .inr (.inl h)
    ·exact .inl h
    ·exact .inr (.inr h)
  ·simp only [List.mem_cons]
theorem insE_pair {e:E}:∀{l:List E},(l.Pairwise fun a b=>lessE a b=true)->e∉l->(insE e l).Pairwise fun a b=>lessE a b=true:=by
 intro l
 induction l with
 | nil=>intro _ _;simp [insE]
 | cons a l ih=>
  intro h he
  rw [List.pairwise_cons] at h
  unfold insE
  split
  ·rename_i hl
   rw [List.pairwise_cons]
   refine ⟨fun b hb => ?_,ih h.2 fun hh=>he (by simp [hh])⟩
   rcases insE_mem.1 hb with rfl | hb
   ·exact hl
   ·exact h.1 b hb
  ·rename_i hl
   have hea:lessE e a=true:=(lessE_total fun hh=>he (by simp [hh])).resolve_right hl
   rw [List.pairwise_cons,List.pairwise_cons]
   refine ⟨fun b hb => ?_,h⟩
   rcases List.mem_cons.1 hb with rfl | hb
   ·exact hea
   ·exact lessE_trans hea (h.1 b hb)
theorem outE_mem {es:List E} {e x:E}:x∈outE es e↔x∈es /\ ¬x=e:=by
 unfold outE
 simp
theorem outE_len {es:List E} {e:E}:(outE es e).length=es.length↔e∉es:=by
 unfold outE
 rw [List.length_filter_eq_length_iff]
 constructor
 ·intro h he
  have:=h e he
  simp at this
 ·intro h x hx
  simp only [Bool.not_eq_true',decide_eq_false_iff_not]
  rintro rfl
  exact h hx
theorem togE_mem {es:List E} {e x:E}:x∈togE es e↔((x∈es /\ ¬x=e)\/(x=e/\e∉es)):=by
 unfold togE
 split
 ·rename_i h
  have h:=outE_len.1 h
  rw [insE_mem,outE_mem]
  constructor
  ·rintro (h1 | h1)
   ·exact .inr ⟨h1,h⟩
   ·exact .inl h1
  ·rintro (h1 | h1)
   ·exact .inr h1
   ·exact .inl h1.1
 ·rename_i h
  have h:¬e∉es:=fun hh=>h (outE_len.2 hh)
  rw [outE_mem]
  constructor
  ·intro h1;exact .inl h1
  ·rintro (h1 | h1)
   ·exact h1
   ·exact absurd h1.2 h
theorem togE_pair {es:List E} {e:E} (h:es.Pairwise fun a b=>lessE a b=true):(togE es e).Pairwise fun a b=>lessE a b=true:=by
 have ho:(outE es e).Pairwise fun a b=>lessE a b=true:=h.sublist List.filter_sublist
 unfold togE
 split
 ·exact insE_pair ho fun hh=>(outE_mem.1 hh).2 rfl
 ·exact ho
theorem near_mem {n:Nat} {es:List E} (h:es.all (edgeB (n:Int))=true) {u z:Nat} (hu:u<z):nearI es (u:Int) (z:Int)=true↔(((u:Int),(z:Int),()):E)∈es:=by
 unfold nearI
 simp only [List.any_eq_true,Bool.or_eq_true,Bool.and_eq_true,beq_iff_eq]
 constructor
 ·rintro ⟨⟨a,b,_⟩,he,h1⟩
  obtain ⟨k1,k2,k3,k4⟩:=edgeB_nat (List.all_eq_true.1 h _ he)
  simp only at h1 k1 k2 k3 k4
  rcases h1 with ⟨h1,h2⟩ | ⟨h1,h2⟩
  ·subst h1 h2
   exact he
  ·omega
 ·intro he
  exact ⟨_,he,.inl ⟨rfl,rfl⟩⟩
def togN (ms:List Nat) (a b:Nat):List Nat:=(ms.set a (ms.getD a 0^^^2 ^ b)).set b ((ms.set a (ms.getD a 0^^^2 ^ b)).getD b 0^^^2 ^ a)
theorem togN_ok {n:Nat} (hn:n<=8) {ms:List Nat} (h:okN n ms) {a b:Nat} (ha:a<n) (hb:b<n) (hab:a≠b):okN n (togN ms a b) /\ ∀x y,hasN (togN ms a b) x y=Bool.xor (hasN ms x y) ((decide (x=a)&&decide (y=b))||(decide (x=b)&&decide (y=a))):=by
 unfold togN
 have l1:a<ms.length:=by rw [h.1];exact ha
 have l2:b<(ms.set a (ms.getD a 0^^^2 ^ b)).length:=by rw [List.length_set,h.1];exact hb
 have e1:(ms.set a (ms.getD a 0^^^2 ^ b)).getD b 0=ms.getD b 0:=by rw [getD_set _ _ _ _ l1,if_neg (fun e=>hab e.symm)]
 rw [e1]
 have g:∀x,((ms.set a (ms.getD a 0^^^2 ^ b)).set b (ms.getD b 0^^^2 ^ a)).getD x 0=if x=b then ms.getD b 0^^^2 ^ a else if x=a then ms.getD a 0^^^2 ^ b else ms.getD x 0:=fun x=>by
  rw [getD_set _ _ _ _ l2,getD_set _ _ _ _ l1]
 refine ⟨⟨by simp [h.1],fun x => ?_⟩,fun x y => ?_⟩
 ·rw [g]
  split
  ·exact Nat.xor_lt_two_pow (n:=8) (h.2 b) (pow_small (by omega))
  ·split
   ·exact Nat.xor_lt_two_pow (n:=8) (h.2 a) (pow_small (by omega))
   ·exact h.2 x
 ·unfold hasN
  rw [g]
  by_cases h1:x=b
  ·have h2:¬b=a:=fun e=>hab e.symm
   simp only [h1,if_true,Nat.testBit_xor,Nat.testBit_two_pow,h2,decide_false,decide_true,Bool.false_and,Bool.true_and,Bool.false_or]
   congr 1
   exact decide_eq_decide.2 ⟨fun e=>e.symm,fun e=>e.symm⟩
  ·by_cases h2:x=a
   ·simp only [h1,h2,hab,if_true,if_false,Nat.testBit_xor,Nat.testBit_two_pow,decide_false,decide_true,Bool.false_and,Bool.true_and,Bool.or_false]
    congr 1
    exact decide_eq_decide.2 ⟨fun e=>e.symm,fun e=>e.symm⟩
   ·simp only [h1,h2,if_false,decide_false,Bool.false_and,Bool.or_false,Bool.xor_false]
theorem tog_same {n:Nat} (hn:n<=8) {es:List E} (h:es.all (edgeB (n:Int))=true) (hr:risingE es=true) {a b:Nat} (ha:a<n) (hb:b<n) (hab:a≠b):allE (hasN (togN (netN n es) a b)) n n 0=togE es (eE (a:Int) (b:Int)):=by
 obtain ⟨hok,hbit⟩:=togN_ok hn (netN_ok hn h) ha hb hab
 have hE:∀u z:Nat,u<z->((((u:Int),(z:Int),()):E)=eE (a:Int) (b:Int)↔((decide (u=a)&&decide (z=b))||(decide (u=b)&&decide (z=a)))=true):=fun u z huz=>by
  unfold eE
  simp only [Bool.or_eq_true,Bool.and_eq_true,decide_eq_true_eq]
  by_cases hlt:(a:Int)<(b:Int)
  ·rw [if_pos hlt]
   simp only [Prod.mk.injEq,and_true]
   omega
  ·rw [if_neg hlt]
   simp only [Prod.mk.injEq,and_true]
   omega
 refine sorted_ext allE_pair (togE_pair (rising_pair hr)) fun e => ?_
 rw [allE_mem,togE_mem]
 constructor
 ·rintro ⟨u,z,_,h2,h3,h4,h5,rfl⟩
  rw [hbit,hasN_near hn h] at h5
  by_cases hc:((decide (u=a)&&decide (z=b))||(decide (u=b)&&decide (z=a)))=true
  ·rw [hc] at h5
   have h5:nearI es (u:Int) (z:Int)=false:=by simpa using h5
   refine .inr ⟨(hE u z h3).2 hc,fun hm => ?_⟩
   rw [<- (hE u z h3).2 hc] at hm
   rw [(near_mem h h3).2 hm] at h5
   cases h5
  ·have hc':=(Bool.not_eq_true _).mp hc
   rw [hc',Bool.xor_false] at h5
   exact .inl ⟨(near_mem h h3).1 h5,fun hh=>hc ((hE u z h3).1 hh)⟩
 ·intro hh
  have hshape:∃u z:Nat,u<z/\z<n/\e=((u:Int),(z:Int),()):=by
   rcases hh with ⟨h1,_⟩ | ⟨h1,_⟩
   ·obtain ⟨x,y,_⟩:=e
    obtain ⟨k1,k2,k3,k4⟩:=edgeB_nat (List.all_eq_true.1 h _ h1)
    simp only at k1 k2 k3 k4
    exact ⟨x.toNat,y.toNat,k1,k2,by rw [<- k3,<- k4]⟩
   ·subst h1
    unfold eE
    split
    ·exact ⟨a,b,by omega,hb,rfl⟩
    ·exact ⟨b,a,by omega,ha,rfl⟩
  obtain ⟨u,z,h3,h4,rfl⟩:=hshape
  refine ⟨u,z,Nat.zero_le _,by omega,h3,h4,?_,rfl⟩
  rw [hbit,hasN_near hn h]
  rcases hh with ⟨h1,h2⟩ | ⟨h1,h2⟩
  ·have hc:((decide (u=a)&&decide (z=b))||(decide (u=b)&&decide (z=a)))=false:=(Bool.not_eq_true _).mp fun hc=>h2 ((hE u z h3).2 hc)
   rw [hc,Bool.xor_false]
   exact (near_mem h h3).2 h1
  ·have hc:=(hE u z h3).1 h1
   rw [hc]
   have:nearI es (u:Int) (z:Int)=false:=(Bool.not_eq_true _).mp fun hn=>h2 (by rw [<- h1];exact (near_mem h h3).1 hn)
   rw [this]
   rfl
theorem allE_len {p:Nat->Nat->Bool} {n:Nat}:∀{m x:Nat},(allE p n m x).length<=n*m:=by
 intro m
 induction m with
 | zero=>intro x;simp [allE]
 | succ m ih=>
  intro x
  have h1:=rowE_len (p:=p) (x:=x) (m:=n-(x+1)) (y:=x+1)
  have h2:=ih (x:=x+1)
  simp only [allE,List.length_append,Nat.mul_succ]
  omega
theorem graph_len {n:Int} {es:List E} {v:Unit} (hg:graphB (n,es,v)=true):es.length<=64:=by
 obtain ⟨h0,h8⟩:=graphB_n hg
 obtain ⟨g1,g2⟩:=graphB_edges hg
 obtain ⟨a,rfl⟩:=nat_of h0
 have ha:a<=8:=by omega
 have:=allE_net ha g1 (rising_pair g2)
 rw [<- this]
 have h1:=allE_len (p:=hasN (netN a es)) (n:=a) (m:=a) (x:=0)
 have h2:a*a<=8*8:=Nat.mul_le_mul ha ha
 omega
theorem okW_of {w:Wk} (h:workB w=true):okW w=true:=by
 obtain ⟨⟨n,es,v⟩,p,q,m,t,u⟩:=w
 have h':=h
 unfold workB at h'
 simp only [Bool.and_eq_true] at h'
 obtain ⟨⟨⟨⟨h1,h2⟩,h3⟩,h4,h5⟩,h6⟩:=h'
 have h1:graphB (n,es,v)=true:=h1
 obtain ⟨n0,n8⟩:=graphB_n h1
 obtain ⟨a,rfl⟩:=nat_of n0
 have hm:m.length<=8:=by
  have:=marked_set (n:=a) h5 fun y hy=>inB_iff.1 (List.all_eq_true.1 h4 y hy)
  rw [this]
  have:=setF_len (p:=fun y=>hasL m (y:Int)) (k:=a) (x:=0)
  omega
 have hl:=graph_len h1
 unfold okW
 simp only [h,Bool.and_eq_true,decide_eq_true_eq]
 exact ⟨⟨trivial,by show es.length<=1000;omega⟩,by show m.length<=1000;omega⟩
def InvC (n:Nat) (ball:Int->List Int) (f:Nat->Nat->Int):Prop := ∀c r,c<n->r<n->1<=f c r -> ∃b∈ball (c:Int),0<=afterT ball (tabL n f) b (r:Int)/\afterT ball (tabL n f) b (r:Int)+1=f c r
theorem after_keep {n:Nat} {ball:Int->List Int} (hb:okBall n ball) {t:Nat} {f:Nat->Nat->Int} {b r:Nat} (hbn:b<n) (hr:r<n) (h:0<=afterT ball (tabL n f) (b:Int) (r:Int)) :
  afterT ball (tabL n (stepF n ball (t:Int) f)) (b:Int) (r:Int)=afterT ball (tabL n f) (b:Int) (r:Int):=by
 unfold afterT at h |-
 by_cases hbr:(b:Int)=(r:Int)
 ·rw [if_pos hbr,if_pos hbr]
 ·rw [if_neg hbr] at h |-
  rw [if_neg hbr]
  rcases worst_spec (tab2 (tabL n f) (b:Int)) (ball (r:Int)) 0 with ⟨_,h'⟩ | ⟨hall,_,_⟩
  ·omega
  ·refine worst_congr fun x hx => ?_
   obtain ⟨y,hy,rfl⟩:=hb r hr x hx
   have:=(hall (y:Int) hx).1
   rw [tab2_tabL _ hbn hy] at this
   rw [tab2_tabL _ hbn hy,tab2_tabL _ hbn hy]
   refine if_neg fun hcan => ?_
   unfold canF at hcan
   simp only [Bool.and_eq_true,decide_eq_true_eq] at hcan
   omega
theorem InvC.next {n:Nat} {ball:Int->List Int} (hb:okBall n ball) {t:Nat} {f:Nat->Nat->Int} (hI:InvT n ball t f) (hC:InvC n ball f):InvC n ball (stepF n ball (t:Int) f):=by
 intro c r hc hr h
 by_cases hcan:canF n ball f c r=true
 ·have e:stepF n ball (t:Int) f c r=(t:Int):=if_pos hcan
  rw [e]
  unfold canF at hcan
  simp only [Bool.and_eq_true,decide_eq_true_eq,List.any_eq_true] at hcan
  obtain ⟨hf,b,hbm,h0⟩:=hcan
  have h1:=hI.none c r hc hr hf b hbm
  have h2:=after_high hb hI hc hr hbm
  obtain ⟨b',hb1,rfl⟩:=hb c hc b hbm
  refine ⟨_,hbm,?_⟩
  rw [after_keep hb hb1 hr h0]
  omega
 ·have e:stepF n ball (t:Int) f c r=f c r:=if_neg hcan
  rw [e] at h |-
  obtain ⟨b,hbm,h0,h1⟩:=hC c r hc hr h
  obtain ⟨b',hb1,rfl⟩:=hb c hc b hbm
  refine ⟨_,hbm,?_⟩
  rw [after_keep hb hb1 hr h0]
  exact ⟨h0,h1⟩
theorem timesF_inv {n:Nat} {ball:Int->List Int} (hb:okBall n ball):∀(k t:Nat) (f:Nat->Nat->Int),InvT n ball t f->InvC n ball f -> ∃t',t'<=t+k/\InvT n ball t' (timesF n ball k (t:Int) f)/\InvC n ball (timesF n ball k (t:Int) f):=by
 intro k
 induction k with
 | zero=>intro t f h1 h2;exact ⟨t,by omega,h1,h2⟩
 | succ k ih=>
  intro t f h1 h2
  unfold timesF
  split
  ·obtain ⟨t',k1,k2,k3⟩:=ih (t+1) _ (h1.next hb) (h2.next hb h1)
   exact ⟨t',by omega,k2,k3⟩
  ·exact ⟨t,by omega,h1,h2⟩
theorem times_facts {n:Nat} {ball:Int->List Int} (hb:okBall n ball):sqB n (timesT n ball)=true /\ ∀c r,c<n->r<n->1<=tab2 (timesT n ball) (c:Int) (r:Int)->(ball (c:Int)).any (chaseP ball (timesT n ball) (c:Int) (r:Int))=true:=by
 have hst:InvC n ball startF:=fun c r _ _ h=>by
  unfold startF at h
  split at h<;>omega
 obtain ⟨t',k1,k2,k3⟩:=timesF_inv hb 65 1 startF (InvT.start n ball) hst
 refine ⟨tabL_sqB fun c r hc hr => ?_,fun c r hc hr h => ?_⟩
 ·have h1:=k2.low c r hc hr
  have h2:=k2.high c r hc hr
  constructor
  ·exact h1
  ·have:((t':Nat):Int)<=66:=by omega
   exact Int.le_trans (Int.le_of_lt h2) (by omega)
 ·unfold timesT at h |-
  rw [tab2_tabL _ hc hr] at h
  obtain ⟨b,hbm,h0,h1⟩:=k3 c r hc hr h
  refine List.any_eq_true.2 ⟨b,hbm,?_⟩
  unfold chaseP
  rw [tab2_tabL _ hc hr,Bool.and_eq_true,decide_eq_true_eq,decide_eq_true_eq]
  exact ⟨h1,h0⟩
theorem rob_neg (row:Int->Int):∀(l:List Int) (b:Int),row b<0->robL row l b=b:=by
 intro l
 induction l with
 | nil=>intro b _;rfl
 | cons x l ih=>
  intro b h
  have:¬(0<=row b/\(row x<0\/row x>row b)):=by omega
  simp only [robL,if_neg this]
  exact ih b h
theorem flee_rob (row:Int->Int):∀(l:List Int) (b:Int),0<=row b->fleeL row l b=robL row l b:=by
 intro l
 induction l with
 | nil=>intro b _;rfl
 | cons x l ih=>
  intro b h
  simp only [fleeL,robL]
  by_cases hx:row x<0
  ·rw [if_pos hx,if_pos ⟨h,.inl hx⟩,rob_neg row l x hx]
  ·rw [if_neg hx]
   by_cases h2:row x>row b
   ·rw [if_pos h2,if_pos ⟨h,.inr h2⟩]
    exact ih x (by omega)
   ·rw [if_neg h2,if_neg (by omega)]
    exact ih b h
theorem flee_same (row:Int->Int) (l:List Int) (hl:l≠[]):fleeL row l (l.headD 0)=robL row l.tail (l.headD 0):=by
 match l,hl with
 | h::t,_=>
  show (if row h<0 then h else fleeL row t (if row h>row h then h else h))=robL row t h
  by_cases hh:row h<0
  ·rw [if_pos hh,rob_neg row t h hh]
  ·rw [if_neg hh,if_neg (by omega)]
   exact flee_rob row t h (by omega)
def oneB (v:Nat):Bool:=decide (v≠0/\v&&&(v-1)=0)
def oneChk (v:Nat):Bool:=(oneB v==decide ((setF (fun y=>v.testBit y) 8 0).length=1))&&(!oneB v||(decide ((v:Int)=2 ^ ((setF (fun y=>v.testBit y) 8 0).headD 0).toNat)&&decide (0<=(setF (fun y=>v.testBit y) 8 0).headD 0)))
set_option maxRecDepth 100000 in
theorem one_all:(List.range 256).all oneChk=true:=by decide
theorem one_bit {v:Nat} (h:v<256):(oneB v=true↔(setF (fun y=>v.testBit y) 8 0).length=1)/\(oneB v=true -> ∃b:Nat,v=2 ^ b/\(setF (fun y=>v.testBit y) 8 0).headD 0=(b:Int)):=by
 have:=List.all_eq_true.1 one_all v (List.mem_range.2 h)
 unfold oneChk at this
 rw [Bool.and_eq_true] at this
 obtain ⟨h1,h2⟩:=this
 have h1:=beq_iff_eq.1 h1
 refine ⟨by rw [h1,decide_eq_true_eq],fun ho => ?_⟩
 rw [ho] at h2
 simp only [Bool.not_true,Bool.false_or,Bool.and_eq_true,decide_eq_true_eq] at h2
 refine ⟨((setF (fun y=>v.testBit y) 8 0).headD 0).toNat,?_,by omega⟩
 have:=h2.1
 exact_mod_cast this
theorem force_same {n:Nat} (hn:n<=8) {es:List E} (h:es.all (edgeB (n:Int))=true) {S:List Int} (hS:∀y∈S,0<=y/\y<=(n:Int)-1):∀k x (oN:Nat) (P:Nat->Bool),isM n oN P ->
  ∃Q,isM n (forceN (netN n es) (maskN S) k x oN) Q/\onceL es n S k x (setF P n 0)=setF Q n 0:=by
 intro k
 induction k with
 | zero=>intro x oN P hP;exact ⟨P,hP,rfl⟩
 | succ k ih=>
  intro x oN P hP
  have hM:=maskN_isM hn hS
  have hok:=netN_ok hn h
  -- the open neighbours as bits
  have hv:isM n ((netN n es).getD x 0&&&(255^^^maskN S)) (fun y=>nearI es (x:Int) (y:Int) && !hasL S (y:Int)):=by
   refine ⟨Nat.lt_of_le_of_lt Nat.and_le_left (hok.2 x),fun y => ?_⟩
   have hb:=hasN_near hn h x y
   unfold hasN at hb
   rw [Nat.testBit_and,Nat.testBit_xor,bit_255,hM.2 y,hb]
   by_cases hy:y<n
   ·have:y<8:=by omega
    simp [hy,this]
   ·have:nearI es (x:Int) (y:Int)=false:=(Bool.not_eq_true _).mp fun hh=>hy (near_lt h hh)
    simp [hy,this]
  have ham:amongL es n S (x:Int)=setF (fun y=>nearI es (x:Int) (y:Int) && !hasL S (y:Int)) n 0:=by
   unfold amongL
   rw [filter_setF]
  have hset:=setF_mask hn hv
  rw [<- ham] at hset
  have hvl:=hv.1
  show ∃Q,isM n (forceN (netN n es) (maskN S) k (x+1) _) Q/\onceL es n S k (x+1) _=setF Q n 0
  generalize hz:(netN n es).getD x 0&&&(255^^^maskN S)=v at hv hset hvl
  obtain ⟨o1,o2⟩:=one_bit hvl
  rw [hset] at o1 o2
  by_cases hone:oneB v=true
  ·obtain ⟨b,hb1,hb2⟩:=o2 hone
   have hlen:=o1.1 hone
   have hone':=of_decide_eq_true hone
   -- b is a node
   have hbn:b<n:=by
    have:=hv.2 b
    rw [hb1,Nat.testBit_two_pow_self] at this
    have:=this.symm
    simp only [Bool.and_eq_true,decide_eq_true_eq] at this
    exact this.1
   -- is x among the marked ones?
   by_cases hx:hasL S (x:Int)=true
   ·have hxn:x<n:=by
     have:=hS _ (hasL_iff.1 hx)
     omega
    have hbit:(maskN S).testBit x=true:=by rw [hM.2 x];simp [hxn,hx]
    rw [if_pos ⟨hbit,hone'⟩,if_pos ⟨hlen,hx⟩,hb2,putL_set (Nat.zero_le _) (by omega)]
    refine ih (x+1) _ _ ⟨Nat.or_lt_two_pow (n:=8) hP.1 hvl,fun y => ?_⟩
    rw [Nat.testBit_or,hP.2 y,hb1,Nat.testBit_two_pow,Bool.eq_iff_iff]
    simp only [Bool.or_eq_true,Bool.and_eq_true,decide_eq_true_eq]
    constructor
    ·rintro (⟨a1,a2⟩ | a1)
     ·exact ⟨a1,.inl a2⟩
     ·exact ⟨by omega,.inr a1.symm⟩
    ·rintro ⟨a1,a2 | a2⟩
     ·exact .inl ⟨a1,a2⟩
     ·exact .inr a2.symm
   ·have hbit:¬(maskN S).testBit x=true:=fun hh=>by
     rw [hM.2 x] at hh
     simp only [Bool.and_eq_true] at hh
     exact hx hh.2
    rw [if_neg (fun hh=>hbit hh.1),if_neg (fun hh=>hx hh.2)]
    exact ih (x+1) oN P hP
  ·have hlen:¬(amongL es n S (x:Int)).length=1:=fun hh=>hone (o1.2 hh)
   have hone':¬(v≠0/\v&&&(v-1)=0):=fun hh=>hone (decide_eq_true hh)
   rw [if_neg (fun hh=>hone' hh.2),if_neg (fun hh=>hlen hh.1)]
   exact ih (x+1) oN P hP
end Go.V.W
namespace Go.V.W
open Go.Proofs
section moves
variable {a:Nat} {es:List E} {v:Unit}
theorem two_some (hg:graphB ((a:Int),es,v)=true) (ho:okL es=true) (x y:Int) (u:Unit):F_spec_l3Two 0 (((a:Int),es,v),x,y,u)=some (inB 0 ((a:Int)-1) x&&inB 0 ((a:Int)-1) y,()):=by
 obtain ⟨h0,h8⟩:=graphB_n hg
 unfold F_spec_l3Two G_graph
 simp only [ho,if_true,Option.bind_some,hg,node_eq _ es v _ _ h0 h8]
 cases inB 0 ((a:Int)-1) x<;>rfl
theorem times_at {n:Nat} {ball:Int->List Int} {c r:Nat} (hc:c<n) (hr:r<n):idxIn (c:Int) (timesT n ball).length=true/\idxIn (r:Int) (at_ K_Si (timesT n ball) c).length=true/\at_ I (at_ K_Si (timesT n ball) c) r=tab2 (timesT n ball) (c:Int) (r:Int):=by
 have hsq:sqL n (timesT n ball)=true:=tabL_sq _ _
 obtain ⟨t1,t2⟩:=sqL_parts hsq
 exact ⟨idxIn_nat (by omega),idxIn_nat (by rw [t2 _ hc];exact hr),tab2_at hsq hc hr⟩
theorem in_node {c:Nat} (hc:c<a):inB 0 ((a:Int)-1) (c:Int)=true:=inB_iff.2 (by omega)
theorem first_in {p:Int->Bool} {l:List Int} {c a:Nat} (hc:c<a) (hl:∀z∈l,∃y:Nat,y<a/\z=(y:Int)):∃y:Nat,y<a/\firstL p l (c:Int)=(y:Int):=by
 unfold firstL
 cases h:l.find? p with
 | none=>exact ⟨c,hc,rfl⟩
 | some z=>
  obtain ⟨y,hy,rfl⟩:=hl z (List.mem_of_find?_eq_some h)
  exact ⟨y,hy,rfl⟩
theorem cop_spec (hg:graphB ((a:Int),es,v)=true) (ho:okL es=true) {c r:Nat} (hc:c<a) (hr:r<a) (u:Unit) :
  F_q83q 0 (((a:Int),es,v),(c:Int),(r:Int),u)=some (if tab2 (timesT a (ballF a es)) (c:Int) (r:Int)<1 then (0,false,()) else (copT (ballF a es) (timesT a (ballF a es)) (c:Int) (r:Int),true,())):=by
 have hG:=graph_grB hg ho
 obtain ⟨t1,t2,t3⟩:=times_at (ball:=ballF a es) hc hr
 unfold F_q83q
 simp only [two_some hg ho,in_node hc,in_node hr,Bool.and_self,Option.bind_some,Bool.not_true,Bool.false_eq_true,if_false,G_l3Times,hG,if_true,Int.toNat_natCast,t1,t2,t3]
 by_cases h:tab2 (timesT a (ballF a es)) (c:Int) (r:Int)<1
 ·simp only [h,decide_true,if_true]
 ·simp only [h,decide_false,Bool.false_eq_true,if_false]
  obtain ⟨f1,f2⟩:=times_facts (ballF_ok a es)
  have hch:G_l3Chase (((a:Int),es,v),timesT a (ballF a es),(c:Int),(r:Int),())=some (copT (ballF a es) (timesT a (ballF a es)) (c:Int) (r:Int),()):=by
   unfold G_l3Chase twoB
   have h1:decide (1<=tab2 (timesT a (ballF a es)) (c:Int) (r:Int))=true:=decide_eq_true (by omega)
   simp only [hG,Int.toNat_natCast,f1,in_node hc,in_node hr,h1,f2 c r hc hr (by omega),Bool.and_self,if_true]
   rfl
  simp only [hch,Option.bind_some]
theorem rob_spec (hg:graphB ((a:Int),es,v)=true) (ho:okL es=true) {c r:Nat} (hc:c<a) (hr:r<a) (u:Unit) :
  F_q35q 0 (((a:Int),es,v),(c:Int),(r:Int),u)=some (if (c:Int)=(r:Int) then (0,false,()) else (fleeL (tab2 (timesT a (ballF a es)) (c:Int)) (ballF a es (r:Int)) ((ballF a es (r:Int)).headD 0),true,())):=by
 have hG:=graph_grB hg ho
 unfold F_q35q
 simp only [two_some hg ho,in_node hc,in_node hr,Bool.and_self,Option.bind_some,Bool.not_true,Bool.false_eq_true,if_false,G_l3Times,hG,if_true,Int.toNat_natCast]
 by_cases h:(c:Int)=(r:Int)
 ·simp only [h,beq_self_eq_true,if_true]
 ·have b:((c:Int)==(r:Int))=false:=by simpa using h
  have hfl:G_l3Flee (((a:Int),es,v),timesT a (ballF a es),(c:Int),(r:Int),())=some (fleeL (tab2 (timesT a (ballF a es)) (c:Int)) (ballF a es (r:Int)) ((ballF a es (r:Int)).headD 0),()):=by
   unfold G_l3Flee twoB
   have hsq:sqL a (timesT a (ballF a es))=true:=tabL_sq _ _
   simp only [hG,Int.toNat_natCast,hsq,in_node hc,in_node hr,Bool.and_self,if_true]
  simp only [b,Bool.false_eq_true,if_false,h,hfl,Option.bind_some]
theorem play_spec {p q:Nat} (hg:graphB ((a:Int),es,v)=true) (ho:okL es=true) (hp:p<a) (hq:q<a) (hne:¬(p:Int)=(q:Int)) (m:List Int) (hm:okL m=true) (t:Int) (u w:Unit) :
  F_q68q 0 ((((a:Int),es,v),(p:Int),(q:Int),m,t,u),w)=some ((((a:Int),es,v),copW (((a:Int),es,v),(p:Int),(q:Int),m,t,u),robW (((a:Int),es,v),(p:Int),(q:Int),m,t,u),m,t,u),()):=by
 unfold F_q68q
 simp only [own_ws _ es v _ _ m t u _ ho hm,Option.bind_some,cop_spec hg ho hp hq]
 have hcw:copW (((a:Int),es,v),(p:Int),(q:Int),m,t,u)=if tab2 (timesT a (ballF a es)) (p:Int) (q:Int)<1 then (p:Int) else copT (ballF a es) (timesT a (ballF a es)) (p:Int) (q:Int):=rfl
 have hrw:robW (((a:Int),es,v),(p:Int),(q:Int),m,t,u)=if copW (((a:Int),es,v),(p:Int),(q:Int),m,t,u)=(q:Int) then (q:Int) else fleeL (tab2 (timesT a (ballF a es)) (copW (((a:Int),es,v),(p:Int),(q:Int),m,t,u))) (ballF a es (q:Int)) ((ballF a es (q:Int)).headD 0):=rfl
 rw [hrw]
 by_cases h:tab2 (timesT a (ballF a es)) (p:Int) (q:Int)<1
 ·rw [if_pos h] at hcw
  rw [hcw]
  simp only [h,if_true,Bool.false_eq_true,if_false,rob_spec hg ho hp hq,hne,Option.bind_some]
 ·rw [if_neg h] at hcw
  rw [hcw]
  obtain ⟨c',hc',ec⟩:=first_in (p:=chaseP (ballF a es) (timesT a (ballF a es)) (p:Int) (q:Int)) (l:=ballF a es (p:Int)) hp (ballF_ok a es p hp)
  have ec:copT (ballF a es) (timesT a (ballF a es)) (p:Int) (q:Int)=(c':Int):=ec
  rw [ec]
  simp only [h,if_false,if_true,rob_spec hg ho hc' hq,Option.bind_some]
  by_cases h2:(c':Int)=(q:Int)
  ·simp only [h2,if_true,Bool.false_eq_true,if_false]
  ·simp only [h2,if_false,if_true]
theorem chase_spec (g:Gr) (p q:Int) (m:List Int) (t:Int) (u w:Unit):g_q55q ((g,p,q,m,t,u),w)=(chB0 (g,p,q,m,t,u),()):=by
 unfold g_q55q chB0
 by_cases h1:0<=p
 ·by_cases h2:0<=q
  ·simp [h1,h2,bne]
  ·simp [h1,h2]
 ·simp [h1]
theorem apart_impl (g:Gr) (p q:Int) (m:List Int) (t:Int) (u w:Unit):g_q57q ((g,p,q,m,t,u),w)=(chB0 (g,p,q,m,t,u),()):=by
 unfold g_q57q chB0
 by_cases h1:0<=p
 ·by_cases h2:0<=q
  ·simp [h1,h2,bne]
  ·simp [h1,h2]
 ·simp [h1]
theorem chB0_parts {g:Gr} {p q:Int} {m:List Int} {t:Int} {u:Unit} (h:chB0 (g,p,q,m,t,u)=true):0<=p/\0<=q /\ ¬p=q:=by
 unfold chB0 at h
 simp only [Bool.and_eq_true,decide_eq_true_eq,Bool.not_eq_true',beq_eq_false_iff_ne,ne_eq] at h
 exact ⟨h.1.1,h.1.2,h.2⟩
theorem ball_has (ha:a<=8) (x:Int) (y:Int) (u:Unit):G_l1Has (ballF a es x,y,u)=some (hasL (ballF a es x) y,()):=by
 unfold G_l1Has
 have:=ballF_len a es x
 rw [if_pos (show okL (ballF a es x)=true from decide_eq_true (by unfold lim;omega))]
 rfl
theorem moves_spec {p q:Int} (hg:graphB ((a:Int),es,v)=true) (ho:okL es=true) (hp:p<=(a:Int)-1) (hq:q<=(a:Int)-1) (m:List Int) (t:Int) (u:Unit) (A B:Int) (w:Unit) :
  F_q51q 0 ((((a:Int),es,v),p,q,m,t,u),A,B,w)=some (movesB (((a:Int),es,v),p,q,m,t,u) A B,()):=by
 have hG:=graph_grB hg ho
 have ha:a<=8:=by have:=graphB_n hg;omega
 unfold F_q51q movesB ballW
 simp only [chase_spec,Int.toNat_natCast]
 cases hch:chB0 (((a:Int),es,v),p,q,m,t,u) with
 | false=>rfl
 | true=>
  obtain ⟨p0,q0,hne⟩:=chB0_parts hch
  obtain ⟨p',rfl⟩:=nat_of p0
  obtain ⟨q',rfl⟩:=nat_of q0
  have b1:=ball_some hG (show p'<a by omega)
  have b2:=ball_some hG (show q'<a by omega)
  simp only [Int.toNat_natCast] at b1 b2
  simp only [b1,b2,if_true,Option.bind_some,ball_has ha,Bool.true_and]
  cases hasL (ballF a es (p':Int)) A with
  | false=>rfl
  | true=>
   cases hasL (ballF a es (q':Int)) B with
   | false=>rfl
   | true=>
    simp only [if_true,Bool.true_and]
    cases h:A==(q':Int) with
    | true=>simp only [bne,h,Bool.not_true,Bool.false_eq_true,if_false,Bool.false_or]
    | false=>simp only [bne,h,Bool.not_false,if_true,Bool.true_or]
theorem edges_of (hg:graphB ((a:Int),es,v)=true):a<=8/\es.all (edgeB (a:Int))=true/\risingE es=true:=by
 have:=graphB_n hg
 have:=graphB_edges hg
 exact ⟨by omega,this.1,this.2⟩
theorem closed_bit (hg:graphB ((a:Int),es,v)=true) {c:Nat} (hc:c<a) (u w:Unit):∃k:Nat,k<256/\F_q43q 0 ((toI (netN a es),u),(c:Int),w)=some ((k:Int),()) /\ ∀y,y<a->k.testBit y=hasL (ballF a es (c:Int)) (y:Int):=by
 obtain ⟨ha,g1,g2⟩:=edges_of hg
 obtain ⟨nb,nl⟩:=netB_net ha g1
 have hc':c<(toI (netN a es)).length:=by rw [nl];exact hc
 refine ⟨_,(maskM nb hc').1,closedM nb u hc',fun y hy => ?_⟩
 rw [<- ball_same ha g1 hc]
 unfold ballM
 rw [Int.toNat_natCast]
 exact (hasL_setF (p:=fun y=>((fromI (toI (netN a es))).getD c 0|||2 ^ c).testBit y) (show y<8 by omega)).symm
theorem has_bit0 {k y:Nat} (hk:k<256) (h:y<8):(bits .and .i64 (shr .i64 (k:Int) (y:Int)) 1==(0:Int)) = !k.testBit y:=by
 have h1:k>>>y<256:=by
  rw [Nat.shiftRight_eq_div_pow]
  exact Nat.lt_of_le_of_lt (Nat.div_le_self _ _) hk
 have h2:=has_bit hk h
 rw [shr_nat h] at h2 |-
 have:=bits_and h1 (show 1<256 by omega)
 rw [show ((1:Nat):Int)=1 from rfl] at this
 rw [this] at h2 |-
 rw [<- h2,Nat.and_one_is_mod]
 have:k>>>y % 2=0\/k>>>y % 2=1:=by omega
 rcases this with h | h<;>simp [h]
theorem hasL_ball {x y:Int} (h:hasL (ballF a es x) y=true):inB 0 ((a:Int)-1) y=true:=by
 obtain ⟨z,_,h2,_,rfl⟩:=setF_mem.1 (hasL_iff.1 h)
 exact inB_iff.2 (by omega)
theorem move_impl {p q:Int} (hg:graphB ((a:Int),es,v)=true) (ho:okL es=true) (hp:p<=(a:Int)-1) (hq:q<=(a:Int)-1) (m:List Int) (t:Int) (u:Unit) (A B:Int) (w:Unit) :
  F_q54q 0 ((((a:Int),es,v),p,q,m,t,u),A,B,w)=some (if movesB (((a:Int),es,v),p,q,m,t,u) A B=true then (true,(((a:Int),es,v),A,B,m,t,u),()) else (false,(((a:Int),es,v),p,q,m,t,u),())):=by
 obtain ⟨ha,g1,g2⟩:=edges_of hg
 unfold F_q54q movesB ballW
 simp only [apart_impl,Int.toNat_natCast]
 cases hch:chB0 (((a:Int),es,v),p,q,m,t,u) with
 | false=>rfl
 | true=>
  obtain ⟨p0,q0,hne⟩:=chB0_parts hch
  obtain ⟨p',rfl⟩:=nat_of p0
  obtain ⟨q',rfl⟩:=nat_of q0
  have hN:=has_nodes (a:Int) es v () [A,B] ho (decide_eq_true (by unfold lim;simp))
  rw [hg] at hN
  simp only [Bool.not_true,Bool.false_eq_true,if_false,hN,Option.bind_some,List.all_cons,List.all_nil,Bool.and_true,Bool.true_and]
  cases hA:inB 0 ((a:Int)-1) A with
  | false=>
   have:hasL (ballF a es (p':Int)) A=false:=(Bool.not_eq_true _).mp fun h=>by rw [hasL_ball h] at hA;cases hA
   simp only [this,Bool.false_and,Bool.not_false,if_true,Bool.false_eq_true,if_false]
  | true=>
   cases hB:inB 0 ((a:Int)-1) B with
   | false=>
    have:hasL (ballF a es (q':Int)) B=false:=(Bool.not_eq_true _).mp fun h=>by rw [hasL_ball h] at hB;cases hB
    simp only [this,Bool.false_and,Bool.and_false,Bool.not_false,if_true,Bool.false_eq_true,if_false]
   | true=>
    have hA':=inB_iff.1 hA
    have hB':=inB_iff.1 hB
    obtain ⟨A',rfl⟩:=nat_of hA'.1
    obtain ⟨B',rfl⟩:=nat_of hB'.1
    obtain ⟨k1,k2,k3,k4⟩:=closed_bit hg (show p'<a by omega) () ()
    obtain ⟨l1,l2,l3,l4⟩:=closed_bit hg (show q'<a by omega) () ()
    have z1:=has_bit0 k2 (show A'<8 by omega)
    have z2:=has_bit0 l2 (show B'<8 by omega)
    rw [k4 A' (by omega)] at z1
    rw [l4 B' (by omega)] at z2
    simp only [Bool.and_self,Bool.not_true,Bool.false_eq_true,if_false,net_some hg ho,Option.bind_some,k3,l3,nonneg_dec,if_true,z1,z2]
    cases hasL (ballF a es (p':Int)) (A':Int)<;>cases hasL (ballF a es (q':Int)) (B':Int)<;>cases h1:((A':Int)==(q':Int))<;>cases h2:((B':Int)==(A':Int))<;>simp [bne,h2]
theorem cop_impl (hg:graphB ((a:Int),es,v)=true) {c r:Nat} (hc:c<a) (hr:r<a) (u w:Unit) :
  G_copMove ((toI (netN a es),u),timesT a (ballF a es),(c:Int),(r:Int),w)=some (copT (ballF a es) (timesT a (ballF a es)) (c:Int) (r:Int),()):=by
 obtain ⟨ha,g1,g2⟩:=edges_of hg
 obtain ⟨nb,nl⟩:=netB_net ha g1
 obtain ⟨f1,f2⟩:=times_facts (ballF_ok a es)
 unfold G_copMove
 simp only [nb,nl,f1,in_node hc,in_node hr,Bool.and_self,if_true]
 have hb:=ball_same ha g1 hc
 have hp:chaseP (ballM (toI (netN a es))) (timesT a (ballF a es)) (c:Int) (r:Int)=chaseP (ballF a es) (timesT a (ballF a es)) (c:Int) (r:Int):=by
  funext b
  unfold chaseP afterT
  rw [ball_same ha g1 hr]
 rw [hb,hp]
 rfl
theorem rob_impl (hg:graphB ((a:Int),es,v)=true) {c r:Nat} (hc:c<a) (hr:r<a) (u w:Unit) :
  G_robberMove ((toI (netN a es),u),at_ K_Si (timesT a (ballF a es)) c,(r:Int),w)=some (fleeL (tab2 (timesT a (ballF a es)) (c:Int)) (ballF a es (r:Int)) ((ballF a es (r:Int)).headD 0),()):=by
 obtain ⟨ha,g1,g2⟩:=edges_of hg
 obtain ⟨nb,nl⟩:=netB_net ha g1
 have hsq:sqL a (timesT a (ballF a es))=true:=tabL_sq _ _
 obtain ⟨t1,t2⟩:=sqL_parts hsq
 unfold G_robberMove
 have e:decide ((at_ K_Si (timesT a (ballF a es)) c).length=a)=true:=decide_eq_true (t2 c hc)
 simp only [nb,nl,e,in_node hr,Bool.and_self,if_true,ball_same ha g1 hr]
 rw [flee_same _ _ (List.ne_nil_of_mem (ball_self es hr))]
 have hrow:rowI (at_ K_Si (timesT a (ballF a es)) c)=tab2 (timesT a (ballF a es)) (c:Int):=by
  funext z
  have hlt:c<(timesT a (ballF a es)).length:=by omega
  have ea:at_ K_Si (timesT a (ballF a es)) c=(timesT a (ballF a es))[c]:=at_get (e:=K_Si) hlt
  unfold rowI tab2
  simp only [ea,Int.toNat_natCast,List.getD_eq_getElem?_getD,List.getElem?_eq_getElem hlt,Option.getD_some]
 rw [hrow]
theorem play_impl {p q:Int} (hg:graphB ((a:Int),es,v)=true) (ho:okL es=true) (hp:p<=(a:Int)-1) (hq:q<=(a:Int)-1) (m:List Int) (t:Int) (u w:Unit) :
  F_q52q 0 ((((a:Int),es,v),p,q,m,t,u),w)=some (if chB0 (((a:Int),es,v),p,q,m,t,u)=true then (true,(((a:Int),es,v),copW (((a:Int),es,v),p,q,m,t,u),robW (((a:Int),es,v),p,q,m,t,u),m,t,u),()) else (false,(((a:Int),es,v),p,q,m,t,u),())):=by
 obtain ⟨ha,g1,g2⟩:=edges_of hg
 obtain ⟨nb,nl⟩:=netB_net ha g1
 unfold F_q52q
 simp only [apart_impl]
 cases hch:chB0 (((a:Int),es,v),p,q,m,t,u) with
 | false=>rfl
 | true=>
  obtain ⟨p0,q0,hne⟩:=chB0_parts hch
  obtain ⟨p',rfl⟩:=nat_of p0
  obtain ⟨q',rfl⟩:=nat_of q0
  have hp':p'<a:=by omega
  have hq':q'<a:=by omega
  have hT:timesT (toI (netN a es)).length (ballM (toI (netN a es)))=timesT a (ballF a es):=by
   rw [nl]
   exact tabL_congr (timesF_congr (fun x hx=>ball_same ha g1 hx) 65 1 startF startF fun _ _ _ _=>rfl)
  obtain ⟨t1,t2,t3⟩:=times_at (ball:=ballF a es) hp' hq'
  have hcw:copW (((a:Int),es,v),(p':Int),(q':Int),m,t,u)=if tab2 (timesT a (ballF a es)) (p':Int) (q':Int)<1 then (p':Int) else copT (ballF a es) (timesT a (ballF a es)) (p':Int) (q':Int):=rfl
  have hrw:robW (((a:Int),es,v),(p':Int),(q':Int),m,t,u)=if copW (((a:Int),es,v),(p':Int),(q':Int),m,t,u)=(q':Int) then (q':Int) else fleeL (tab2 (timesT a (ballF a es)) (copW (((a:Int),es,v),(p':Int),(q':Int),m,t,u))) (ballF a es (q':Int)) ((ballF a es (q':Int)).headD 0):=rfl
  simp only [Bool.not_true,Bool.false_eq_true,if_false,net_some hg ho,Option.bind_some,G_copTimes,nb,hT,if_true,Int.toNat_natCast,t1,t2,t3]
  rw [hrw]
  by_cases h:tab2 (timesT a (ballF a es)) (p':Int) (q':Int)<1
  ·have d:decide (tab2 (timesT a (ballF a es)) (p':Int) (q':Int)>0)=false:=decide_eq_false (by omega)
   have b:((p':Int) != (q':Int))=true:=by simpa using hne
   rw [if_pos h] at hcw
   rw [hcw]
   simp only [d,Bool.false_eq_true,if_false,b,if_true,hne,rob_impl hg hp' hq',Option.bind_some]
  ·have d:decide (tab2 (timesT a (ballF a es)) (p':Int) (q':Int)>0)=true:=decide_eq_true (by omega)
   rw [if_neg h] at hcw
   rw [hcw]
   obtain ⟨c',hc',ec⟩:=first_in (p:=chaseP (ballF a es) (timesT a (ballF a es)) (p':Int) (q':Int)) (l:=ballF a es (p':Int)) hp' (ballF_ok a es p' hp')
   have ec:copT (ballF a es) (timesT a (ballF a es)) (p':Int) (q':Int)=(c':Int):=ec
   rw [ec]
   obtain ⟨s1,_,_⟩:=times_at (ball:=ballF a es) hc' hq'
   simp only [d,if_true,cop_impl hg hp' hq',ec,Option.bind_some,Int.toNat_natCast]
   by_cases h2:(c':Int)=(q':Int)
   ·simp only [h2,bne_self_eq_false,Bool.false_eq_true,if_false,if_true]
   ·have b:((c':Int) != (q':Int))=true:=by simpa using h2
    simp only [b,if_true,h2,if_false,s1,rob_impl hg hc' hq',Option.bind_some]
theorem toggle_impl (hg:graphB ((a:Int),es,v)=true) (ho:okL es=true) (A B:Int) (u:Unit):F_q31q 0 (((a:Int),es,v),A,B,u)=some (togB ((a:Int),es,v) A B):=by
 obtain ⟨ha,g1,g2⟩:=edges_of hg
 unfold F_q31q togB
 have hN:=has_nodes (a:Int) es v () [A,B] ho (decide_eq_true (by unfold lim;simp))
 rw [hg] at hN
 simp only [hN,hg,Option.bind_some,List.all_cons,List.all_nil,Bool.and_true,Bool.true_and]
 cases hA:inB 0 ((a:Int)-1) A with
 | false=>rfl
 | true=>
  cases hB:inB 0 ((a:Int)-1) B with
  | false=>rfl
  | true=>
   cases hab:A==B with
   | true=>rfl
   | false=>
    have hne:¬A=B:=by simpa using hab
    have hA':=inB_iff.1 hA
    have hB':=inB_iff.1 hB
    obtain ⟨A',rfl⟩:=nat_of hA'.1
    obtain ⟨B',rfl⟩:=nat_of hB'.1
    have hA2:A'<a:=by omega
    have hB2:B'<a:=by omega
    have hok:=netN_ok ha g1
    have hne':A'≠B':=fun e=>hne (by rw [e])
    have hnl:(netN a es).length=a:=hok.1
    have i1:idxIn (A':Int) (toI (netN a es)).length=true:=idxIn_nat (by rw [toI_len,hnl];exact hA2)
    have hx1:bits .xor .i64 (at_ I (toI (netN a es)) A') (shl .i64 1 (B':Int))=(((netN a es).getD A' 0^^^2 ^ B':Nat):Int):=by
     rw [at_toI,shl_one (show B'<8 by omega),bits_xor (hok.2 A') (pow_small (by omega))]
    obtain ⟨tk,_⟩:=togN_ok ha hok hA2 hB2 hne'
    have e1:((netN a es).set A' ((netN a es).getD A' 0^^^2 ^ B')).getD B' 0=(netN a es).getD B' 0:=by rw [getD_set _ _ _ _ (by rw [hnl];exact hA2),if_neg (fun e=>hne' e.symm)]
    have i2:idxIn (B':Int) (toI ((netN a es).set A' ((netN a es).getD A' 0^^^2 ^ B'))).length=true:=idxIn_nat (by rw [toI_len,List.length_set,hnl];exact hB2)
    have hx2:bits .xor .i64 (at_ I (toI ((netN a es).set A' ((netN a es).getD A' 0^^^2 ^ B'))) B') (shl .i64 1 (A':Int))=((((netN a es).set A' ((netN a es).getD A' 0^^^2 ^ B')).getD B' 0^^^2 ^ A':Nat):Int):=by
     rw [at_toI,shl_one (show A'<8 by omega),bits_xor (by rw [e1];exact hok.2 B') (pow_small (by omega))]
    have hgr:F_q47q 0 ((toI (togN (netN a es) A' B'),()),())=some (((a:Int),togE es (eE (A':Int) (B':Int)),()),()):=by
     unfold F_q47q g_q60q G_graphBy135
     have hl:(toI (togN (netN a es) A' B')).length=a:=by rw [toI_len,tk.1]
     simp only [small_toI tk ha,hl,decide_true,Bool.and_self,if_true,Option.bind_some,toI_from,Int.toNat_natCast,tog_same ha g1 g2 hA2 hB2 hne']
    simp only [Bool.and_self,Bool.not_true,Bool.not_false,Bool.false_eq_true,if_false,net_some hg ho,Option.bind_some,i1,if_true,nonneg_dec,Int.toNat_natCast,hx1,toI_set,i2,hx2]
    have:(((netN a es).set A' ((netN a es).getD A' 0^^^2 ^ B')).set B' (((netN a es).set A' ((netN a es).getD A' 0^^^2 ^ B')).getD B' 0^^^2 ^ A'))=togN (netN a es) A' B':=rfl
    rw [this,hgr]
    rfl
end moves
end Go.V.W
namespace Go.V.W
open Go.Proofs
theorem vInts_lim (d) (r) (h:G_vInts d=some r):∃N,F_laws_vInts N d=some r:=by
 obtain ⟨l,m,u⟩:=d
 unfold G_vInts at h
 split at h
 ·rename_i hl
  simp only [Bool.and_eq_true,decide_eq_true_eq] at hl
  obtain ⟨h1,rfl⟩:=hl
  have hl:l.length<=lim:=of_decide_eq_true h1
  have hmx:=lim_max hl
  cases h
  have key:∀k i f,i+k=l.length->k<f->laws_vInts_l0 (l.length+1) f (l,l,(i:Int),())=some (.inr (.inl ())):=by
   intro k
   induction k with
   | zero=>
    intro i f h1 h2
    obtain ⟨f,rfl⟩:∃m,f=m+1:=⟨f-1,by omega⟩
    have hlt:decide ((i:Int)<(l.length:Int))=false:=decide_eq_false (by omega)
    show laws_vInts_l0_r _ _ _=_
    unfold laws_vInts_l0_r
    simp only [hlt,Bool.false_eq_true,if_false]
   | succ k ih=>
    intro i f h1 h2
    obtain ⟨f,rfl⟩:∃m,f=m+1:=⟨f-1,by omega⟩
    have hi:i<l.length:=by omega
    show laws_vInts_l0_r _ _ _=_
    unfold laws_vInts_l0_r
    simp only [lt_dec hi,if_true,idxIn_nat hi,Int.toNat_natCast,bne_self_eq_false,Bool.false_eq_true,if_false,wrap_up hi hmx]
    exact ih (i+1) f (by omega) (by omega)
  refine ⟨l.length+1,?_⟩
  unfold F_laws_vInts
  have hk:=key l.length 0 (l.length+1) (by omega) (by omega)
  simp only [Int.natCast_zero] at hk
  simp only [bne_self_eq_false,Bool.false_eq_true,if_false,hk,Option.bind_some]
 ·cases h
theorem vPairs_lim (d) (r) (h:G_vPairs d=some r):∃N,F_q106q N d=some r:=by
 obtain ⟨l,m,u⟩:=d
 unfold G_vPairs at h
 split at h
 ·rename_i hl
  simp only [Bool.and_eq_true,decide_eq_true_eq] at hl
  obtain ⟨h1,rfl⟩:=hl
  have hl:l.length<=lim:=of_decide_eq_true h1
  have hmx:=lim_max hl
  cases h
  have key:∀k i f,i+k=l.length->k<f->q106q_l0 (l.length+1) f (l,l,(i:Int),())=some (.inr (.inl ())):=by
   intro k
   induction k with
   | zero=>
    intro i f h1 h2
    obtain ⟨f,rfl⟩:∃m,f=m+1:=⟨f-1,by omega⟩
    have hlt:decide ((i:Int)<(l.length:Int))=false:=decide_eq_false (by omega)
    show q106q_l0_r _ _ _=_
    unfold q106q_l0_r
    simp only [hlt,Bool.false_eq_true,if_false]
   | succ k ih=>
    intro i f h1 h2
    obtain ⟨f,rfl⟩:∃m,f=m+1:=⟨f-1,by omega⟩
    have hi:i<l.length:=by omega
    show q106q_l0_r _ _ _=_
    unfold q106q_l0_r
    have he:eqB K_Piiq (at_ K_Piiq l i) (at_ K_Piiq l i)=true:=by rw [eqB_e];exact decide_eq_true rfl
    simp only [lt_dec hi,if_true,idxIn_nat hi,Int.toNat_natCast,he,Bool.not_true,Bool.false_eq_true,if_false,wrap_up hi hmx]
    exact ih (i+1) f (by omega) (by omega)
  refine ⟨l.length+1,?_⟩
  unfold F_q106q
  have hk:=key l.length 0 (l.length+1) (by omega) (by omega)
  simp only [Int.natCast_zero] at hk
  simp only [bne_self_eq_false,Bool.false_eq_true,if_false,hk,Option.bind_some]
 ·cases h
section plays
variable {a:Nat} {es:List E} {v:Unit}
end plays
end Go.V.W
namespace Go.V.W
open Go.Proofs
theorem small_wrap {j:Nat} (h:j<=100000):IntKind.wrap .i64 ((j:Int)+1)=((j+1:Nat):Int):=by
 rw [wrap_in _ (by omega) (by omega)]
 rfl
end Go.V.W
namespace Go.V.W
open Go.Proofs
structure TimI (cf mv:List (List Int)) (ball:Int->List Int) (n:Nat) (T:Tab):Prop where
 caught:∀c x:Nat,c<cf.length->x<n->hasL (cf.getD c []) (x:Int)=true->tab2 T (c:Int) (x:Int)=0
 some:∀c x:Nat,c<cf.length->x<n->0<=tab2 T (c:Int) (x:Int)->hasL (cf.getD c []) (x:Int)=true\/(1<=tab2 T (c:Int) (x:Int) /\ ∃d∈mv.getD c [],0<=afterG cf ball T d (x:Int))
end Go.V.W
namespace Go.V.W
open Go.Proofs
structure PlayI (m q:Nat) (es:List E) (v:Unit):Prop where
 hg:graphB ((m:Int),es,v)=true
 ho:okL es=true
 m1:1<=m
 m8:m<=8
 q3:q<=3
end Go.V.W
namespace Go.V.W
open Go.Proofs
structure RoundI (cf mv:List (List Int)) (ball:Int->List Int) (n:Nat) (t:Int) (T:Tab):Prop where
 pos:1<=t
 low:∀c x:Nat,c<cf.length->x<n -> -1<=tab2 T (c:Int) (x:Int)
 high:∀c x:Nat,c<cf.length->x<n->tab2 T (c:Int) (x:Int)<t
 none:∀c x:Nat,c<cf.length->x<n->tab2 T (c:Int) (x:Int)<0 -> ∀d∈mv.getD c [],0<=afterG cf ball T d (x:Int)->t-1<=afterG cf ball T d (x:Int)
 ex:∀c x:Nat,c<cf.length->x<n->1<=tab2 T (c:Int) (x:Int) -> ∃d∈mv.getD c [],0<=afterG cf ball T d (x:Int)/\afterG cf ball T d (x:Int)+1<=tab2 T (c:Int) (x:Int)
 least:∀c x:Nat,c<cf.length->x<n->1<=tab2 T (c:Int) (x:Int) -> ∀d∈mv.getD c [],0<=afterG cf ball T d (x:Int)->tab2 T (c:Int) (x:Int)<=afterG cf ball T d (x:Int)+1
 zero:∀c x:Nat,c<cf.length->x<n->(tab2 T (c:Int) (x:Int)=0↔hasL (cf.getD c []) (x:Int)=true)
structure TimesI (cf mv:List (List Int)) (ball:Int->List Int) (n:Nat) (T:Tab):Prop where
 low:∀c x:Nat,c<cf.length->x<n -> -1<=tab2 T (c:Int) (x:Int)
 none:∀c x:Nat,c<cf.length->x<n->tab2 T (c:Int) (x:Int)<0 -> ∀d∈mv.getD c [],afterG cf ball T d (x:Int)<0
 ex:∀c x:Nat,c<cf.length->x<n->1<=tab2 T (c:Int) (x:Int) -> ∃d∈mv.getD c [],0<=afterG cf ball T d (x:Int)/\afterG cf ball T d (x:Int)+1<=tab2 T (c:Int) (x:Int)
 least:∀c x:Nat,c<cf.length->x<n->1<=tab2 T (c:Int) (x:Int) -> ∀d∈mv.getD c [],0<=afterG cf ball T d (x:Int)->tab2 T (c:Int) (x:Int)<=afterG cf ball T d (x:Int)+1
 zero:∀c x:Nat,c<cf.length->x<n->(tab2 T (c:Int) (x:Int)=0↔hasL (cf.getD c []) (x:Int)=true)
end Go.V.W
namespace Go.V.W
structure Inv3 (p n:Nat) (ball:Nat->Int->List Int) (f:Nat->Nat->Nat->Int):Prop where
 low:∀r c q,-1<=f r c q
 home:∀r c,f r c c=0
 away:∀r c q,c≠q->f r c q≠0
 why:∀r c q,r<p->c<n->q<n->0<=f r c q->c=q \/ ∃b∈ball r (c:Int),0<=afterT (ball r) (tabL n (f ((r+1) % p))) b (q:Int)
theorem Inv3.start (p n:Nat) (ball:Nat->Int->List Int):Inv3 p n ball start3:=by
 refine ⟨fun r c q => ?_,fun r c => ?_,fun r c q h => ?_,fun r c q _ _ _ h => ?_⟩
 ·unfold start3 startF;split<;>omega
 ·unfold start3 startF;simp
 ·unfold start3 startF;rw [if_neg h];omega
 ·unfold start3 startF at h
  by_cases e:c=q
  ·exact .inl e
  ·rw [if_neg e] at h;omega
def okBalls (p n:Nat) (ball:Nat->Int->List Int):Prop := ∀r,r<p->okBall n (ball r)
theorem after_mono {n:Nat} {ball:Int->List Int} (hb:okBall n ball) {f g:Nat->Nat->Int} (h:∀c q,0<=f c q->0<=g c q) {b q:Nat} (hbn:b<n) (hq:q<n) (h0:0<=afterT ball (tabL n f) (b:Int) (q:Int)):0<=afterT ball (tabL n g) (b:Int) (q:Int):=by
 unfold afterT at h0 |-
 by_cases e:(b:Int)=(q:Int)
 ·rw [if_pos e];exact Int.le_refl _
 ·rw [if_neg e] at h0 |-
  rcases worst_spec (tab2 (tabL n f) (b:Int)) (ball (q:Int)) 0 with ⟨_,h1⟩ | ⟨h1,_,_⟩
  ·omega
  ·rcases worst_spec (tab2 (tabL n g) (b:Int)) (ball (q:Int)) 0 with ⟨⟨x,hx,h2⟩,_⟩ | ⟨_,h2,_⟩
   ·exfalso
    obtain ⟨y,hy,rfl⟩:=hb q hq x hx
    have:=(h1 _ hx).1
    rw [tab2_tabL _ hbn hy] at this h2
    have:=h _ _ this
    omega
   ·exact h2
theorem Inv3.next {p n:Nat} {ball:Nat->Int->List Int} (hb:okBalls p n ball) {t:Int} (ht:1<=t) {f:Nat->Nat->Nat->Int} (hI:Inv3 p n ball f):Inv3 p n ball (step3 p n ball t f):=by
 have hkeep:∀r c q,0<=f r c q->step3 p n ball t f r c q=f r c q:=fun r c q h=>by
  unfold step3 can3
  have:decide (f r c q<0)=false:=by simp;omega
  simp [this]
 have hge:∀r c q,0<=f r c q->0<=step3 p n ball t f r c q:=fun r c q h=>by rw [hkeep r c q h];exact h
 refine ⟨fun r c q => ?_,fun r c => ?_,fun r c q h => ?_,fun r c q hr hc hq h => ?_⟩
 ·unfold step3;split
  ·omega
  ·exact hI.low r c q
 ·rw [hkeep r c c (by rw [hI.home];exact Int.le_refl _)];exact hI.home r c
 ·unfold step3;split
  ·omega
  ·exact hI.away r c q h
 ·have key:(∃b∈ball r (c:Int),0<=afterT (ball r) (tabL n (f ((r+1) % p))) b (q:Int)) -> ∃b∈ball r (c:Int),0<=afterT (ball r) (tabL n (step3 p n ball t f ((r+1) % p))) b (q:Int):=by
   rintro ⟨b,hbm,h1⟩
   obtain ⟨y,hy,rfl⟩:=hb r hr c hc b hbm
   exact ⟨_,hbm,after_mono (hb r hr) (hge _) hy hq h1⟩
  by_cases hf:0<=f r c q
  ·exact (hI.why r c q hr hc hq hf).imp _root_.id key
  ·right
   have hcan:can3 p n ball f r c q=true:=by
    cases hcan:can3 p n ball f r c q with
    | true=>rfl
    | false=>unfold step3 at h;rw [if_neg (by rw [hcan];simp)] at h;exact absurd h hf
   unfold can3 at hcan
   simp only [Bool.and_eq_true,List.any_eq_true,decide_eq_true_eq] at hcan
   exact key hcan.2
end Go.V.W
namespace Go.V.W
open Go.Proofs
structure TT (nets:List Nt) (p n:Nat):Prop where
 ok:netsB n nets=true
 len:nets.length=p
 n8:n<=8
end Go.V.W
namespace Go.V.W
open Go.Proofs
theorem wrap_u8 {n:Int} (h0:0<=n) (h1:n<=255):IntKind.wrap .u8 n=n:=by
 obtain ⟨k,rfl⟩:∃k:Nat,n=k:=⟨n.toNat,by omega⟩
 unfold IntKind.wrap
 simp [IntKind.bits,IntKind.signed]
 omega
end Go.V.W
namespace Go.V.W
open Go.Proofs
theorem and255 (x:Int):0<=bits .and .u64 x 255/\bits .and .u64 x 255<=255:=by
 have h:bits .and .u64 x 255=IntKind.wrap .u64 ((BitVec.ofInt 64 x&&&BitVec.ofInt 64 255).toNat:Int):=rfl
 have e:(BitVec.ofInt 64 x&&&BitVec.ofInt 64 255).toNat<=255:=by
  rw [BitVec.toNat_and]
  have:(BitVec.ofInt 64 255).toNat=255:=by decide
  rw [this]
  exact Nat.and_le_right
 rw [h]
 generalize (BitVec.ofInt 64 x&&&BitVec.ofInt 64 255).toNat=m at e
 unfold IntKind.wrap
 simp [IntKind.bits,IntKind.signed]
 omega
theorem next_ok {c:Cur} {u:Unit} (h:CurB c) (hf:c.2.1<=far_):Ok (F_q34q 0 (c,u)) fun r=>0<=r.1/\r.1<=255/\Adv 1 c r.2.1:=by
 obtain ⟨l,a,s,_⟩:=c
 obtain ⟨hb,ha⟩:=h
 simp only at hb ha hf
 unfold far_ at hf
 have w1:IntKind.wrap .i64 (a+1)=a+1:=wrap_in _ (by omega) (by omega)
 have hx:=and255
 have w2:∀x:Int,IntKind.wrap .i64 (bits .and .u64 x 255)=bits .and .u64 x 255:=fun x=>wrap_in _ (by have:=(hx x).1;omega) (by have:=(hx x).2;omega)
 have adv:∀s',Adv 1 (l,a,s,()) (l,a+1,s',()):=fun s'=>⟨⟨hb,by simp only;omega⟩,by simp only;omega⟩
 unfold F_q34q
 simp only [w1,w2]
 refine Ok.ite (fun h1 => ?_) (fun h1 => ?_)
 ·have h1:a<l.length:=of_decide_eq_true h1
  refine Ok.pos (by unfold idxIn;simp;omega) ?_
  obtain ⟨v,hv⟩:∃v:Int,at_ (.int .u8) l a.toNat=v:=⟨_,rfl⟩
  have hv':0<=v/\v<=255:=by
   have hlt:a.toNat<l.length:=by omega
   rw [at_get (e:=.int .u8) hlt] at hv
   rw [<- hv]
   exact hb _ (List.getElem_mem hlt)
  rw [hv]
  have w3:IntKind.wrap .i64 v=v:=wrap_in _ (by omega) (by omega)
  simp only [w3]
  refine Ok.ite (fun _=>Ok.some ⟨hv'.1,hv'.2,adv _⟩) (fun _=>Ok.pos rfl (Ok.some ⟨(hx _).1,(hx _).2,adv _⟩))
 ·refine Ok.ite (fun _=>Ok.some ⟨by simp,by simp,adv _⟩) (fun _=>Ok.pos rfl (Ok.some ⟨(hx _).1,(hx _).2,adv _⟩))
theorem tmod_in {x n:Int} (h:0<=x) (hn:0<n):0<=x.tmod n/\x.tmod n<n:=by
 rw [Int.tmod_eq_emod_of_nonneg h]
 exact ⟨Int.emod_nonneg _ (by omega),Int.emod_lt_of_pos _ hn⟩
theorem pick_ok {c:Cur} {n:Int} {u:Unit} (h:CurB c) (hf:c.2.1+2<=far_):Ok (F_q37q 0 (c,n,u)) fun r=>0<=r.1/\(r.1<n\/r.1=0)/\Adv 2 c r.2.1:=by
 unfold F_q37q
 simp only
 refine Ok.ite (fun h1=>Ok.some ⟨Int.le_refl _,.inr rfl,h,by simp only;omega⟩) (fun h1 => ?_)
 have h1:¬n<=1:=of_decide_eq_false h1
 have hn:(n != 0)=true:=by simp;omega
 refine Ok.bind (next_ok h (by omega)) fun r hr => ?_
 obtain ⟨r1,r2,r3⟩:=hr
 refine Ok.ite (fun h2 => ?_) (fun h2 => ?_)
 ·have w1:IntKind.wrap .i64 (r.1*256)=r.1*256:=wrap_in _ (by omega) (by omega)
  refine Ok.bind (next_ok r3.1 (by have:=r3.2;omega)) fun q hq => ?_
  obtain ⟨q1,q2,q3⟩:=hq
  have w2:IntKind.wrap .i64 (r.1*256+q.1)=r.1*256+q.1:=wrap_in _ (by omega) (by omega)
  refine Ok.pos hn (Ok.some ?_)
  rw [w1,w2]
  have:=tmod_in (x:=r.1*256+q.1) (n:=n) (by omega) (by omega)
  exact ⟨this.1,.inl this.2,(r3.trans q3).le (by omega)⟩
 ·refine Ok.pos hn (Ok.some ?_)
  have:=tmod_in (x:=r.1) (n:=n) (by omega) (by omega)
  exact ⟨this.1,.inl this.2,r3.le (by omega)⟩
theorem one_ok {c:Cur} {n:Int} {u:Unit} (h:CurB c) (hf:c.2.1+2<=far_):Ok (F_q50q 0 (c,n,u)) fun r=>Adv 2 c r.2.1:=by
 unfold F_q50q
 simp only
 exact Ok.bind (pick_ok h hf) fun r hr=>Ok.some hr.2.2
theorem among_ok {c:Cur} {l:List Int} {u:Unit} (h:CurB c) (hf:c.2.1+2<=far_) (hl:0<l.length):Ok (F_q21q 0 (c,l,u)) fun r=>r.1∈l/\Adv 2 c r.2.1:=by
 unfold F_q21q
 simp only
 refine Ok.bind (pick_ok h hf) fun r hr => ?_
 obtain ⟨r1,r2,r3⟩:=hr
 have hlt:r.1.toNat<l.length:=by omega
 refine Ok.pos (by unfold idxIn;simp;omega) (Ok.some ⟨?_,r3⟩)
 rw [at_get (e:=I) hlt]
 exact List.getElem_mem hlt
end Go.V.W
namespace Go.V.W
open Go.Proofs
theorem pa_l0 (N:Nat) (n:Nat) (hn:n<=8) (z:Gr) (a:Int):∀k x f (es:List E),x+k=n->k<f->es.length<=x -> ∃es',q103q_l0 N f ((n:Int),z,(a,es,()),(x:Int),())=some (.inl (z,(a,es',()),()))/\es'.length<=100:=by
 intro k
 induction k with
 | zero=>
  intro x f es h1 h2 h3
  obtain ⟨f,rfl⟩:∃m,f=m+1:=⟨f-1,by omega⟩
  refine ⟨es,?_,by omega⟩
  have hlt:decide (((x+1:Nat):Int)<(n:Int))=false:=decide_eq_false (by omega)
  show q103q_l0_r _ _ _=_
  unfold q103q_l0_r
  simp only [small_wrap (show x<=100000 by omega),hlt,Bool.false_eq_true,if_false]
 | succ k ih=>
  intro x f es h1 h2 h3
  obtain ⟨f,rfl⟩:∃m,f=m+1:=⟨f-1,by omega⟩
  by_cases hx:x+1<n
  ·have hlt:decide (((x+1:Nat):Int)<(n:Int))=true:=decide_eq_true (by omega)
   have hle:∀e:E,decide (es.length+List.length [e]<=lim)=true:=fun e=>by unfold lim;simp;omega
   obtain ⟨es',e1,e2⟩:=ih (x+1) f (es++[((x:Int),((x+1:Nat):Int),())]) (by omega) (by omega) (by simp;omega)
   refine ⟨es',?_,e2⟩
   rw [<- e1]
   show q103q_l0_r _ _ _=_
   unfold q103q_l0_r
   simp only [small_wrap (show x<=100000 by omega),hlt,if_true,hle]
  ·refine ⟨es,?_,by omega⟩
   have hlt:decide (((x+1:Nat):Int)<(n:Int))=false:=decide_eq_false (by omega)
   show q103q_l0_r _ _ _=_
   unfold q103q_l0_r
   simp only [small_wrap (show x<=100000 by omega),hlt,Bool.false_eq_true,if_false]
theorem path_ok (n:Nat) (hn:n<=8):Ok (pickF F_q103q P_path ((n:Int),())) (P_path ((n:Int),())):=by
 refine Ok.pick 20 ?_
 obtain ⟨es,e1,e2⟩:=pa_l0 20 n hn (0,[],()) (n:Int) n 0 20 [] (by omega) (by omega) (by simp)
 refine ⟨(((n:Int),es,()),()),?_,e2⟩
 unfold F_q103q
 simp only [Int.natCast_zero] at e1
 simp only [e1,Option.bind_some]
theorem wh_l2 (N:Nat) (n:Nat) (hn:n<=8) (z:Gr) (a:Int) (x:Int):∀k y f (es:List E),y+k=n->k<f->es.length+k<=1000 -> ∃es',q36q_l2 N f ((n:Int),z,(a,es,()),x,(y:Int),())=some (.inl ((n:Int),z,(a,es',()),x,()))/\es'.length=es.length+k:=by
 intro k
 induction k with
 | zero=>
  intro y f es h1 h2 h3
  obtain ⟨f,rfl⟩:∃m,f=m+1:=⟨f-1,by omega⟩
  refine ⟨es,?_,by omega⟩
  have hlt:decide ((y:Int)<(n:Int))=false:=decide_eq_false (by omega)
  show q36q_l2_r _ _ _=_
  unfold q36q_l2_r
  simp only [hlt,Bool.false_eq_true,if_false]
 | succ k ih=>
  intro y f es h1 h2 h3
  obtain ⟨f,rfl⟩:∃m,f=m+1:=⟨f-1,by omega⟩
  have hlt:decide ((y:Int)<(n:Int))=true:=decide_eq_true (by omega)
  have hle:∀e:E,decide (es.length+List.length [e]<=lim)=true:=fun e=>by unfold lim;simp;omega
  obtain ⟨es',e1,e2⟩:=ih (y+1) f (es++[(x,(y:Int),())]) (by omega) (by omega) (by simp;omega)
  refine ⟨es',?_,by rw [e2];simp;omega⟩
  rw [<- e1]
  show q36q_l2_r _ _ _=_
  unfold q36q_l2_r
  simp only [hlt,if_true,hle,small_wrap (show y<=100000 by omega)]
theorem wh_l0 (N:Nat) (hN:20<=N) (n:Nat) (hn:n<=8) (z:Gr) (a:Int):∀k x f (es:List E),x+k=n->k<f->es.length<=8*x -> ∃es',q36q_l0 N f ((n:Int),z,(a,es,()),(x:Int),())=some (.inl (z,(a,es',()),()))/\es'.length<=100:=by
 intro k
 induction k with
 | zero=>
  intro x f es h1 h2 h3
  obtain ⟨f,rfl⟩:∃m,f=m+1:=⟨f-1,by omega⟩
  refine ⟨es,?_,by omega⟩
  have hlt:decide ((x:Int)<(n:Int))=false:=decide_eq_false (by omega)
  show q36q_l0_r _ _ _=_
  unfold q36q_l0_r
  simp only [hlt,Bool.false_eq_true,if_false]
 | succ k ih=>
  intro x f es h1 h2 h3
  obtain ⟨f,rfl⟩:∃m,f=m+1:=⟨f-1,by omega⟩
  have hlt:decide ((x:Int)<(n:Int))=true:=decide_eq_true (by omega)
  obtain ⟨e1,q1,q2⟩:=wh_l2 N n hn z a (x:Int) (n-(x+1)) (x+1) N es (by omega) (by omega) (by omega)
  obtain ⟨es',r1,r2⟩:=ih (x+1) f e1 (by omega) (by omega) (by omega)
  refine ⟨es',?_,r2⟩
  rw [<- r1]
  show q36q_l0_r _ _ _=_
  unfold q36q_l0_r
  simp only [hlt,if_true,small_wrap (show x<=100000 by omega),q1,Option.bind_some]
theorem whole_ok (n:Nat) (hn:n<=8):Ok (pickF F_q36q P_path ((n:Int),())) (P_path ((n:Int),())):=by
 refine Ok.pick 20 ?_
 obtain ⟨es,e1,e2⟩:=wh_l0 20 (by omega) n hn (0,[],()) (n:Int) n 0 20 [] (by omega) (by omega) (by simp)
 refine ⟨(((n:Int),es,()),()),?_,e2⟩
 unfold F_q36q
 simp only [Int.natCast_zero] at e1
 simp only [e1,Option.bind_some]
end Go.V.W
namespace Go.V.W
open Go.Proofs
theorem marred_ok {c:Cur} {n:Int} {es:List E} {v u:Unit} (h:CurB c) (hf:c.2.1+20<=far_) (hl:es.length<=150):Ok (F_q15q 0 (c,(n,es,v),u)) fun r=>r.1.2.1.length<=es.length+1/\Adv 10 c r.2.1:=by
 unfold F_q15q
 simp only
 have hle:∀e:E,decide (es.length+List.length [e]<=lim)=true:=fun e=>by unfold lim;simp;omega
 refine Ok.bind (pick_ok h (by omega)) fun r hr => ?_
 obtain ⟨r1,r2,r3⟩:=hr
 have q3:=r3.2
 refine Ok.ite (fun _ => ?_) fun _=>Ok.ite (fun _ => ?_) fun _=>Ok.ite (fun _ => ?_) fun _ => ?_
 ·refine Ok.bind (among_ok r3.1 (by omega) (by simp)) fun s hs=>Ok.some ⟨by simp,(r3.trans hs.2).le (by omega)⟩
 ·refine Ok.bind (pick_ok r3.1 (by omega)) fun s hs => ?_
  have s3:=hs.2.2.2
  refine Ok.bind (pick_ok hs.2.2.1 (by omega)) fun t ht => ?_
  refine Ok.pos (hle _) (Ok.some ⟨by simp,((r3.trans hs.2.2).trans ht.2.2).le (by omega)⟩)
 ·refine Ok.ite (fun hp => ?_) fun _=>Ok.some ⟨by simp,r3.le (by omega)⟩
  have hp:=of_decide_eq_true hp
  refine Ok.bind (pick_ok r3.1 (by omega)) fun s hs => ?_
  obtain ⟨s1,s2,s3⟩:=hs
  refine Ok.pos (by unfold idxIn;simp;omega) (Ok.pos (hle _) (Ok.some ⟨by simp,(r3.trans s3).le (by omega)⟩))
 ·exact Ok.some ⟨by simp,r3.le (by omega)⟩
end Go.V.W
namespace Go.V.W
open Go.Proofs
theorem insE_lenU (e:E):∀l:List E,(insE e l).length=l.length+1:=by
 intro l
 induction l with
 | nil=>rfl
 | cons a l ih=>unfold insE;split<;>simp [ih]
theorem put_ok {es:List E} {e:E} {u:Unit} (h:es.length<=1000):Ok (G_l2Put (es,e,u)) fun r=>r.1.length=es.length+1:=by
 unfold G_l2Put
 rw [if_pos (decide_eq_true h)]
 exact Ok.some (insE_lenU _ _)
theorem near_ok {g:Gr} {x y:Int} {u:Unit} (h:g.2.1.length<=1000):Ok (G_l2Near (g,x,y,u)) fun _=>True:=by
 unfold G_l2Near
 rw [if_pos (show okL g.2.1=true from decide_eq_true (by unfold lim;omega))]
 exact Ok.some trivial
theorem cycle_ok (n:Nat) (hn:n<=8):Ok (F_q82q 0 ((n:Int),())) fun r=>r.1.2.1.length<=101:=by
 unfold F_q82q
 simp only
 refine Ok.bind (path_ok n hn) fun r hr => ?_
 have hr:r.1.2.1.length<=100:=hr
 refine Ok.bind (put_ok (by omega)) fun q hq=>Ok.some ?_
 simp only
 omega
theorem sg_l3 (N:Nat) (n:Nat) (hn:n<=8) (z:Gr) (a w:Int) (b:Bool) (x:Int):∀k y f (c:Cur) (es:List E),y+k=n->k<f->CurB c->c.2.1+2*(k:Int)<=far_->es.length+k<=1000 ->
  Ok (q8q_l3 N f (c,z,(n:Int),(a,es,()),w,b,x,(y:Int),())) fun o => ∃c' es',o=.inl (c',z,(n:Int),(a,es',()),w,b,x,())/\Adv (2*(k:Int)) c c'/\es'.length<=es.length+k:=by
 intro k
 induction k with
 | zero=>
  intro y f c es h1 h2 h3 h4 h5
  obtain ⟨f,rfl⟩:∃m,f=m+1:=⟨f-1,by omega⟩
  have hlt:decide ((y:Int)<(n:Int))=false:=decide_eq_false (by omega)
  show Ok (q8q_l3_r _ _ _) _
  unfold q8q_l3_r
  simp only [hlt,Bool.false_eq_true,if_false]
  exact Ok.some ⟨c,es,rfl,⟨h3,by omega⟩,by omega⟩
 | succ k ih=>
  intro y f c es h1 h2 h3 h4 h5
  obtain ⟨f,rfl⟩:∃m,f=m+1:=⟨f-1,by omega⟩
  have hlt:decide ((y:Int)<(n:Int))=true:=decide_eq_true (by omega)
  show Ok (q8q_l3_r _ _ _) _
  unfold q8q_l3_r
  simp only [hlt,if_true,small_wrap (show y<=100000 by omega)]
  refine Ok.bind (pick_ok h3 (by omega)) fun r hr => ?_
  have r3:=hr.2.2.2
  refine Ok.ite (fun _ => ?_) (fun _ => ?_)
  ·refine Ok.bind (put_ok (by omega)) fun q hq => ?_
   refine (ih (y+1) f r.2.1 q.1 (by omega) (by omega) hr.2.2.1 (by omega) (by omega)).mono fun o ho => ?_
   obtain ⟨c',es',e1,e2,e3⟩:=ho
   exact ⟨c',es',e1,(hr.2.2.trans e2).le (by omega),by omega⟩
  ·refine (ih (y+1) f r.2.1 es (by omega) (by omega) hr.2.2.1 (by omega) (by omega)).mono fun o ho => ?_
   obtain ⟨c',es',e1,e2,e3⟩:=ho
   exact ⟨c',es',e1,(hr.2.2.trans e2).le (by omega),by omega⟩
theorem sg_l1 (N:Nat) (hN:20<=N) (n:Nat) (hn:n<=8) (z:Gr) (a w:Int) (b:Bool):∀k x f (c:Cur) (es:List E),x+k=n->k<f->CurB c->c.2.1+20*(k:Int)<=far_->es.length<=10*x ->
  Ok (q8q_l1 N f (c,z,(n:Int),(a,es,()),w,b,(x:Int),())) fun o => ∃c' es',o=.inl (c',z,(a,es',()),())/\Adv (20*(k:Int)) c c'/\es'.length<=10*n:=by
 intro k
 induction k with
 | zero=>
  intro x f c es h1 h2 h3 h4 h5
  obtain ⟨f,rfl⟩:∃m,f=m+1:=⟨f-1,by omega⟩
  have hlt:decide ((x:Int)<(n:Int))=false:=decide_eq_false (by omega)
  show Ok (q8q_l1_r _ _ _) _
  unfold q8q_l1_r
  simp only [hlt,Bool.false_eq_true,if_false]
  exact Ok.some ⟨c,es,rfl,⟨h3,by omega⟩,by omega⟩
 | succ k ih=>
  intro x f c es h1 h2 h3 h4 h5
  obtain ⟨f,rfl⟩:∃m,f=m+1:=⟨f-1,by omega⟩
  have hlt:decide ((x:Int)<(n:Int))=true:=decide_eq_true (by omega)
  show Ok (q8q_l1_r _ _ _) _
  unfold q8q_l1_r
  simp only [hlt,if_true,small_wrap (show x<=100000 by omega)]
  refine Ok.bind (sg_l3 N n hn z a w b (x:Int) (n-(x+1)) (x+1) N c es (by omega) (by omega) h3 (by omega) (by omega)) fun o ho => ?_
  obtain ⟨c1,e1,rfl,a1,l1⟩:=ho
  have b1:=a1.2
  simp only [small_wrap (show x<=100000 by omega)]
  refine Ok.bind (pick_ok a1.1 (by omega)) fun r hr => ?_
  have r3:=hr.2.2.2
  have more:∀es2:List E,es2.length<=10*(x+1)->Ok (q8q_l1 N f (r.2.1,z,(n:Int),(a,es2,()),w,b,((x+1:Nat):Int),())) fun o => ∃c' es',o=.inl (c',z,(a,es',()),())/\Adv (20*((k+1:Nat):Int)) c c'/\es'.length<=10*n:=fun es2 h=>by
   refine (ih (x+1) f r.2.1 es2 (by omega) (by omega) hr.2.2.1 (by omega) (by omega)).mono fun o ho => ?_
   obtain ⟨c',es',e1,e2,e3⟩:=ho
   exact ⟨c',es',e1,((a1.trans hr.2.2).trans e2).le (by omega),by omega⟩
  refine Ok.ite (fun _=>Ok.ite (fun _ => ?_) fun _=>more _ (by omega)) fun _=>more _ (by omega)
  refine Ok.bind (near_ok (by simp only;omega)) fun _ _=>Ok.ite (fun _ => ?_) fun _=>more _ (by omega)
  refine Ok.bind (put_ok (by omega)) fun q hq=>more _ (by omega)
noncomputable def sgTail (N:Nat) (c:Cur) (n:Int):Option (Gr×Cur×Unit):=
  ((F_q37q 0) ((c,((8:Int),())))).bind fun r49=>
  if (r49.1==(0:Int))=true then
   ((pickF F_q103q P_path) (n,())).bind fun r50=>
   ((F_q15q 0) ((r49.2.1,(r50.1,())))).bind fun r51=>
   some ((r51.1,(r51.2.1,())))
  else
   if (r49.1==(1:Int))=true then
    if (decide (n>(2:Int)))=true then
     ((F_q82q 0) (n,())).bind fun r52=>
     ((F_q15q 0) ((r49.2.1,(r52.1,())))).bind fun r53=>
     some ((r53.1,(r53.2.1,())))
    else
     ((F_q15q 0) ((r49.2.1,((n,(([]:List (Int×Int×Unit)),())),())))).bind fun r54=>
     some ((r54.1,(r54.2.1,())))
   else
    if (r49.1==(2:Int))=true then
     ((pickF F_q36q P_path) (n,())).bind fun r55=>
     ((F_q15q 0) ((r49.2.1,(r55.1,())))).bind fun r56=>
     some ((r56.1,(r56.2.1,())))
    else
     ((F_q21q 0) ((r49.2.1,([(3:Int),(4:Int),(6:Int)],())))).bind fun r57=>
     ((F_q50q 0) ((r57.2.1,((6:Int),())))).bind fun r58=>
     (q8q_l1 N N ((r58.2.1,(((0:Int),(([]:List (Int×Int×Unit)),())),(n,((n,(([]:List (Int×Int×Unit)),())),(r57.1,(r58.1,((0:Int),()))))))))).bind fun o59=>match o59 with
     | .inl d60=>
      ((F_q15q 0) ((d60.1,(d60.2.2.1,())))).bind fun r61=>
      some ((r61.1,(r61.2.1,())))
theorem sgTail_ok {c:Cur} {n:Int} {m:Nat} (hm:m<=8) (he:n=m) (h:CurB c) (hf:c.2.1+250<=far_):Ok (sgTail 20 c n) fun r=>Adv 200 c r.2.1/\r.1.2.1.length<=200:=by
 subst he
 have mar:∀(c1:Cur) (g:Gr),Adv 180 c c1->g.2.1.length<=150->Ok ((F_q15q 0 (c1,g,())).bind fun r=>some (r.1,r.2.1,())) fun r=>Adv 200 c r.2.1/\r.1.2.1.length<=200:=by
  intro c1 g h1 h2
  have:=h1.2
  obtain ⟨n,es,u⟩:=g
  refine Ok.bind (marred_ok h1.1 (by omega) h2) fun r hr=>Ok.some ⟨(h1.trans hr.2).le (by omega),?_⟩
  have:=hr.1
  simp only at h2 |-
  omega
 unfold sgTail
 refine Ok.bind (pick_ok h (by omega)) fun r hr => ?_
 have a1:=hr.2.2
 have b1:=a1.2
 refine Ok.ite (fun _ => ?_) fun _=>Ok.ite (fun _=>Ok.ite (fun _ => ?_) fun _=>mar _ _ (a1.le (by omega)) (by simp)) fun _=>Ok.ite (fun _ => ?_) fun _ => ?_
 ·refine Ok.bind (path_ok m hm) fun q hq=>mar _ _ (a1.le (by omega)) ?_
  have:q.1.2.1.length<=100:=hq
  omega
 ·refine Ok.bind (cycle_ok m hm) fun q hq=>mar _ _ (a1.le (by omega)) (by omega)
 ·refine Ok.bind (whole_ok m hm) fun q hq=>mar _ _ (a1.le (by omega)) ?_
  have:q.1.2.1.length<=100:=hq
  omega
 ·refine Ok.bind (among_ok a1.1 (by omega) (by simp)) fun q hq => ?_
  have a2:=a1.trans hq.2
  have b2:=a2.2
  refine Ok.bind (one_ok a2.1 (by omega)) fun s hs => ?_
  have a3:=a2.trans hs
  have b3:=a3.2
  have hl:=sg_l1 20 (by omega) m hm (0,[],()) (m:Int) q.1 s.1 m 0 20 s.2.1 [] (by omega) (by omega) a3.1 (by omega) (by simp)
  simp only [Int.natCast_zero] at hl
  refine Ok.bind hl fun o ho => ?_
  obtain ⟨c',es',rfl,e2,e3⟩:=ho
  exact mar _ _ ((a3.trans e2).le (by omega)) (by simp only;omega)
theorem least_in {x y:Int} {u:Unit} (h:0<=x) (h2:0<=y) (h3:y<=8):∃m:Nat,m<=8/\(g_q76q (x,y,u)).1=(m:Int):=by
 unfold g_q76q
 simp only
 split
 ·rename_i hh
  have:=of_decide_eq_true hh
  exact ⟨x.toNat,by omega,by simp only;omega⟩
 ·exact ⟨y.toNat,by omega,by simp only;omega⟩
theorem someGraph_ok {c:Cur} {a:Int} (h:CurB c) (hf:c.2.1+300<=far_) (h0:0<=a) (h8:a<=8):Ok (pickF F_q8q P_someG (c,a,())) (P_someG (c,a,())):=by
 refine Ok.pick 20 ?_
 have fin:∀(c1:Cur) (n:Int) (m:Nat),m<=8->n=m->Adv 50 c c1->Ok (sgTail 20 c1 n) (P_someG (c,a,())):=fun c1 n m hm he h1=>by
  have:=h1.2
  exact (sgTail_ok hm he h1.1 (by omega)).mono fun r hr=>⟨(h1.trans hr.1).le (by omega),hr.2⟩
 unfold F_q8q
 simp only
 refine Ok.bind (among_ok h (by omega) (by simp)) fun r hr => ?_
 have r0:0<=r.1:=by
  have:=hr.1
  simp at this
  omega
 have a1:=hr.2
 have b1:=a1.2
 refine Ok.ite (fun _ => ?_) fun _ => ?_
 ·refine Ok.bind (one_ok a1.1 (by omega)) fun s hs => ?_
  have a2:=a1.trans hs
  have b2:=a2.2
  refine Ok.ite (fun _ => ?_) fun _ => ?_
  ·refine Ok.bind (pick_ok a2.1 (by omega)) fun t ht => ?_
   have a3:=a2.trans ht.2.2
   have w:IntKind.wrap .i64 ((7:Int)+t.1)=7+t.1:=wrap_in _ (by have:=ht.1;omega) (by have:=ht.2.1;omega)
   obtain ⟨m,hm,em⟩:=least_in (x:=IntKind.wrap .i64 ((7:Int)+t.1)) (u:=()) (by rw [w];have:=ht.1;omega) h0 h8
   exact fin _ _ m hm em (a3.le (by omega))
  ·obtain ⟨m,hm,em⟩:=least_in (u:=()) r0 h0 h8
   exact fin _ _ m hm em (a2.le (by omega))
 ·obtain ⟨m,hm,em⟩:=least_in (u:=()) r0 h0 h8
  exact fin _ _ m hm em (a1.le (by omega))
end Go.V.W
namespace Go.V.W
open Go.Proofs
theorem tm_l2 (N:Nat) (z:Gr) (n x y:Int) (ball:List Int) (hb:ball.length<=9):∀k i f (c:Cur) (es:List E),i+k=ball.length->k<f->CurB c->c.2.1+2*(k:Int)<=far_->es.length+k<=900 ->
  Ok (q42q_l2 N f (c,z,(n,es,()),x,y,ball,(i:Int),())) fun o => ∃c' es',o=.inl (c',z,(n,es',()),x,())/\Adv (2*(k:Int)) c c'/\es'.length<=es.length+k:=by
 intro k
 induction k with
 | zero=>
  intro i f c es h1 h2 h3 h4 h5
  obtain ⟨f,rfl⟩:∃m,f=m+1:=⟨f-1,by omega⟩
  have hlt:decide ((i:Int)<(ball.length:Int))=false:=decide_eq_false (by omega)
  show Ok (q42q_l2_r _ _ _) _
  unfold q42q_l2_r
  simp only [hlt,Bool.false_eq_true,if_false]
  exact Ok.some ⟨c,es,rfl,⟨h3,by omega⟩,by omega⟩
 | succ k ih=>
  intro i f c es h1 h2 h3 h4 h5
  obtain ⟨f,rfl⟩:∃m,f=m+1:=⟨f-1,by omega⟩
  have hi:i<ball.length:=by omega
  have go:∀(c1:Cur) (es1:List E),Adv 2 c c1->es1.length<=es.length+1->Ok (q42q_l2 N f (c1,z,(n,es1,()),x,y,ball,((i+1:Nat):Int),())) fun o => ∃c' es',o=.inl (c',z,(n,es',()),x,())/\Adv (2*((k+1:Nat):Int)) c c'/\es'.length<=es.length+(k+1):=fun c1 es1 ha hl=>by
   have hb:=ha.2
   refine (ih (i+1) f c1 es1 (by omega) (by omega) ha.1 (by omega) (by omega)).mono fun o ho => ?_
   obtain ⟨c',es',e1,e2,e3⟩:=ho
   exact ⟨c',es',e1,(ha.trans e2).le (by omega),by omega⟩
  have a0:Adv 2 c c:=⟨h3,by omega⟩
  show Ok (q42q_l2_r _ _ _) _
  unfold q42q_l2_r
  simp only [lt_dec hi,if_true,idxIn_nat hi,Int.toNat_natCast,small_wrap (show i<=100000 by omega)]
  refine Ok.ite (fun _=>Ok.ite (fun _ => ?_) fun _ => ?_) fun _=>go c es a0 (by omega)
  ·exact Ok.bind (put_ok (by omega)) fun q hq=>go c q.1 a0 (by omega)
  ·refine Ok.bind (one_ok h3 (by omega)) fun r hr=>Ok.ite (fun _ => ?_) fun _=>go _ es hr (by omega)
   exact Ok.bind (put_ok (by omega)) fun q hq=>go _ q.1 hr (by omega)
theorem tm_l0 (N:Nat) (hN:20<=N) (z:Gr) (n:Nat) (hn:n<=8):∀k x f (c:Cur) (es:List E),x+k=n->k<f->CurB c->c.2.1+20*(k:Int)<=far_->es.length+9*k<=100 ->
  Ok (q42q_l0 N f (c,z,((n:Int),es,()),(x:Int),())) fun o => ∃c' es',o=.inl (c',z,((n:Int),es',()),())/\Adv (20*(k:Int)) c c'/\es'.length<=100:=by
 intro k
 induction k with
 | zero=>
  intro x f c es h1 h2 h3 h4 h5
  obtain ⟨f,rfl⟩:∃m,f=m+1:=⟨f-1,by omega⟩
  have hlt:decide ((x:Int)<(n:Int))=false:=decide_eq_false (by omega)
  show Ok (q42q_l0_r _ _ _) _
  unfold q42q_l0_r
  simp only [hlt,Bool.false_eq_true,if_false]
  exact Ok.some ⟨c,es,rfl,⟨h3,by omega⟩,by omega⟩
 | succ k ih=>
  intro x f c es h1 h2 h3 h4 h5
  obtain ⟨f,rfl⟩:∃m,f=m+1:=⟨f-1,by omega⟩
  have hlt:decide ((x:Int)<(n:Int))=true:=decide_eq_true (by omega)
  show Ok (q42q_l0_r _ _ _) _
  unfold q42q_l0_r
  simp only [hlt,if_true]
  refine Ok.bind (pick_ok h3 (by omega)) fun r hr => ?_
  have rb:=hr.2.2.2
  have ho:okL es=true:=okL_of (by omega)
  have hball:=ball_eq ((n:Int),es,()) n rfl hn ho r.1
  have hlen:(ballL n es r.1).length<=9:=by
   unfold ballL
   have h1:=putL_len r.1 (setF (fun y=>nearI es r.1 (y:Int)) n 0)
   have h2:(setF (fun y=>nearI es r.1 (y:Int)) n 0).length<=n:=setF_len
   omega
  simp only [hball,Option.bind_some]
  have hin:=tm_l2 N z (n:Int) (x:Int) r.1 (ballL n es r.1) hlen (ballL n es r.1).length 0 N r.2.1 es (by omega) (by omega) hr.2.2.1 (by omega) (by omega)
  simp only [Int.natCast_zero] at hin
  refine Ok.bind hin fun o ho' => ?_
  obtain ⟨c1,e1,rfl,a1,l1⟩:=ho'
  have b1:=a1.2
  simp only [small_wrap (show x<=100000 by omega)]
  refine (ih (x+1) f c1 e1 (by omega) (by omega) a1.1 (by omega) (by omega)).mono fun o ho2 => ?_
  obtain ⟨c',es',q1,q2,q3⟩:=ho2
  exact ⟨c',es',q1,((hr.2.2.trans a1).trans q2).le (by omega),q3⟩
theorem tame_ok {c:Cur} {a:Int} (h:CurB c) (hf:c.2.1+300<=far_) (h8:a<=8):Ok (pickF F_q42q P_someG (c,a,())) (P_someG (c,a,())):=by
 refine Ok.pick 30 ?_
 unfold F_q42q
 simp only
 refine Ok.bind (pick_ok h (by omega)) fun r hr => ?_
 have b1:=hr.2.2.2
 obtain ⟨j,hj⟩:∃j:Nat,r.1=j:=⟨r.1.toNat,by have:=hr.1;omega⟩
 have hj8:j<8:=by
  have:=hr.2.1
  omega
 have hw:IntKind.wrap .i64 ((1:Int)+r.1)=((1+j:Nat):Int):=by rw [hj,wrap_in _ (by omega) (by omega)];omega
 simp only [hw]
 have hl:=tm_l0 30 (by omega) (0,[],()) (1+j) (by omega) j 1 30 r.2.1 [] (by omega) (by omega) hr.2.2.1 (by omega) (by simp;omega)
 refine Ok.bind hl fun o ho => ?_
 obtain ⟨c1,es,rfl,a1,l1⟩:=ho
 have a2:=hr.2.2.trans a1
 have b2:=a2.2
 simp only
 refine Ok.bind (one_ok a2.1 (by omega)) fun s hs => ?_
 have a3:=a2.trans hs
 have b3:=a3.2
 refine Ok.ite (fun _ => ?_) fun _=>Ok.some ⟨a3.le (by omega),by simp only;omega⟩
 refine Ok.bind (marred_ok a3.1 (by omega) (by omega)) fun t ht=>Ok.some ⟨(a3.trans ht.2).le (by omega),?_⟩
 have:=ht.1
 simp only
 omega
theorem field3_ok {c:Cur} {u:Unit} (h:CurB c) (hf:c.2.1+400<=far_):Ok (F_q17q 0 (c,u)) fun r=>Adv 400 c r.2.1/\r.1.2.1.length<=200:=by
 unfold F_q17q F_q27q
 simp only
 refine Ok.bind (one_ok h (by omega)) fun r hr => ?_
 have b1:=hr.2
 refine Ok.ite (fun _ => ?_) fun _ => ?_
 ·exact Ok.bind (tame_ok hr.1 (by omega) (by omega)) fun s hs=>Ok.some ⟨(hr.trans hs.1).le (by omega),hs.2⟩
 ·exact Ok.bind (Ok.bind (someGraph_ok hr.1 (by omega) (by omega) (by omega)) fun s hs=>Ok.some hs) fun s hs=>Ok.some ⟨(hr.trans hs.1).le (by omega),hs.2⟩
end Go.V.W
namespace Go.V.W
open Go.Proofs
structure Sts (m cfn:Nat) (st:List St):Prop where
 at_:∀j (h:j<st.length),(∃c:Nat,st[j].1=(c:Int)/\c<cfn)/\(∃p:Nat->Bool,st[j].2.1=setF p m 0) /\ -1<=st[j].2.2.1/\st[j].2.2.1<(j:Int)
theorem Sts.push {m cfn:Nat} {st:List St} (h:Sts m cfn st) {c:Nat} (hc:c<cfn) (p:Nat->Bool) {b:Int} (h1 : -1<=b) (h2:b<(st.length:Int)):Sts m cfn (st++[((c:Int),setF p m 0,b,())]):=by
 refine ⟨fun j hj => ?_⟩
 by_cases hl:j<st.length
 ·rw [List.getElem_append_left hl]
  exact h.at_ j hl
 ·have e:j=st.length:=by simp at hj;omega
  subst e
  rw [List.getElem_append_right (by omega)]
  simp only [Nat.sub_self,List.getElem_cons_zero]
  exact ⟨⟨c,rfl,hc⟩,⟨p,rfl⟩,h1,h2⟩
def cntT (l:List Bool):Nat:=l.foldr (fun b s=>(if b=true then 1 else 0)+s) 0
structure ShI (m cfn:Nat) (st:List St) (sn:List Bool):Prop where
 sts:Sts m cfn st
 len:sn.length=cfn*2 ^ m
 cnt:st.length<=cfn+cntT sn
end Go.V.W
namespace Go.V.W
open Go.Proofs
def GWalk (g:Gr) (w:List (List Int)):Prop:=g.2.1.length<=200/\w.length<=60 /\ ∀l∈w,l.length<=10
theorem GWalk.ok {g:Gr} {w:List (List Int)} (h:GWalk g w):okL g.2.1=true/\okLL w=true:=⟨okL_of (by have:=h.1;omega),okLL_small (by have:=h.2.1;omega) (List.all_eq_true.2 fun l hl=>decide_eq_true (by have:=h.2.2 l hl;omega))⟩
end Go.V.W
namespace Go.V.W
open Go.Proofs
def BytesB (l:List Int):Prop := ∀x∈l,0<=x/\x<=255
theorem cut_ok {l:List Int} {n:Int} {u:Unit} (h:BytesB l) (hl:l.length<=65536) (hn:0<=n) (hn2:n<=255):Ok (F_laws_vCut 0 (l,n,u)) fun r=>BytesB r.1:=by
 have key:∀(a:Int),0<=a->a<=255 -> ∀x:List Int,(∀y∈x,y∈l)->BytesB (([]:List Int)++x++[IntKind.wrap .u8 a]):=by
  intro a h0 h1 x hx y hy
  rw [List.nil_append] at hy
  rcases List.mem_append.1 hy with hy | hy
  ·exact h y (hx y hy)
  ·rw [List.mem_singleton] at hy
   rw [hy,wrap_u8 h0 h1]
   omega
 have hsub:∀a b:Int,∀y∈sub_ l a b,y∈l:=fun a b y hy=>by
  unfold sub_ at hy
  exact List.mem_of_mem_take (List.mem_of_mem_drop hy)
 have hlen:∀a b:Int,(sub_ l a b).length<=l.length:=fun a b=>by unfold sub_;simp;omega
 unfold F_laws_vCut
 simp only
 refine Ok.ite (fun h1 => ?_) (fun h1 => ?_)
 ·have h1:n>(l.length:Int):=of_decide_eq_true h1
  refine Ok.pos (by simp) (Ok.pos ?_ (Ok.pos ?_ (Ok.some ?_)))
  ·have:=hlen (l.length:Int) (l.length:Int);unfold lim;simp;omega
  ·have:=hlen (l.length:Int) (l.length:Int);unfold lim;simp;omega
  ·exact key _ (by omega) (by omega) _ (hsub _ _)
 ·have h1:¬n>(l.length:Int):=of_decide_eq_false h1
  refine Ok.pos (by simp;omega) (Ok.pos ?_ (Ok.pos ?_ (Ok.some ?_)))
  ·have:=hlen n (l.length:Int);unfold lim;simp;omega
  ·have:=hlen n (l.length:Int);unfold lim;simp;omega
  ·exact key _ hn hn2 _ (hsub _ _)
end Go.V.W
namespace Go.V.W
open Go.Proofs
structure LogIs (d p:List UInt8) (c:Int):Prop where
 size:d.length+p.length<=30000
 all:(openL 60 0 (d++p)).2=(d++p).length
 durable:(openL 60 0 d).2=d.length
 count:((openL 60 0 (d++p)).1.length:Int)=c
end Go.V.W
namespace Go.V.W
open Go.Proofs
theorem specGood (n:Int) (l:List E) (v:Unit) (p q:Int) (m:List Int) (t:Int) (u w:Unit) (hl:okL l=true) (hm:okL m=true):F_q75q 0 (((n,l,v),p,q,m,t,u),w)=some (workB ((n,l,v),p,q,m,t,u),()):=by
 unfold F_q75q workB F_spec_l2Set G_l1Rising G_graph g_q80q
 simp only [hl,hm,if_true,Option.bind_some,l1In_eq]
 cases hg:graphB (n,l,v) with
 | false=>rfl
 | true=>
  have:=graphB_n hg
  have hw:IntKind.wrap .i64 (n-1)=n-1:=wrap_in _ (by omega) (by omega)
  simp only [hw,if_true,Bool.true_and]
  cases inB (-1) (n-1) p<;>cases inB (-1) (n-1) q<;>cases (m.all (inB 0 (n-1))&&risingB m)<;>simp
end Go.V.W
namespace Go.V.W
open Go.Proofs
theorem spec_end (n':Int) (l':List E) (v':Unit) (p' q':Int) (m':List Int) (t:Int) (u':Unit) (hl:okL l'=true) (hm:okL m'=true) (h0:0<=t) (h1:t<=1000) :
  ((F_q75q 0 (((n',l',v'),p',q',m',IntKind.wrap .i64 (t+1),u'),())).bind fun r8=>if (!r8.1)=true then some (((0,[],()),0,0,[],0,()),false,()) else some (((n',l',v'),p',q',m',IntKind.wrap .i64 (t+1),u'),true,()))=some (outW true ((n',l',v'),p',q',m',t,u')):=by
 have hw:IntKind.wrap .i64 (t+1)=t+1:=wrap_in _ (by omega) (by omega)
 rw [hw,specGood n' l' v' p' q' m' (t+1) u' () hl hm]
 show (if (!workB ((n',l',v'),p',q',m',t+1,u'))=true then _ else _)=some (if (true&&workB ((n',l',v'),p',q',m',t+1,()))=true then _ else _)
 cases h:workB ((n',l',v'),p',q',m',t+1,u')<;>rfl
theorem impl_end (n':Int) (l':List E) (v':Unit) (p' q':Int) (m':List Int) (t:Int) (u':Unit) (hl:okL l'=true) (hm:okL m'=true) (h0:0<=t) (h1:t<=1000) :
  ((F_q38q 0 (((n',l',v'),p',q',m',IntKind.wrap .i64 (t+1),u'),())).bind fun r8=>if (!r8.1)=true then some (((0,[],()),0,0,[],0,()),false,()) else some (((n',l',v'),p',q',m',IntKind.wrap .i64 (t+1),u'),true,()))=some (outW true ((n',l',v'),p',q',m',t,u')):=by
 have hw:IntKind.wrap .i64 (t+1)=t+1:=wrap_in _ (by omega) (by omega)
 rw [hw,implW n' l' v' p' q' m' (t+1) u' () hl hm]
 show (if (!workB ((n',l',v'),p',q',m',t+1,u'))=true then _ else _)=some (if (true&&workB ((n',l',v'),p',q',m',t+1,()))=true then _ else _)
 cases h:workB ((n',l',v'),p',q',m',t+1,u')<;>rfl
theorem ok_len {α:Type} {l:List α} (h:l.length<=2000):okL l=true:=decide_eq_true (by unfold lim;omega)
theorem setF_ok {p:Nat->Bool} {n:Nat} (h:n<=8):okL (setF p n 0)=true:=ok_len (by have:=setF_len (p:=p) (k:=n) (x:=0);omega)
theorem insE_len (e:E):∀l:List E,(insE e l).length=l.length+1:=by
 intro l
 induction l with
 | nil=>rfl
 | cons a l ih=>
  unfold insE
  split<;>simp [ih]
theorem togE_len (es:List E) (e:E):(togE es e).length<=es.length+1:=by
 have:=List.length_filter_le (fun x => !decide (x=e)) es
 unfold togE
 split
 ·rw [insE_len]
  unfold outE
  omega
 ·unfold outE
  omega
theorem drop_ok {a:Nat} (ha:a<=8) (es:List E) (v:Unit) (p q:Int) (m:List Int) (t:Int) (u:Unit) (x:Int) (hm:m.length<=1000):okL (dropW (((a:Int),es,v),p,q,m,t,u) x).1.2.1=true/\okL (dropW (((a:Int),es,v),p,q,m,t,u) x).2.2.2.1=true:=by
 have h1:=setF_len (p:=fun y => !decide ((y:Int)=x)) (k:=a) (x:=0)
 refine ⟨ok_len ?_,ok_len ?_⟩
 ·show (indE (nearI es) (setF (fun y => !decide ((y:Int)=x)) a 0)).length<=2000
  unfold indE
  have h2:=allE_len (p:=fun i k=>nearI es (atS (setF (fun y => !decide ((y:Int)=x)) a 0) i) (atS (setF (fun y => !decide ((y:Int)=x)) a 0) k)) (n:=(setF (fun y => !decide ((y:Int)=x)) a 0).length) (m:=(setF (fun y => !decide ((y:Int)=x)) a 0).length) (x:=0)
  have h3:(setF (fun y => !decide ((y:Int)=x)) a 0).length*(setF (fun y => !decide ((y:Int)=x)) a 0).length<=8*8:=Nat.mul_le_mul (by omega) (by omega)
  omega
 ·show (dropM m x).length<=2000
  unfold dropM
  rw [List.length_map]
  have:=List.length_filter_le (fun y=>y != x) m
  omega
theorem spec_step {n:Int} {es:List E} {v:Unit} {p q:Int} {m:List Int} {t:Int} {u:Unit} (h0:0<=t) (h1:t<=1000) (x:Wo) (z:Unit) (ok:Bool) (w':Wk)
  (hmay:F_q101q 0 (((n,es,v),p,q,m,t,u),x,())=some (ok,())) (hmake:ok=true->F_q73q 0 (((n,es,v),p,q,m,t,u),x,())=some (w',())/\w'.2.2.2.2.1=t/\okL w'.1.2.1=true/\okL w'.2.2.2.1=true) :
  F_spec_l12Do 0 (((n,es,v),p,q,m,t,u),x,z)=some (outW ok w'):=by
 unfold F_spec_l12Do
 simp only [hmay,Option.bind_some]
 cases ok with
 | false=>rfl
 | true=>
  obtain ⟨k1,k2,k3,k4⟩:=hmake rfl
  obtain ⟨⟨n',l',v'⟩,p',q',m',t',u'⟩:=w'
  have k2:t'=t:=k2
  subst k2
  simp only [Bool.not_true,Bool.false_eq_true,if_false,k1,Option.bind_some]
  exact spec_end n' l' v' p' q' m' t' u' k3 k4 h0 h1
theorem spot_eq (n:Int) (l:List E) (v:Unit) (x:Int) (u:Unit) (h0:0<=n) (h8:n<=8):g_q80q ((n,l,v),x,u)=(inB (-1) (n-1) x,()):=by
 unfold g_q80q
 have hw:IntKind.wrap .i64 (n-1)=n-1:=wrap_in _ (by omega) (by omega)
 simp only [hw,l1In_eq]
theorem out_cop (b:Bool) (n:Int) (es:List E) (v:Unit) (A q:Int) (m:List Int) (t:Int) (u:Unit):outW (b&&inB (-1) (n-1) A) ((n,es,v),A,q,m,t,u)=outW b ((n,es,v),A,q,m,t,u):=by
 unfold outW cntW workB
 cases h:inB (-1) (n-1) A with
 | true=>simp
 | false=>simp [h]
theorem out_rob (b:Bool) (n:Int) (es:List E) (v:Unit) (p A:Int) (m:List Int) (t:Int) (u:Unit):outW (b&&inB (-1) (n-1) A) ((n,es,v),p,A,m,t,u)=outW b ((n,es,v),p,A,m,t,u):=by
 unfold outW cntW workB
 cases h:inB (-1) (n-1) A with
 | true=>simp
 | false=>simp [h]
theorem mark_spec {a:Nat} {m:List Int} (hr:risingB m=true) (hm:∀y∈m,0<=y/\y<=(a:Int)-1) {A:Nat} (hA:A<a) :
  (hasL m (A:Int)=true->(m.filter fun y=>y != (A:Int))=setF (fun y=>Bool.xor (hasL m (y:Int)) (decide ((y:Int)=(A:Int)))) a 0)/\(hasL m (A:Int)=false->putL (A:Int) m=setF (fun y=>Bool.xor (hasL m (y:Int)) (decide ((y:Int)=(A:Int)))) a 0):=by
 have e:=marked_set hr hm
 constructor
 ·intro h
  have:(m.filter fun y=>y != (A:Int))=setF (fun y=>hasL m (y:Int)&&((y:Int) != (A:Int))) a 0:=by
   conv=>lhs;rw [e]
   rw [filter_setF]
  rw [this]
  refine setF_congr fun y _ _ => ?_
  by_cases hy:(y:Int)=(A:Int)
  ·rw [hy,h];simp
  ·have:((y:Int) != (A:Int))=true:=by simpa using hy
   rw [this]
   simp [hy]
 ·intro h
  have:putL (A:Int) m=setF (fun y=>hasL m (y:Int)||decide (y=A)) a 0:=by
   conv=>lhs;rw [e]
   rw [putL_set (Nat.zero_le _) (by omega)]
  rw [this]
  refine setF_congr fun y _ _ => ?_
  by_cases hy:(y:Int)=(A:Int)
  ·have:y=A:=by omega
   rw [hy,h];simp [this]
  ·have:¬y=A:=by omega
   simp [hy,this]
theorem beq_no {i j:Int} (h:¬i=j):(i==j)=false:=by simpa using h
theorem once_set {a:Nat} (ha:a<=8) {es:List E} (g1:es.all (edgeB (a:Int))=true) {m:List Int} (hr:risingB m=true) (hm:∀y∈m,0<=y/\y<=(a:Int)-1) :
  ∃Q,isM a (forceN (netN a es) (maskN m) a 0 (maskN m)) Q/\onceL es a m a 0 m=setF Q a 0:=by
 obtain ⟨Q,h1,h2⟩:=force_same ha g1 hm a 0 (maskN m) _ (maskN_isM ha hm)
 rw [<- marked_set hr hm] at h2
 exact ⟨Q,h1,h2⟩
theorem specDo {w:Wk} (h:okW w=true) (x:Wo) (z:Unit):F_spec_l12Do 0 (w,x,z)=some (doW w x):=by
 obtain ⟨⟨n,es,v⟩,p,q,m,t,u⟩:=w
 obtain ⟨hg,n0,n8,hp,hq,hmm,hr,ht,le1,le2,ho,hm⟩:=okW_parts h
 obtain ⟨a,rfl⟩:=nat_of n0
 obtain ⟨ha,g1,g2⟩:=edges_of hg
 have hown:=own_ws (a:Int) es v p q m t u () ho hm
 obtain ⟨k,A,B,y⟩:=x
 by_cases h1:k=1
 ·subst h1
  refine spec_step ht.1 ht.2 _ _ (A==0&&B==0) (((a:Int)+1,es,()),p,q,m,t,u) ?_ fun _=>⟨?_,rfl,ho,hm⟩
  ·unfold F_q101q
   simp only [beq_no (show ¬(1:Int)=2 by omega),beq_no (show ¬(1:Int)=3 by omega),beq_no (show ¬(1:Int)=4 by omega),beq_no (show ¬(1:Int)=5 by omega),beq_no (show ¬(1:Int)=6 by omega),beq_no (show ¬(1:Int)=7 by omega),beq_no (show ¬(1:Int)=8 by omega),Bool.false_eq_true,if_false,beq_self_eq_true,if_true]
   cases A==0<;>cases B==0<;>rfl
  ·unfold F_q73q
   have hw:IntKind.wrap .i64 ((a:Int)+1)=(a:Int)+1:=wrap_in _ (by omega) (by omega)
   simp only [hown,Option.bind_some,beq_self_eq_true,if_true,hw]
 by_cases h2:k=2
 ·subst h2
  obtain ⟨d1,d2⟩:=drop_ok ha es v p q m t u A le2
  refine spec_step ht.1 ht.2 _ _ (B==0&&inB 0 ((a:Int)-1) A && !(p==A) && !(q==A)) (dropW (((a:Int),es,v),p,q,m,t,u) A) ?_ fun hok=>⟨?_,rfl,d1,d2⟩
  ·unfold F_q101q
   simp only [beq_self_eq_true,if_true,node_eq _ es v _ _ n0 n8,bne]
   cases B==0<;>cases inB 0 ((a:Int)-1) A<;>cases p==A<;>cases q==A<;>rfl
  ·simp only [Bool.and_eq_true] at hok
   unfold F_q73q
   have hd:G_l12Drop ((((a:Int),es,v),p,q,m,t,u),A,())=some (dropW (((a:Int),es,v),p,q,m,t,u) A,()):=by
    unfold G_l12Drop
    rw [if_pos (by rw [h,Bool.true_and];exact hok.1.1.2)]
   simp only [hown,Option.bind_some,beq_no (show ¬(2:Int)=1 by omega),Bool.false_eq_true,if_false,beq_self_eq_true,if_true,hd]
 by_cases h3:k=3
 ·subst h3
  refine spec_step ht.1 ht.2 _ _ (inB 0 ((a:Int)-1) A&&inB 0 ((a:Int)-1) B && !(A==B)) (((a:Int),togE es (eE A B),()),p,q,m,t,u) ?_ fun hok=>⟨?_,rfl,ok_len (by have:=togE_len es (eE A B);show (togE es (eE A B)).length<=2000;omega),hm⟩
  ·unfold F_q101q
   simp only [beq_no (show ¬(3:Int)=2 by omega),Bool.false_eq_true,if_false,beq_self_eq_true,if_true,two_some hg ho,Option.bind_some,bne]
   cases inB 0 ((a:Int)-1) A<;>cases inB 0 ((a:Int)-1) B<;>cases A==B<;>rfl
  ·unfold F_q73q
   have hd:G_ToggleEdge (((a:Int),es,v),A,B,())=some (((a:Int),togE es (eE A B),()),true,()):=by
    unfold G_ToggleEdge togB
    rw [if_pos (decide_eq_true (by show es.length<=1000;exact le1))]
    simp only [hg,Bool.true_and,hok,if_true]
   simp only [hown,Option.bind_some,beq_no (show ¬(3:Int)=1 by omega),beq_no (show ¬(3:Int)=2 by omega),Bool.false_eq_true,if_false,beq_self_eq_true,if_true,hd]
 by_cases h4:k=4
 ·subst h4
  have hd:doW (((a:Int),es,v),p,q,m,t,u) (4,A,B,y)=outW (B==0) (((a:Int),es,v),A,q,m,t,u):=rfl
  rw [hd,<- out_cop]
  refine spec_step ht.1 ht.2 _ _ (B==0&&inB (-1) ((a:Int)-1) A) _ ?_ fun hok=>⟨?_,rfl,ho,hm⟩
  ·unfold F_q101q
   simp only [beq_no (show ¬(4:Int)=2 by omega),beq_no (show ¬(4:Int)=3 by omega),Bool.false_eq_true,if_false,beq_self_eq_true,if_true,spot_eq _ es v _ _ n0 n8]
   cases B==0<;>rfl
  ·unfold F_q73q
   simp only [hown,Option.bind_some,beq_no (show ¬(4:Int)=1 by omega),beq_no (show ¬(4:Int)=2 by omega),beq_no (show ¬(4:Int)=3 by omega),Bool.false_eq_true,if_false,beq_self_eq_true,if_true]
 by_cases h5:k=5
 ·subst h5
  have hd:doW (((a:Int),es,v),p,q,m,t,u) (5,A,B,y)=outW (B==0) (((a:Int),es,v),p,A,m,t,u):=rfl
  rw [hd,<- out_rob]
  refine spec_step ht.1 ht.2 _ _ (B==0&&inB (-1) ((a:Int)-1) A) _ ?_ fun hok=>⟨?_,rfl,ho,hm⟩
  ·unfold F_q101q
   simp only [beq_no (show ¬(5:Int)=2 by omega),beq_no (show ¬(5:Int)=3 by omega),beq_no (show ¬(5:Int)=4 by omega),Bool.false_eq_true,if_false,beq_self_eq_true,if_true,spot_eq _ es v _ _ n0 n8]
   cases B==0<;>rfl
  ·unfold F_q73q
   simp only [hown,Option.bind_some,beq_no (show ¬(5:Int)=1 by omega),beq_no (show ¬(5:Int)=2 by omega),beq_no (show ¬(5:Int)=3 by omega),beq_no (show ¬(5:Int)=4 by omega),Bool.false_eq_true,if_false,beq_self_eq_true,if_true]
 by_cases h6:k=6
 ·subst h6
  refine spec_step ht.1 ht.2 _ _ (movesB (((a:Int),es,v),p,q,m,t,u) A B) (((a:Int),es,v),A,B,m,t,u) ?_ fun hok=>⟨?_,rfl,ho,hm⟩
  ·unfold F_q101q
   simp only [beq_no (show ¬(6:Int)=2 by omega),beq_no (show ¬(6:Int)=3 by omega),beq_no (show ¬(6:Int)=4 by omega),beq_no (show ¬(6:Int)=5 by omega),Bool.false_eq_true,if_false,beq_self_eq_true,if_true,moves_spec hg ho hp.2 hq.2,Option.bind_some]
  ·unfold F_q73q
   simp only [hown,Option.bind_some,beq_no (show ¬(6:Int)=1 by omega),beq_no (show ¬(6:Int)=2 by omega),beq_no (show ¬(6:Int)=3 by omega),beq_no (show ¬(6:Int)=4 by omega),beq_no (show ¬(6:Int)=5 by omega),Bool.false_eq_true,if_false,beq_self_eq_true,if_true]
 by_cases h7:k=7
 ·subst h7
  refine spec_step ht.1 ht.2 _ _ (A==0&&B==0&&chB0 (((a:Int),es,v),p,q,m,t,u)) (((a:Int),es,v),copW (((a:Int),es,v),p,q,m,t,u),robW (((a:Int),es,v),p,q,m,t,u),m,t,u) ?_ fun hok=>⟨?_,rfl,ho,hm⟩
  ·unfold F_q101q
   simp only [beq_no (show ¬(7:Int)=2 by omega),beq_no (show ¬(7:Int)=3 by omega),beq_no (show ¬(7:Int)=4 by omega),beq_no (show ¬(7:Int)=5 by omega),beq_no (show ¬(7:Int)=6 by omega),Bool.false_eq_true,if_false,beq_self_eq_true,if_true,chase_spec]
   cases A==0<;>cases B==0<;>rfl
  ·unfold F_q73q
   simp only [Bool.and_eq_true] at hok
   obtain ⟨p0,q0,hne⟩:=chB0_parts hok.2
   obtain ⟨p',rfl⟩:=nat_of p0
   obtain ⟨q',rfl⟩:=nat_of q0
   simp only [hown,Option.bind_some,beq_no (show ¬(7:Int)=1 by omega),beq_no (show ¬(7:Int)=2 by omega),beq_no (show ¬(7:Int)=3 by omega),beq_no (show ¬(7:Int)=4 by omega),beq_no (show ¬(7:Int)=5 by omega),beq_no (show ¬(7:Int)=6 by omega),Bool.false_eq_true,if_false,beq_self_eq_true,if_true,play_spec hg ho (show p'<a by omega) (show q'<a by omega) hne m hm]
 by_cases h8:k=8
 ·subst h8
  refine spec_step ht.1 ht.2 _ _ (B==0&&inB 0 ((a:Int)-1) A) (setM (((a:Int),es,v),p,q,m,t,u) (setF (fun y=>Bool.xor (hasL m (y:Int)) (decide ((y:Int)=A))) a 0)) ?_ fun hok=>⟨?_,rfl,ho,setF_ok ha⟩
  ·unfold F_q101q
   simp only [beq_no (show ¬(8:Int)=2 by omega),beq_no (show ¬(8:Int)=3 by omega),beq_no (show ¬(8:Int)=4 by omega),beq_no (show ¬(8:Int)=5 by omega),beq_no (show ¬(8:Int)=6 by omega),beq_no (show ¬(8:Int)=7 by omega),Bool.false_eq_true,if_false,beq_self_eq_true,if_true,node_eq _ es v _ _ n0 n8]
   cases B==0<;>rfl
  ·unfold F_q73q
   simp only [Bool.and_eq_true] at hok
   have hA:=inB_iff.1 hok.2
   obtain ⟨A',rfl⟩:=nat_of hA.1
   obtain ⟨m1,m2⟩:=mark_spec hr hmm (show A'<a by omega)
   have e1:G_l1Has (m,(A':Int),())=some (hasL m (A':Int),()):=by unfold G_l1Has hasL;rw [if_pos hm]
   have e2:G_l2Without (m,(A':Int),())=some (m.filter (fun y=>y != (A':Int)),()):=by unfold G_l2Without;rw [if_pos hm]
   have e3:G_l1Put (m,(A':Int),())=some (putL (A':Int) m,()):=by unfold G_l1Put;rw [if_pos (show okS1 m=true from decide_eq_true le2)]
   simp only [hown,Option.bind_some,beq_no (show ¬(8:Int)=1 by omega),beq_no (show ¬(8:Int)=2 by omega),beq_no (show ¬(8:Int)=3 by omega),beq_no (show ¬(8:Int)=4 by omega),beq_no (show ¬(8:Int)=5 by omega),beq_no (show ¬(8:Int)=6 by omega),beq_no (show ¬(8:Int)=7 by omega),Bool.false_eq_true,if_false,beq_self_eq_true,if_true,e1,e2,e3]
   cases hh:hasL m (A':Int) with
   | true=>simp only [if_true,m1 hh,setM]
   | false=>
    have e4:G_l1PutN (m,(A':Int),())=some (putL (A':Int) m,()):=by
     unfold G_l1PutN
     have hh':(m.any fun y=>y==(A':Int))=false:=hh
     have h2:okS1 m=true:=decide_eq_true le2
     simp only [hh',h2,Bool.not_false,Bool.and_self,if_true]
    simp only [Bool.false_eq_true,if_false,e4,Option.bind_some,m2 hh,setM]
 by_cases h9:k=9
 ·subst h9
  obtain ⟨Q,q1,q2⟩:=once_set ha g1 hr hmm
  refine spec_step ht.1 ht.2 _ _ (A==0&&B==0) (setM (((a:Int),es,v),p,q,m,t,u) (onceL es a m a 0 m)) ?_ fun hok=>⟨?_,rfl,ho,by show okL (onceL es a m a 0 m)=true;rw [q2];exact setF_ok ha⟩
  ·unfold F_q101q
   simp only [beq_no (show ¬(9:Int)=2 by omega),beq_no (show ¬(9:Int)=3 by omega),beq_no (show ¬(9:Int)=4 by omega),beq_no (show ¬(9:Int)=5 by omega),beq_no (show ¬(9:Int)=6 by omega),beq_no (show ¬(9:Int)=7 by omega),beq_no (show ¬(9:Int)=8 by omega),beq_no (show ¬(9:Int)=1 by omega),Bool.false_eq_true,if_false,beq_self_eq_true,if_true]
   cases A==0<;>cases B==0<;>rfl
  ·unfold F_q73q
   have hlen:m.length<=100:=by
    rw [marked_set hr hmm]
    have:=setF_len (p:=fun y=>hasL m (y:Int)) (k:=a) (x:=0)
    omega
   have e1:G_l9Once (((a:Int),es,v),m,false,())=some (onceL es a m a 0 m,()):=by
    unfold G_l9Once gOk
    have d1:decide ((a:Int)<=8)=true:=decide_eq_true n8
    have d2:decide (m.length<=100)=true:=decide_eq_true hlen
    simp only [ho,nonneg_dec,d1,d2,Bool.not_false,Bool.and_self,if_true,Int.toNat_natCast]
   simp only [hown,Option.bind_some,beq_no (show ¬(9:Int)=1 by omega),beq_no (show ¬(9:Int)=2 by omega),beq_no (show ¬(9:Int)=3 by omega),beq_no (show ¬(9:Int)=4 by omega),beq_no (show ¬(9:Int)=5 by omega),beq_no (show ¬(9:Int)=6 by omega),beq_no (show ¬(9:Int)=7 by omega),beq_no (show ¬(9:Int)=8 by omega),Bool.false_eq_true,if_false,beq_self_eq_true,if_true,e1]
   rfl
 by_cases h10:k=10
 ·subst h10
  refine spec_step ht.1 ht.2 _ _ (A==0&&B==0) (setM (((a:Int),es,v),p,q,m,t,u) (setF (fun y => !hasL m (y:Int)) a 0)) ?_ fun hok=>⟨?_,rfl,ho,setF_ok ha⟩
  ·unfold F_q101q
   simp only [beq_no (show ¬(10:Int)=2 by omega),beq_no (show ¬(10:Int)=3 by omega),beq_no (show ¬(10:Int)=4 by omega),beq_no (show ¬(10:Int)=5 by omega),beq_no (show ¬(10:Int)=6 by omega),beq_no (show ¬(10:Int)=7 by omega),beq_no (show ¬(10:Int)=8 by omega),beq_no (show ¬(10:Int)=1 by omega),beq_no (show ¬(10:Int)=9 by omega),Bool.false_eq_true,if_false,beq_self_eq_true,if_true]
   cases A==0<;>cases B==0<;>rfl
  ·unfold F_q73q
   have e1:G_l5Rest (((a:Int),es,v),m,())=some (setF (fun y => !hasL m (y:Int)) a 0,()):=by
    unfold G_l5Rest
    have d1:decide ((a:Int)<=8)=true:=decide_eq_true n8
    simp only [hm,nonneg_dec,d1,Bool.and_self,if_true,Int.toNat_natCast]
   simp only [hown,Option.bind_some,beq_no (show ¬(10:Int)=1 by omega),beq_no (show ¬(10:Int)=2 by omega),beq_no (show ¬(10:Int)=3 by omega),beq_no (show ¬(10:Int)=4 by omega),beq_no (show ¬(10:Int)=5 by omega),beq_no (show ¬(10:Int)=6 by omega),beq_no (show ¬(10:Int)=7 by omega),beq_no (show ¬(10:Int)=8 by omega),beq_no (show ¬(10:Int)=9 by omega),Bool.false_eq_true,if_false,beq_self_eq_true,if_true,e1]
   rfl
 ·have hd:doW (((a:Int),es,v),p,q,m,t,u) (k,A,B,y)=outW false W0:=by
   unfold doW
   simp only [h1,h2,h3,h4,h5,h6,h7,h8,h9,h10,if_false]
   rfl
  rw [hd]
  refine spec_step ht.1 ht.2 _ _ false _ ?_ fun hok=>by cases hok
  unfold F_q101q
  simp only [beq_no h1,beq_no h2,beq_no h3,beq_no h4,beq_no h5,beq_no h6,beq_no h7,beq_no h8,beq_no h9,beq_no h10,Bool.false_eq_true,if_false]
  cases A==0<;>cases B==0<;>rfl
theorem marks_impl {a:Nat} {es:List E} {v:Unit} (hg:graphB ((a:Int),es,v)=true) (ho:okL es=true) {p q:Int} {m:List Int} (hm:okL m=true) (hr:risingB m=true) (hmm:∀y∈m,0<=y/\y<=(a:Int)-1) (t:Int) (u z y:Unit) (A B:Int) :
  F_q44q 0 ((((a:Int),es,v),p,q,m,t,u),(8,A,B,y),z)=some (if inB 0 ((a:Int)-1) A=true then (true,(((a:Int),es,v),p,q,setF (fun y=>Bool.xor (hasL m (y:Int)) (decide ((y:Int)=A))) a 0,t,u),()) else (false,(((a:Int),es,v),p,q,m,t,u),())) /\
  F_q44q 0 ((((a:Int),es,v),p,q,m,t,u),(9,A,B,y),z)=some (true,(((a:Int),es,v),p,q,onceL es a m a 0 m,t,u),()) /\
  F_q44q 0 ((((a:Int),es,v),p,q,m,t,u),(10,A,B,y),z)=some (true,(((a:Int),es,v),p,q,setF (fun y => !hasL m (y:Int)) a 0,t,u),()):=by
 obtain ⟨ha,g1,g2⟩:=edges_of hg
 have hM:=maskN_isM ha hmm
 have e1:G_maskOf (m,())=some ((maskN m:Int),()):=by
  unfold G_maskOf
  have:m.all (inB 0 7)=true:=List.all_eq_true.2 fun y hy=>inB_iff.2 (by have:=hmm y hy;omega)
  simp only [hm,this,Bool.and_self,if_true]
 have hset:∀{k:Nat} {Q:Nat->Bool},isM a k Q->G_setOf ((k:Int),())=some (setF Q a 0,()):=fun {k Q} hk=>by
  unfold G_setOf
  have b2:decide ((k:Int)<256)=true:=by
   have:=hk.1
   simp only [decide_eq_true_eq]
   omega
  simp only [nonneg_dec,b2,Bool.and_self,if_true,Int.toNat_natCast]
  rw [setF_mask ha hk]
 refine ⟨?_,?_,?_⟩
 ·unfold F_q44q
  have hw:IntKind.wrap .i64 ((a:Int)-1)=(a:Int)-1:=wrap_in _ (by omega) (by omega)
  simp only [e1,net_some hg ho,Option.bind_some,beq_self_eq_true,if_true,hw,within_eq]
  cases hA:inB 0 ((a:Int)-1) A with
  | false=>rfl
  | true=>
   have hA':=inB_iff.1 hA
   obtain ⟨A',rfl⟩:=nat_of hA'.1
   have hx:=isM_xor ha (show A'<a by omega) hM
   simp only [Bool.not_true,Bool.false_eq_true,if_false,nonneg_dec,if_true,shl_one (show A'<8 by omega),bits_xor hM.1 (pow_small (show A'<8 by omega)),hset hx,Option.bind_some]
 ·unfold F_q44q
  obtain ⟨Q,q1,q2⟩:=once_set ha g1 hr hmm
  have e2:G_forced ((toI (netN a es),()),(maskN m:Int),false,())=some ((forceN (netN a es) (maskN m) a 0 (maskN m):Int),()):=by
   unfold G_forced
   have i1:inB 0 255 (maskN m:Int)=true:=inB_iff.2 (by have:=hM.1;omega)
   have hl:=(netB_net ha g1).2
   simp only [small_toI (netN_ok ha g1) ha,i1,Bool.not_false,Bool.and_self,if_true,toI_from,Int.toNat_natCast,hl]
  simp only [e1,net_some hg ho,Option.bind_some,beq_no (show ¬(9:Int)=8 by omega),Bool.false_eq_true,if_false,beq_self_eq_true,if_true,e2,hset q1,<- q2]
 ·unfold F_q44q
  have hx:=isM_out ha hM
  have:=(all_mask ha).2
  simp only [e1,net_some hg ho,Option.bind_some,beq_no (show ¬(10:Int)=8 by omega),beq_no (show ¬(10:Int)=9 by omega),Bool.false_eq_true,if_false,all_net ha g1,bits_andNot (show 2 ^ a-1<256 by omega) hM.1,hset hx]
end Go.V.W
namespace Go.V.W
open Go.Proofs
theorem named_1 (A B:Int) (y u:Unit):g_q66q ((1,A,B,y),u)=(A==0&&B==0,()):=by
 unfold g_q66q
 simp only [beq_no (show ¬(1:Int)=2 by omega),beq_no (show ¬(1:Int)=3 by omega),beq_no (show ¬(1:Int)=4 by omega),beq_no (show ¬(1:Int)=5 by omega),beq_no (show ¬(1:Int)=6 by omega),beq_no (show ¬(1:Int)=7 by omega),beq_no (show ¬(1:Int)=8 by omega),beq_no (show ¬(1:Int)=9 by omega),beq_no (show ¬(1:Int)=10 by omega),Bool.false_eq_true,if_false,beq_self_eq_true,if_true]
 cases A==0<;>rfl
theorem named_2 (A B:Int) (y u:Unit):g_q66q ((2,A,B,y),u)=(B==0,()):=by
 unfold g_q66q
 simp only [beq_no (show ¬(2:Int)=1 by omega),beq_no (show ¬(2:Int)=3 by omega),beq_no (show ¬(2:Int)=4 by omega),beq_no (show ¬(2:Int)=5 by omega),beq_no (show ¬(2:Int)=6 by omega),beq_no (show ¬(2:Int)=7 by omega),beq_no (show ¬(2:Int)=8 by omega),beq_no (show ¬(2:Int)=9 by omega),beq_no (show ¬(2:Int)=10 by omega),Bool.false_eq_true,if_false,beq_self_eq_true,if_true]
theorem named_3 (A B:Int) (y u:Unit):g_q66q ((3,A,B,y),u)=(true,()):=by
 unfold g_q66q
 simp only [beq_no (show ¬(3:Int)=1 by omega),beq_no (show ¬(3:Int)=2 by omega),beq_no (show ¬(3:Int)=4 by omega),beq_no (show ¬(3:Int)=5 by omega),beq_no (show ¬(3:Int)=6 by omega),beq_no (show ¬(3:Int)=7 by omega),beq_no (show ¬(3:Int)=8 by omega),beq_no (show ¬(3:Int)=9 by omega),beq_no (show ¬(3:Int)=10 by omega),Bool.false_eq_true,if_false,beq_self_eq_true,if_true]
theorem named_4 (A B:Int) (y u:Unit):g_q66q ((4,A,B,y),u)=(B==0,()):=by
 unfold g_q66q
 simp only [beq_no (show ¬(4:Int)=1 by omega),beq_no (show ¬(4:Int)=2 by omega),beq_no (show ¬(4:Int)=3 by omega),beq_no (show ¬(4:Int)=5 by omega),beq_no (show ¬(4:Int)=6 by omega),beq_no (show ¬(4:Int)=7 by omega),beq_no (show ¬(4:Int)=8 by omega),beq_no (show ¬(4:Int)=9 by omega),beq_no (show ¬(4:Int)=10 by omega),Bool.false_eq_true,if_false,beq_self_eq_true,if_true]
theorem named_5 (A B:Int) (y u:Unit):g_q66q ((5,A,B,y),u)=(B==0,()):=by
 unfold g_q66q
 simp only [beq_no (show ¬(5:Int)=1 by omega),beq_no (show ¬(5:Int)=2 by omega),beq_no (show ¬(5:Int)=3 by omega),beq_no (show ¬(5:Int)=4 by omega),beq_no (show ¬(5:Int)=6 by omega),beq_no (show ¬(5:Int)=7 by omega),beq_no (show ¬(5:Int)=8 by omega),beq_no (show ¬(5:Int)=9 by omega),beq_no (show ¬(5:Int)=10 by omega),Bool.false_eq_true,if_false,beq_self_eq_true,if_true]
theorem named_6 (A B:Int) (y u:Unit):g_q66q ((6,A,B,y),u)=(true,()):=by
 unfold g_q66q
 simp only [beq_no (show ¬(6:Int)=1 by omega),beq_no (show ¬(6:Int)=2 by omega),beq_no (show ¬(6:Int)=3 by omega),beq_no (show ¬(6:Int)=4 by omega),beq_no (show ¬(6:Int)=5 by omega),beq_no (show ¬(6:Int)=7 by omega),beq_no (show ¬(6:Int)=8 by omega),beq_no (show ¬(6:Int)=9 by omega),beq_no (show ¬(6:Int)=10 by omega),Bool.false_eq_true,if_false,beq_self_eq_true,if_true]
theorem named_7 (A B:Int) (y u:Unit):g_q66q ((7,A,B,y),u)=(A==0&&B==0,()):=by
 unfold g_q66q
 simp only [beq_no (show ¬(7:Int)=1 by omega),beq_no (show ¬(7:Int)=2 by omega),beq_no (show ¬(7:Int)=3 by omega),beq_no (show ¬(7:Int)=4 by omega),beq_no (show ¬(7:Int)=5 by omega),beq_no (show ¬(7:Int)=6 by omega),beq_no (show ¬(7:Int)=8 by omega),beq_no (show ¬(7:Int)=9 by omega),beq_no (show ¬(7:Int)=10 by omega),Bool.false_eq_true,if_false,beq_self_eq_true,if_true]
 cases A==0<;>rfl
theorem named_8 (A B:Int) (y u:Unit):g_q66q ((8,A,B,y),u)=(B==0,()):=by
 unfold g_q66q
 simp only [beq_no (show ¬(8:Int)=1 by omega),beq_no (show ¬(8:Int)=2 by omega),beq_no (show ¬(8:Int)=3 by omega),beq_no (show ¬(8:Int)=4 by omega),beq_no (show ¬(8:Int)=5 by omega),beq_no (show ¬(8:Int)=6 by omega),beq_no (show ¬(8:Int)=7 by omega),beq_no (show ¬(8:Int)=9 by omega),beq_no (show ¬(8:Int)=10 by omega),Bool.false_eq_true,if_false,beq_self_eq_true,if_true]
theorem named_9 (A B:Int) (y u:Unit):g_q66q ((9,A,B,y),u)=(A==0&&B==0,()):=by
 unfold g_q66q
 simp only [beq_no (show ¬(9:Int)=1 by omega),beq_no (show ¬(9:Int)=2 by omega),beq_no (show ¬(9:Int)=3 by omega),beq_no (show ¬(9:Int)=4 by omega),beq_no (show ¬(9:Int)=5 by omega),beq_no (show ¬(9:Int)=6 by omega),beq_no (show ¬(9:Int)=7 by omega),beq_no (show ¬(9:Int)=8 by omega),beq_no (show ¬(9:Int)=10 by omega),Bool.false_eq_true,if_false,beq_self_eq_true,if_true]
 cases A==0<;>rfl
theorem named_10 (A B:Int) (y u:Unit):g_q66q ((10,A,B,y),u)=(A==0&&B==0,()):=by
 unfold g_q66q
 simp only [beq_no (show ¬(10:Int)=1 by omega),beq_no (show ¬(10:Int)=2 by omega),beq_no (show ¬(10:Int)=3 by omega),beq_no (show ¬(10:Int)=4 by omega),beq_no (show ¬(10:Int)=5 by omega),beq_no (show ¬(10:Int)=6 by omega),beq_no (show ¬(10:Int)=7 by omega),beq_no (show ¬(10:Int)=8 by omega),beq_no (show ¬(10:Int)=9 by omega),Bool.false_eq_true,if_false,beq_self_eq_true,if_true]
 cases A==0<;>rfl
theorem implDo {w:Wk} (h:okW w=true) (x:Wo) (z:Unit):F_q99q 0 (w,x,z)=some (doW w x):=by
 obtain ⟨⟨n,es,v⟩,p,q,m,t,u⟩:=w
 obtain ⟨hg,n0,n8,hp,hq,hmm,hr,ht,le1,le2,ho,hm⟩:=okW_parts h
 obtain ⟨a,rfl⟩:=nat_of n0
 obtain ⟨ha,g1,g2⟩:=edges_of hg
 have hcl:G_cloneWs ((((a:Int),es,v),p,q,m,t,u),())=some ((((a:Int),es,v),p,q,m,t,u),()):=by
  unfold G_cloneWs
  rw [if_pos (by show (okL es&&okL m)=true;rw [ho,hm];rfl)]
 obtain ⟨k,A,B,y⟩:=x
 by_cases h1:k=1
 ·subst h1
  unfold F_q99q
  simp only [named_1,hcl,Option.bind_some,beq_no (show ¬(1:Int)=2 by omega),beq_no (show ¬(1:Int)=3 by omega),beq_no (show ¬(1:Int)=4 by omega),beq_no (show ¬(1:Int)=5 by omega),beq_no (show ¬(1:Int)=6 by omega),beq_no (show ¬(1:Int)=7 by omega),beq_no (show ¬(1:Int)=8 by omega),beq_no (show ¬(1:Int)=9 by omega),beq_no (show ¬(1:Int)=10 by omega),Bool.false_eq_true,if_false,beq_self_eq_true,if_true]
  have hd:doW (((a:Int),es,v),p,q,m,t,u) (1,A,B,y)=outW (A==0&&B==0) (((a:Int)+1,es,()),p,q,m,t,u):=rfl
  rw [hd]
  cases A==0&&B==0 with
  | false=>rfl
  | true=>
   have hw:IntKind.wrap .i64 ((a:Int)+1)=(a:Int)+1:=wrap_in _ (by omega) (by omega)
   simp only [hw,Bool.not_true,Bool.false_eq_true,if_false]
   exact impl_end _ es () p q m t u ho hm ht.1 ht.2
 by_cases h2:k=2
 ·subst h2
  unfold F_q99q
  simp only [named_2,hcl,Option.bind_some,beq_no (show ¬(2:Int)=1 by omega),beq_no (show ¬(2:Int)=3 by omega),beq_no (show ¬(2:Int)=4 by omega),beq_no (show ¬(2:Int)=5 by omega),beq_no (show ¬(2:Int)=6 by omega),beq_no (show ¬(2:Int)=7 by omega),beq_no (show ¬(2:Int)=8 by omega),beq_no (show ¬(2:Int)=9 by omega),beq_no (show ¬(2:Int)=10 by omega),Bool.false_eq_true,if_false,beq_self_eq_true,if_true]
  have hd:doW (((a:Int),es,v),p,q,m,t,u) (2,A,B,y)=outW (B==0&&inB 0 ((a:Int)-1) A && !(p==A) && !(q==A)) (dropW (((a:Int),es,v),p,q,m,t,u) A):=rfl
  rw [hd]
  have hdn:G_dropNode ((((a:Int),es,v),p,q,m,t,u),A,())=some (dropB (((a:Int),es,v),p,q,m,t,u) A):=by
   unfold G_dropNode
   rw [if_pos h]
  obtain ⟨d1,d2⟩:=drop_ok ha es v p q m t u A le2
  simp only [hdn,Option.bind_some]
  unfold dropB
  cases hB:B==0 with
  | false=>rfl
  | true=>
   cases hA:inB 0 ((a:Int)-1) A with
   | false=>rfl
   | true=>
    cases c1:p==A with
    | true=>rfl
    | false=>
     cases c2:q==A with
     | true=>rfl
     | false=>exact impl_end _ _ () _ _ _ t () d1 d2 ht.1 ht.2
 by_cases h3:k=3
 ·subst h3
  unfold F_q99q
  simp only [named_3,hcl,Option.bind_some,beq_no (show ¬(3:Int)=1 by omega),beq_no (show ¬(3:Int)=2 by omega),beq_no (show ¬(3:Int)=4 by omega),beq_no (show ¬(3:Int)=5 by omega),beq_no (show ¬(3:Int)=6 by omega),beq_no (show ¬(3:Int)=7 by omega),beq_no (show ¬(3:Int)=8 by omega),beq_no (show ¬(3:Int)=9 by omega),beq_no (show ¬(3:Int)=10 by omega),Bool.false_eq_true,if_false,beq_self_eq_true,if_true]
  have hd:doW (((a:Int),es,v),p,q,m,t,u) (3,A,B,y)=outW (inB 0 ((a:Int)-1) A&&inB 0 ((a:Int)-1) B && !(A==B)) (((a:Int),togE es (eE A B),()),p,q,m,t,u):=rfl
  rw [hd]
  have htl:okL (togE es (eE A B))=true:=ok_len (by have:=togE_len es (eE A B);omega)
  simp only [toggle_impl hg ho,Option.bind_some]
  unfold togB
  simp only [hg,Bool.true_and]
  cases hA:inB 0 ((a:Int)-1) A with
  | false=>rfl
  | true=>
   cases hB:inB 0 ((a:Int)-1) B with
   | false=>rfl
   | true=>
    cases hab:A==B with
    | true=>rfl
    | false=>exact impl_end _ _ () p q m t u htl hm ht.1 ht.2
 by_cases h4:k=4
 ·subst h4
  unfold F_q99q
  simp only [named_4,hcl,Option.bind_some,beq_no (show ¬(4:Int)=1 by omega),beq_no (show ¬(4:Int)=2 by omega),beq_no (show ¬(4:Int)=3 by omega),beq_no (show ¬(4:Int)=5 by omega),beq_no (show ¬(4:Int)=6 by omega),beq_no (show ¬(4:Int)=7 by omega),beq_no (show ¬(4:Int)=8 by omega),beq_no (show ¬(4:Int)=9 by omega),beq_no (show ¬(4:Int)=10 by omega),Bool.false_eq_true,if_false,beq_self_eq_true,if_true]
  have hd:doW (((a:Int),es,v),p,q,m,t,u) (4,A,B,y)=outW (B==0) (((a:Int),es,v),A,q,m,t,u):=rfl
  rw [hd]
  cases B==0 with
  | false=>rfl
  | true=>exact impl_end _ es v A q m t u ho hm ht.1 ht.2
 by_cases h5:k=5
 ·subst h5
  unfold F_q99q
  simp only [named_5,hcl,Option.bind_some,beq_no (show ¬(5:Int)=1 by omega),beq_no (show ¬(5:Int)=2 by omega),beq_no (show ¬(5:Int)=3 by omega),beq_no (show ¬(5:Int)=4 by omega),beq_no (show ¬(5:Int)=6 by omega),beq_no (show ¬(5:Int)=7 by omega),beq_no (show ¬(5:Int)=8 by omega),beq_no (show ¬(5:Int)=9 by omega),beq_no (show ¬(5:Int)=10 by omega),Bool.false_eq_true,if_false,beq_self_eq_true,if_true]
  have hd:doW (((a:Int),es,v),p,q,m,t,u) (5,A,B,y)=outW (B==0) (((a:Int),es,v),p,A,m,t,u):=rfl
  rw [hd]
  cases B==0 with
  | false=>rfl
  | true=>exact impl_end _ es v p A m t u ho hm ht.1 ht.2
 by_cases h6:k=6
 ·subst h6
  unfold F_q99q
  simp only [named_6,hcl,Option.bind_some,beq_no (show ¬(6:Int)=1 by omega),beq_no (show ¬(6:Int)=2 by omega),beq_no (show ¬(6:Int)=3 by omega),beq_no (show ¬(6:Int)=4 by omega),beq_no (show ¬(6:Int)=5 by omega),beq_no (show ¬(6:Int)=7 by omega),beq_no (show ¬(6:Int)=8 by omega),beq_no (show ¬(6:Int)=9 by omega),beq_no (show ¬(6:Int)=10 by omega),Bool.false_eq_true,if_false,beq_self_eq_true,if_true]
  have hd:doW (((a:Int),es,v),p,q,m,t,u) (6,A,B,y)=outW (movesB (((a:Int),es,v),p,q,m,t,u) A B) (((a:Int),es,v),A,B,m,t,u):=rfl
  rw [hd]
  simp only [move_impl hg ho hp.2 hq.2,Option.bind_some]
  cases movesB (((a:Int),es,v),p,q,m,t,u) A B with
  | false=>rfl
  | true=>exact impl_end _ es v A B m t u ho hm ht.1 ht.2
 by_cases h7:k=7
 ·subst h7
  unfold F_q99q
  simp only [named_7,hcl,Option.bind_some,beq_no (show ¬(7:Int)=1 by omega),beq_no (show ¬(7:Int)=2 by omega),beq_no (show ¬(7:Int)=3 by omega),beq_no (show ¬(7:Int)=4 by omega),beq_no (show ¬(7:Int)=5 by omega),beq_no (show ¬(7:Int)=6 by omega),beq_no (show ¬(7:Int)=8 by omega),beq_no (show ¬(7:Int)=9 by omega),beq_no (show ¬(7:Int)=10 by omega),Bool.false_eq_true,if_false,beq_self_eq_true,if_true]
  have hd:doW (((a:Int),es,v),p,q,m,t,u) (7,A,B,y)=outW (A==0&&B==0&&chB0 (((a:Int),es,v),p,q,m,t,u)) (((a:Int),es,v),copW (((a:Int),es,v),p,q,m,t,u),robW (((a:Int),es,v),p,q,m,t,u),m,t,u):=rfl
  rw [hd]
  simp only [play_impl hg ho hp.2 hq.2,Option.bind_some]
  cases A==0&&B==0 with
  | false=>rfl
  | true=>
   cases chB0 (((a:Int),es,v),p,q,m,t,u) with
   | false=>rfl
   | true=>exact impl_end _ es v _ _ m t u ho hm ht.1 ht.2
 by_cases h8:k=8
 ·subst h8
  unfold F_q99q
  simp only [named_8,hcl,Option.bind_some,beq_no (show ¬(8:Int)=1 by omega),beq_no (show ¬(8:Int)=2 by omega),beq_no (show ¬(8:Int)=3 by omega),beq_no (show ¬(8:Int)=4 by omega),beq_no (show ¬(8:Int)=5 by omega),beq_no (show ¬(8:Int)=6 by omega),beq_no (show ¬(8:Int)=7 by omega),beq_no (show ¬(8:Int)=9 by omega),beq_no (show ¬(8:Int)=10 by omega),Bool.false_eq_true,if_false,beq_self_eq_true,if_true]
  have hd:doW (((a:Int),es,v),p,q,m,t,u) (8,A,B,y)=outW (B==0&&inB 0 ((a:Int)-1) A) (((a:Int),es,v),p,q,setF (fun y=>Bool.xor (hasL m (y:Int)) (decide ((y:Int)=A))) a 0,t,u):=rfl
  rw [hd]
  simp only [(marks_impl hg ho hm hr hmm t u () y A B).1,Option.bind_some]
  cases B==0 with
  | false=>rfl
  | true=>
   cases inB 0 ((a:Int)-1) A with
   | false=>rfl
   | true=>exact impl_end _ es v p q _ t u ho (setF_ok ha) ht.1 ht.2
 by_cases h9:k=9
 ·subst h9
  unfold F_q99q
  simp only [named_9,hcl,Option.bind_some,beq_no (show ¬(9:Int)=1 by omega),beq_no (show ¬(9:Int)=2 by omega),beq_no (show ¬(9:Int)=3 by omega),beq_no (show ¬(9:Int)=4 by omega),beq_no (show ¬(9:Int)=5 by omega),beq_no (show ¬(9:Int)=6 by omega),beq_no (show ¬(9:Int)=7 by omega),beq_no (show ¬(9:Int)=8 by omega),beq_no (show ¬(9:Int)=10 by omega),Bool.false_eq_true,if_false,beq_self_eq_true,if_true]
  have hd:doW (((a:Int),es,v),p,q,m,t,u) (9,A,B,y)=outW (A==0&&B==0) (((a:Int),es,v),p,q,onceL es a m a 0 m,t,u):=rfl
  rw [hd]
  have hol:okL (onceL es a m a 0 m)=true:=by
   obtain ⟨Q,q1,q2⟩:=once_set ha g1 hr hmm
   rw [q2]
   exact setF_ok ha
  simp only [(marks_impl hg ho hm hr hmm t u () y A B).2.1,Option.bind_some]
  cases A==0&&B==0 with
  | false=>rfl
  | true=>exact impl_end _ es v p q _ t u ho hol ht.1 ht.2
 by_cases h10:k=10
 ·subst h10
  unfold F_q99q
  simp only [named_10,hcl,Option.bind_some,beq_no (show ¬(10:Int)=1 by omega),beq_no (show ¬(10:Int)=2 by omega),beq_no (show ¬(10:Int)=3 by omega),beq_no (show ¬(10:Int)=4 by omega),beq_no (show ¬(10:Int)=5 by omega),beq_no (show ¬(10:Int)=6 by omega),beq_no (show ¬(10:Int)=7 by omega),beq_no (show ¬(10:Int)=8 by omega),beq_no (show ¬(10:Int)=9 by omega),Bool.false_eq_true,if_false,beq_self_eq_true,if_true]
  have hd:doW (((a:Int),es,v),p,q,m,t,u) (10,A,B,y)=outW (A==0&&B==0) (((a:Int),es,v),p,q,setF (fun y => !hasL m (y:Int)) a 0,t,u):=rfl
  rw [hd]
  simp only [(marks_impl hg ho hm hr hmm t u () y A B).2.2,Option.bind_some]
  cases A==0&&B==0 with
  | false=>rfl
  | true=>exact impl_end _ es v p q _ t u ho (setF_ok ha) ht.1 ht.2
 ·have hd:doW (((a:Int),es,v),p,q,m,t,u) (k,A,B,y)=(W0,false,()):=by
   unfold doW
   simp only [h1,h2,h3,h4,h5,h6,h7,h8,h9,h10,if_false]
  rw [hd]
  unfold F_q99q
  simp only [hcl,Option.bind_some,beq_no h1,beq_no h2,beq_no h3,beq_no h4,beq_no h5,beq_no h6,beq_no h7,beq_no h8,beq_no h9,beq_no h10,Bool.false_eq_true,if_false]
  split<;>rfl
theorem l12Do_lim (d) (r) (h:G_do d=some r):∃N,F_spec_l12Do N d=some r:=by
 obtain ⟨w,x,z⟩:=d
 unfold G_do at h
 split at h
 ·rename_i hc
  exact ⟨0,(specDo hc x z).trans h⟩
 ·cases h
theorem doWork_lim (d) (r) (h:G_do d=some r):∃N,F_q99q N d=some r:=by
 obtain ⟨w,x,z⟩:=d
 unfold G_do at h
 split at h
 ·rename_i hc
  exact ⟨0,(implDo hc x z).trans h⟩
 ·cases h
theorem do_some {w:Wk} (h:workB w=true) (x:Wo) (z:Unit):G_do (w,x,z)=some (doW w x):=if_pos (okW_of h)
theorem outW_ok {b:Bool} {w:Wk} (h:(outW b w).2.1=true):workB (outW b w).1=true/\(outW b w).1.2.2.2.2.1=w.2.2.2.2.1+1:=by
 unfold outW at h |-
 split at h
 ·rename_i hc
  rw [if_pos hc]
  simp only [Bool.and_eq_true] at hc
  exact ⟨hc.2,rfl⟩
 ·cases h
theorem doW_ok {w:Wk} {x:Wo} (h:(doW w x).2.1=true):workB (doW w x).1=true/\(doW w x).1.2.2.2.2.1=w.2.2.2.2.1+1:=by
 revert h
 unfold doW
 split
 ·exact outW_ok
 split
 ·exact outW_ok
 split
 ·exact outW_ok
 split
 ·exact outW_ok
 split
 ·exact outW_ok
 split
 ·exact outW_ok
 split
 ·exact outW_ok
 split
 ·exact outW_ok
 split
 ·exact outW_ok
 split
 ·exact outW_ok
 ·intro h;cases h
theorem work_count {w:Wk} (h:workB w=true):0<=w.2.2.2.2.1/\w.2.2.2.2.1<=1000:=by
 unfold workB at h
 simp only [Bool.and_eq_true] at h
 exact inB_iff.1 h.2
theorem spec_works (N:Nat) (w0:Wk) (l:List Wo) (hl:l.length<=lim):∀k i f (w:Wk),i+k=l.length->k<f->workB w=true ->
  ∃o,q84q_l0 N f (l,w0,w,(i:Int),())=some o/\(o=.inl (worksL (l.drop i) i w) \/ ∃w',o=.inr (.inl (l,w0,w',()))/\worksL (l.drop i) i w=(w',(l.length:Int),true,())):=by
 intro k
 induction k with
 | zero=>
  intro i f w e1 e2 hw
  obtain ⟨f,rfl⟩:∃m,f=m+1:=⟨f-1,by omega⟩
  have e:i=l.length:=by omega
  subst e
  rw [List.drop_of_length_le (Nat.le_refl _)]
  show ∃o,q84q_l0_r N (q84q_l0 N f) _=some o/\_
  unfold q84q_l0_r
  simp only [lt_not,Bool.false_eq_true,if_false]
  exact ⟨_,rfl,.inr ⟨w,rfl,rfl⟩⟩
 | succ k ih=>
  intro i f w e1 e2 hw
  obtain ⟨f,rfl⟩:∃m,f=m+1:=⟨f-1,by omega⟩
  have hi:i<l.length:=by omega
  have e:at_ K_Piiiq l i=l[i]:=at_get (e:=K_Piiiq) hi
  show ∃o,q84q_l0_r N (q84q_l0 N f) _=some o/\_
  unfold q84q_l0_r
  rw [List.drop_eq_getElem_cons hi]
  simp only [lt_dec hi,if_true,idxIn_nat hi,Int.toNat_natCast,e,do_some hw,Option.bind_some,wrap_up hi (lim_max hl),worksL]
  by_cases hd:(doW w l[i]).2.1=true
  ·simp only [hd,Bool.not_true,Bool.false_eq_true,if_false,if_true]
   exact ih (i+1) f _ (by omega) (by omega) (doW_ok hd).1
  ·have hd':=(Bool.not_eq_true _).mp hd
   simp only [hd',Bool.not_false,if_true,Bool.false_eq_true,if_false]
   exact ⟨_,rfl,.inl rfl⟩
theorem impl_works (N:Nat) (w0:Wk) (l:List Wo) (hl:l.length<=lim):∀k i f (w:Wk),i+k=l.length->k<f->workB w=true ->
  ∃o,q77q_l0 N f (l,w0,w,l,(l.length:Int),(i:Int),())=some o/\(o=.inl (worksL (l.drop i) i w) \/ ∃w',o=.inr (.inl (l,w0,w',()))/\worksL (l.drop i) i w=(w',(l.length:Int),true,())):=by
 intro k
 induction k with
 | zero=>
  intro i f w e1 e2 hw
  obtain ⟨f,rfl⟩:∃m,f=m+1:=⟨f-1,by omega⟩
  have e:i=l.length:=by omega
  subst e
  rw [List.drop_of_length_le (Nat.le_refl _)]
  show ∃o,q77q_l0_r N (q77q_l0 N f) _=some o/\_
  unfold q77q_l0_r
  simp only [lt_not,Bool.false_eq_true,if_false]
  exact ⟨_,rfl,.inr ⟨w,rfl,rfl⟩⟩
 | succ k ih=>
  intro i f w e1 e2 hw
  obtain ⟨f,rfl⟩:∃m,f=m+1:=⟨f-1,by omega⟩
  have hi:i<l.length:=by omega
  have e:at_ K_Piiiq l i=l[i]:=at_get (e:=K_Piiiq) hi
  show ∃o,q77q_l0_r N (q77q_l0 N f) _=some o/\_
  unfold q77q_l0_r
  rw [List.drop_eq_getElem_cons hi]
  simp only [lt_dec hi,if_true,idxIn_nat hi,Int.toNat_natCast,e,do_some hw,Option.bind_some,wrap_up hi (lim_max hl),worksL]
  by_cases hd:(doW w l[i]).2.1=true
  ·simp only [hd,Bool.not_true,Bool.false_eq_true,if_false,if_true]
   exact ih (i+1) f _ (by omega) (by omega) (doW_ok hd).1
  ·have hd':=(Bool.not_eq_true _).mp hd
   simp only [hd',Bool.not_false,if_true,Bool.false_eq_true,if_false]
   exact ⟨_,rfl,.inl rfl⟩
theorem works_end (o:(Wk×Int×Bool×Unit)⊕(List Wo×Wk×Wk×Unit)⊕Empty) (l:List Wo) (w0 w:Wk):(o=.inl (worksL l 0 w) \/ ∃w',o=.inr (.inl (l,w0,w',()))/\worksL l 0 w=(w',(l.length:Int),true,())) ->
  (match o with
   | .inl d=>some (d.1,d.2.1,d.2.2.1,())
   | .inr (.inl d)=>some (d.2.2.1,(List.length d.1:Int),true,()))=some (worksL l 0 w):=by
 intro h
 rcases h with rfl | ⟨w',rfl,h⟩
 ·rfl
 ·rw [h]
theorem specDW_lim (d) (r) (h:G_DoWorks d=some r):∃N,F_q84q N d=some r:=by
 obtain ⟨⟨⟨n,es,v⟩,p,q,m,t,u⟩,l,z⟩:=d
 unfold G_DoWorks at h
 split at h
 ·rename_i hc
  unfold okWs at hc
  simp only [Bool.and_eq_true,decide_eq_true_eq] at hc
  have h1:okL es=true:=okL_of hc.1.1
  have h2:okL m=true:=okL_of hc.1.2
  have h3:okL l=true:=okL_of hc.2
  have h:=Option.some.inj h
  subst h
  refine ⟨l.length+1,?_⟩
  unfold F_q84q worksB
  simp only [specGood n es v p q m t u () h1 h2,Option.bind_some]
  cases hw:workB ((n,es,v),p,q,m,t,u) with
  | false=>rfl
  | true=>
   obtain ⟨o,o1,o2⟩:=spec_works (l.length+1) ((0,[],()),0,0,[],0,()) l (okL_lim h3) l.length 0 (l.length+1) ((n,es,v),p,q,m,t,u) (by omega) (by omega) hw
   simp only [Int.natCast_zero,List.drop_zero] at o1 o2
   simp only [Bool.not_true,Bool.false_eq_true,if_false,if_true,own_ws n es v p q m t u () h1 h2,Option.bind_some,o1]
   exact works_end o l _ _ o2
 ·cases h
theorem implDW_lim (d) (r) (h:G_DoWorks d=some r):∃N,F_q77q N d=some r:=by
 obtain ⟨⟨⟨n,es,v⟩,p,q,m,t,u⟩,l,z⟩:=d
 unfold G_DoWorks at h
 split at h
 ·rename_i hc
  unfold okWs at hc
  simp only [Bool.and_eq_true,decide_eq_true_eq] at hc
  have h1:okL es=true:=okL_of hc.1.1
  have h2:okL m=true:=okL_of hc.1.2
  have h3:okL l=true:=okL_of hc.2
  have h:=Option.some.inj h
  subst h
  refine ⟨l.length+1,?_⟩
  unfold F_q77q worksB
  have hcl:G_cloneWs (((n,es,v),p,q,m,t,u),())=some (((n,es,v),p,q,m,t,u),()):=by
   unfold G_cloneWs
   rw [if_pos (by show (okL es&&okL m)=true;rw [h1,h2];rfl)]
  simp only [implW n es v p q m t u () h1 h2,Option.bind_some]
  cases hw:workB ((n,es,v),p,q,m,t,u) with
  | false=>rfl
  | true=>
   obtain ⟨o,o1,o2⟩:=impl_works (l.length+1) ((0,[],()),0,0,[],0,()) l (okL_lim h3) l.length 0 (l.length+1) ((n,es,v),p,q,m,t,u) (by omega) (by omega) hw
   simp only [Int.natCast_zero,List.drop_zero] at o1 o2
   simp only [Bool.not_true,Bool.false_eq_true,if_false,if_true,hcl,Option.bind_some,o1]
   exact works_end o l _ _ o2
 ·cases h
end Go.V.W
namespace Go.V.W
open Go.Proofs
def okR (w:Wk):Prop:=w.1.2.1.length<=1048576/\w.2.2.2.1.length<=1048576
theorem okR_work {w:Wk} (h:workB w=true):okR w:=by
 have:=okW_of h
 unfold okW at this
 simp only [Bool.and_eq_true,decide_eq_true_eq] at this
 exact ⟨by omega,by omega⟩
theorem okR_zero:okR W0:=⟨Nat.zero_le _,Nat.zero_le _⟩
theorem outW_res (b:Bool) (w:Wk):okR (outW b w).1:=by
 unfold outW
 split
 ·rename_i h
  simp only [Bool.and_eq_true] at h
  exact okR_work h.2
 ·exact okR_zero
theorem doW_res (w:Wk) (x:Wo):okR (doW w x).1:=by
 unfold doW
 repeat' split
 all_goals first
  | exact outW_res _ _
  | exact okR_zero
theorem worksL_res:∀(l:List Wo) (i:Nat) (w:Wk),workB w=true->okR (worksL l i w).1:=by
 intro l
 induction l with
 | nil=>intro i w hw;exact okR_work hw
 | cons x l ih=>
  intro i w hw
  unfold worksL
  split
  ·rename_i h
   exact ih _ _ (doW_ok h).1
  ·exact okR_work hw
def dwB (w:Wk) (x:Wo):Wk×Bool×Unit:=if workB w=true then doW w x else (W0,false,())
theorem dwB_res (w:Wk) (x:Wo):okR (dwB w x).1:=by
 unfold dwB
 split
 ·exact doW_res w x
 ·exact okR_zero
theorem specDW1 (n:Int) (l:List E) (v:Unit) (p q:Int) (m:List Int) (t:Int) (u w:Unit) (x:Wo) (hl:okL l=true) (hm:okL m=true):F_q102q 0 (((n,l,v),p,q,m,t,u),x,w)=some (dwB ((n,l,v),p,q,m,t,u) x):=by
 unfold F_q102q dwB
 simp only [specGood n l v p q m t u () hl hm,Option.bind_some]
 cases h:workB ((n,l,v),p,q,m,t,u) with
 | false=>rfl
 | true=>
  simp only [Bool.not_true,Bool.false_eq_true,if_false,do_some h,Option.bind_some,if_true]
theorem implDW1 (n:Int) (l:List E) (v:Unit) (p q:Int) (m:List Int) (t:Int) (u w:Unit) (x:Wo) (hl:okL l=true) (hm:okL m=true):F_q96q 0 (((n,l,v),p,q,m,t,u),x,w)=some (dwB ((n,l,v),p,q,m,t,u) x):=by
 unfold F_q96q dwB
 simp only [implW n l v p q m t u () hl hm,Option.bind_some]
 cases h:workB ((n,l,v),p,q,m,t,u) with
 | false=>rfl
 | true=>
  simp only [Bool.not_true,Bool.false_eq_true,if_false,do_some h,Option.bind_some,if_true]
theorem worksB_res (w:Wk) (l:List Wo):okR (worksB w l).1:=by
 unfold worksB
 split
 ·rename_i h
  exact worksL_res l 0 w h
 ·exact okR_zero
end Go.V.W
