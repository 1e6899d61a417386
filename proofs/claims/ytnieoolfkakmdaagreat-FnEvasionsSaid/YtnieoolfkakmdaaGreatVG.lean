/- What the law FnEvasions leans on, part 7: an interpreter of the model as plain data, its soundness, the functions as it tells them, and their laws. -/
import Derived.Shelf.Lays
import Derived.Shelf.LaysM
import Derived.Shelf.SortM.Plain
import Derived.Shelf.SortM.SortNone
import Derived.Shelf.SlSortCmp.NoneTotal
import Derived.Test.YtnieoolfkakmdaaGreatVF
set_option linter.unusedVariables false
set_option linter.unusedSimpArgs false
set_option maxRecDepth 100000
namespace Go.V.W
open Go.Proofs
theorem cgB_parts {l:List Int} {v u:Unit} {cf mv:List (List Int)} {T:Tab} (h:cgB ((l,v),cf,mv,T,u)=true):netB l=true/\1<=l.length/\gmB l.length cf mv=true/\rcB cf.length l.length T=true:=by
 unfold cgB at h
 simp only [Bool.and_eq_true,decide_eq_true_eq] at h
 exact ⟨h.1.1.1,h.1.1.2,h.1.2,h.2⟩
theorem timeAfter_some {l:List Int} (hl:netB l=true) {cf:List (List Int)} {T:Tab} (hT:rcB cf.length l.length T=true) {d x:Nat} (hd:d<cf.length) (hx:x<l.length) (v u:Unit):G_timeAfter ((l,v),at_ K_Si T d,(x:Int),u)=some (worstL (tab2 T (d:Int)) (ballM l (x:Int)) 0,()):=by
 obtain ⟨t1,t2⟩:=rcB_parts hT
 have hlen:decide ((at_ K_Si T d).length=l.length)=true:=decide_eq_true (t2 d hd)
 have i2:inB 0 ((l.length:Int)-1) (x:Int)=true:=inB_iff.2 (by omega)
 have hlt:d<T.length:=by omega
 have ea:at_ K_Si T d=T.getD d []:=by
  have:at_ K_Si T d=T[d]:=at_get (e:=K_Si) hlt
  rw [this,List.getD_eq_getElem?_getD,List.getElem?_eq_getElem hlt]
  rfl
 unfold G_timeAfter
 simp only [hl,hlen,i2,Bool.and_self,if_true]
 rw [ea]
 rfl
theorem can1g_some {l:List Int} {v u:Unit} {cf mv:List (List Int)} {T:Tab} (h:cgB ((l,v),cf,mv,T,u)=true) {d x:Nat} (hd:d<cf.length) (hx:x<l.length) (a b e:Unit):FV_q17q ((d:Int),(a,((l,v),cf,mv,T,u),(x:Int),b),e)=some (decide (0<=afterG cf (ballM l) T (d:Int) (x:Int)),()):=by
 obtain ⟨h1,h2,h3,h4⟩:=cgB_parts h
 obtain ⟨g1,g2,g3,g4⟩:=gmB_parts h3
 obtain ⟨y1,y2,y3⟩:=g3 d hd
 obtain ⟨t1,t2⟩:=rcB_parts h4
 have i1:idxIn (d:Int) T.length=true:=idxIn_nat (by omega)
 unfold FV_q17q F_q17q afterG
 simp only [idxIn_nat hd,if_true,Int.toNat_natCast,has2 (okL_of (show (at_ K_Si cf d).length<=1048576 by omega)),Option.bind_some,y2,i1,timeAfter_some h1 h4 hd hx]
 by_cases hh:hasL (at_ K_Si cf d) (x:Int)=true
 ·simp only [hh,if_true]
  rfl
 ·simp only [hh,Bool.false_eq_true,if_false]
theorem gameCan_lim (d) (r) (h:G_gameCan d=some r):∃N,F_q4q N d=some r:=by
 obtain ⟨xs,⟨a,⟨⟨l,v⟩,cf,mv,T,u⟩,q,b⟩,_⟩:=d
 unfold G_gameCan at h
 split at h
 ·rename_i hc
  simp only [Bool.and_eq_true,decide_eq_true_eq] at hc
  obtain ⟨⟨⟨hg,hq'⟩,hlen⟩,hxs⟩:=hc
  obtain ⟨q,rfl,hq⟩:=nodeX hq'
  have h:=Option.some.inj h
  subst h
  have hlen:xs.length<=1000:=hlen
  have hmx:xs.length<=maxLen:=by unfold maxLen;omega
  refine ⟨xs.length+1,?_⟩
  unfold F_q4q
  have:=loop_idx (L:=q4q_l0 (xs.length+1)) (r:=q4q_l0_r (xs.length+1)) (fun _ _=>rfl) (e:=I) xs (mk:=fun i=>(xs,(a,((l,v),cf,mv,T,u),(q:Int),b),(xs.length:Int),(i:Int),())) (q:=fun b=>decide (0<=afterG cf (ballM l) T b (q:Int))) (o:=fun i=>.inl ((i:Int),())) (f:=.inr (.inl ()))
   (by
    intro back i hi
    have hx:at_ I xs i=xs[i]:=at_get (e:=I) hi
    obtain ⟨y,b1,b2⟩:=nodeX (List.all_eq_true.1 hxs xs[i] (List.getElem_mem hi))
    have hcan:=can1g_some hg b2 hq a b ()
    rw [<- b1] at hcan
    unfold q4q_l0_r
    simp only [lt_dec hi,if_true,idxIn_nat hi,Int.toNat_natCast,wrap_up hi hmx,hx,hcan,Option.bind_some])
   (by intro back;unfold q4q_l0_r;simp only [lt_not,Bool.false_eq_true,if_false]) xs.length 0 (by omega) (by omega)
  simp only [Int.natCast_zero,List.drop_zero] at this
  simp only [this,Option.bind_some]
  cases idxN (fun b=>decide (0<=afterG cf (ballM l) T b (q:Int))) xs 0<;>rfl
 ·cases h
theorem gcan_some {l:List Int} {v u:Unit} {cf mv:List (List Int)} {T:Tab} (h:cgB ((l,v),cf,mv,T,u)=true) {c x:Nat} (hc:c<cf.length) (hx:x<l.length) (b:Unit):F_q27q 0 (((l,v),cf,mv,T,u),(c:Int),(x:Int),b)=some ((at_ K_Si mv c).any (fun d=>decide (0<=afterG cf (ballM l) T d (x:Int))),()):=by
 obtain ⟨h1,h2,h3,h4⟩:=cgB_parts h
 obtain ⟨g1,g2,g3,g4⟩:=gmB_parts h3
 obtain ⟨m1,m2,m3⟩:=g4 c hc
 have i1:idxIn (c:Int) mv.length=true:=idxIn_nat (by omega)
 have i2:inB 0 ((l.length:Int)-1) (x:Int)=true:=inB_iff.2 (by omega)
 have hall:(at_ K_Si mv c).all (inB 0 ((cf.length:Int)-1))=true:=List.all_eq_true.2 m3
 have hlen:decide ((at_ K_Si mv c).length<=1000)=true:=decide_eq_true m1
 unfold F_q27q F_q3q
 simp only [i1,if_true,Int.toNat_natCast,G_gameCan,h,i2,hlen,hall,Bool.and_self,Option.bind_some,idxI_ge]
theorem has_take {c:List Int} {j:Nat} (hj:j<c.length) (x:Int):hasL (c.take (j+1)) x=(hasL (c.take j) x||c[j]==x):=by
 unfold hasL
 rw [List.take_add_one,List.any_append,List.getElem?_eq_getElem hj]
 simp
theorem cg_l2 (N:Nat) (w:Nt) (y:Cg) (a:List (List Int)) (b e:Int) (n:Nat) (c:List Int) (hc3:c.length<=3) (hc:∀x∈c,inB 0 ((n:Int)-1) x=true):∀q j f,j+q=c.length->q<f ->
  q25q_l2 N f (w,y,(List.range n).map (fun (x:Nat)=>if hasL (c.take j) (x:Int)=true then (0:Int) else -1),a,b,e,c,(c.length:Int),(j:Int),())=some (.inl (w,y,(List.range n).map (fun (x:Nat)=>if hasL c (x:Int)=true then (0:Int) else -1),a,b,e,())):=by
 intro q
 induction q with
 | zero=>
  intro j f e1 e2
  obtain ⟨f,rfl⟩:∃m,f=m+1:=⟨f-1,by omega⟩
  have e:j=c.length:=by omega
  subst e
  rw [List.take_of_length_le (Nat.le_refl _)]
  show q25q_l2_r _ _ _=_
  unfold q25q_l2_r
  simp only [lt_not,Bool.false_eq_true,if_false]
 | succ q ih=>
  intro j f e1 e2
  obtain ⟨f,rfl⟩:∃m,f=m+1:=⟨f-1,by omega⟩
  have hj:j<c.length:=by omega
  obtain ⟨z,hz,hzn⟩:=nodeX (hc c[j] (List.getElem_mem hj))
  have ej:at_ I c j=(z:Int):=(at_get (e:=I) hj).trans hz
  have i1:∀g:Nat->Int,idxIn (z:Int) ((List.range n).map g).length=true:=fun g=>idxIn_nat (by simpa using hzn)
  have fin:=ih (j+1) f (by omega) (by omega)
  have er:(List.range n).map (fun (x:Nat)=>if hasL (c.take (j+1)) (x:Int)=true then (0:Int) else -1)=((List.range n).map (fun (x:Nat)=>if hasL (c.take j) (x:Int)=true then (0:Int) else -1)).set z 0:=by
   rw [map_set]
   refine List.map_congr_left fun x _ => ?_
   rw [has_take hj,hz]
   by_cases exz:x=z
   ·subst exz;simp
   ·have:((z:Int)==(x:Int))=false:=by simp;omega
    rw [this,Bool.or_false,if_neg exz]
  rw [er] at fin
  show q25q_l2_r _ _ _=_
  unfold q25q_l2_r
  simp only [lt_dec hj,if_true,idxIn_nat hj,Int.toNat_natCast,ej,i1,small_wrap (show j<=100000 by omega)]
  exact fin
theorem cg_l0 (N:Nat) (hN:10<=N) (l:List Int) (v:Unit) (h1:1<=l.length) (h8:l.length<=8) (net:Nt) (cf mv:List (List Int)) (u:Unit) (hg:gmB l.length cf mv=true):∀q i f (acc:Tab),i+q=cf.length->q<f->acc.length+q<=1000 ->
  q25q_l0 N f ((l,v),(net,cf,mv,acc,u),cf,(cf.length:Int),(i:Int),())=some (.inl ((net,cf,mv,acc++(List.range' i q).map (fun c=>(List.range l.length).map (fun (x:Nat)=>if hasL (cf.getD c []) (x:Int)=true then (0:Int) else -1)),u),())):=by
 obtain ⟨g1,g2,g3,g4⟩:=gmB_parts hg
 intro q
 induction q with
 | zero=>
  intro i f acc e1 e2 e3
  obtain ⟨f,rfl⟩:∃m,f=m+1:=⟨f-1,by omega⟩
  have e:i=cf.length:=by omega
  subst e
  show q25q_l0_r _ _ _=_
  unfold q25q_l0_r
  simp only [lt_not,Bool.false_eq_true,if_false,List.range'_zero,List.map_nil,List.append_nil]
 | succ q ih=>
  intro i f acc e1 e2 e3
  obtain ⟨f,rfl⟩:∃m,f=m+1:=⟨f-1,by omega⟩
  have hi:i<cf.length:=by omega
  obtain ⟨y1,y2,y3⟩:=g3 i hi
  have hr:G_repeat ([-1],(l.length:Int),())=some ((List.range l.length).map (fun (x:Nat)=>if hasL ((at_ K_Si cf i).take 0) (x:Int)=true then (0:Int) else -1),()):=by
   unfold G_repeat
   have e1:decide (1<=(l.length:Int))=true:=by simp;omega
   have e2:decide ((l.length:Int)<=8)=true:=by simp;omega
   simp only [List.length_singleton,decide_true,e1,e2,Bool.and_self,if_true,Int.toNat_natCast,List.headD_cons]
   congr 2
   apply List.ext_getElem
   ·simp
   ·intro i h1 h2
    simp [hasL]
  have hin:=cg_l2 N (l,v) (net,cf,mv,acc,u) cf (cf.length:Int) (i:Int) l.length (at_ K_Si cf i) y1 y3 (at_ K_Si cf i).length 0 N (by omega) (by omega)
  simp only [Int.natCast_zero] at hin
  have c1:∀x:List Int,decide (acc.length+List.length [x]<=lim)=true:=fun x=>by unfold lim;simp;omega
  show q25q_l0_r _ _ _=_
  unfold q25q_l0_r g_q43q
  simp only [lt_dec hi,if_true,idxIn_nat hi,Int.toNat_natCast,hr,Option.bind_some,hin,c1,small_wrap (show i<=100000 by omega)]
  rw [ih (i+1) f _ (by omega) (by omega) (by simp;omega),List.range'_succ,List.map_cons,List.append_assoc,List.singleton_append,y2]
theorem cg_l8 (N:Nat) {l:List Int} {v u:Unit} {cf mv:List (List Int)} {T:Tab} (h:cgB ((l,v),cf,mv,T,u)=true) (t:Int) (fd:Bool) (c:Nat) (hc:c<cf.length) (a b:Int):∀(k x f:Nat) (fresh:List E),x+k=l.length->k<f->fresh.length+k<=2000 ->
  q25q_l8 N f (((l,v),cf,mv,T,u),t,fd,fresh,(c:Int),a,b,(l.length:Int),(x:Int),(),(c:Int),()) =
   some (.inl (((l,v),cf,mv,T,u),t,fd,fresh++rowE (canG cf mv (ballM l) T) c k x,a,b,(),())):=by
 obtain ⟨h1,h2,h3,h4⟩:=cgB_parts h
 obtain ⟨g1,g2,g3,g4⟩:=gmB_parts h3
 obtain ⟨m1,m2,m3⟩:=g4 c hc
 obtain ⟨t1,t2⟩:=rcB_parts h4
 obtain ⟨p1,p2,p3,p4⟩:=netB_parts h1
 intro k
 induction k with
 | zero=>
  intro x f fresh e1 e2 e3
  obtain ⟨f,rfl⟩:∃m,f=m+1:=⟨f-1,by omega⟩
  have e:x=l.length:=by omega
  subst e
  show q25q_l8_r _ _ _=_
  unfold q25q_l8_r
  simp only [lt_not,Bool.false_eq_true,if_false,rowE,List.append_nil]
 | succ k ih=>
  intro x f fresh e1 e2 e3
  obtain ⟨f,rfl⟩:∃m,f=m+1:=⟨f-1,by omega⟩
  have hx:x<l.length:=by omega
  have i2:idxIn (x:Int) (at_ K_Si T c).length=true:=idxIn_nat (by rw [t2 c hc];exact hx)
  have hv:=tab2_rc h4 hc hx
  have hle:decide (fresh.length+List.length [(((c:Int),(x:Int),()):E)]<=lim)=true:=by
   unfold lim
   simp
   omega
  show q25q_l8_r _ _ _=_
  unfold q25q_l8_r
  simp only [lt_dec hx,if_true,Int.toNat_natCast,i2,hv,gcan_some h hc hx,Option.bind_some,hle,small_wrap (show x<=100000 by omega),rowE]
  have hcan:canG cf mv (ballM l) T c x=(decide (tab2 T (c:Int) (x:Int)<0)&&(at_ K_Si mv c).any (fun d=>decide (0<=afterG cf (ballM l) T d (x:Int)))):=by
   unfold canG
   rw [m2]
  by_cases hf:tab2 T (c:Int) (x:Int)<0
  ·cases hany:(at_ K_Si mv c).any (fun d=>decide (0<=afterG cf (ballM l) T d (x:Int))) with
   | true=>
    rw [hany] at hcan
    simp only [hf,decide_true,Bool.and_self] at hcan
    simp only [hf,decide_true,if_true,hcan]
    rw [ih (x+1) f _ (by omega) (by omega) (by simp;omega)]
    simp
   | false=>
    rw [hany,Bool.and_false] at hcan
    simp only [hf,decide_true,if_true,hcan,Bool.false_eq_true,if_false]
    exact ih (x+1) f fresh (by omega) (by omega) (by omega)
  ·simp only [hf,decide_false,Bool.false_and] at hcan
   simp only [hf,decide_false,Bool.false_eq_true,if_false,hcan]
   exact ih (x+1) f fresh (by omega) (by omega) (by omega)
theorem cg_l6 (N:Nat) (hN:10<=N) {l:List Int} {v u:Unit} {cf mv:List (List Int)} {T:Tab} (h:cgB ((l,v),cf,mv,T,u)=true) (t:Int) (fd:Bool):∀(k c f:Nat) (fresh:List E),c+k=cf.length->k<f->fresh.length+8*k<=1000 ->
  q25q_l6 N f (((l,v),cf,mv,T,u),t,fd,fresh,(cf.length:Int),(c:Int),(),()) =
   some (.inl (((l,v),cf,mv,T,u),t,fd,fresh++allP (canG cf mv (ballM l) T) l.length k c,())):=by
 obtain ⟨h1,h2,h3,h4⟩:=cgB_parts h
 obtain ⟨g1,g2,g3,g4⟩:=gmB_parts h3
 obtain ⟨t1,t2⟩:=rcB_parts h4
 obtain ⟨p1,p2,p3,p4⟩:=netB_parts h1
 intro k
 induction k with
 | zero=>
  intro c f fresh e1 e2 e3
  obtain ⟨f,rfl⟩:∃m,f=m+1:=⟨f-1,by omega⟩
  have e:c=cf.length:=by omega
  subst e
  show q25q_l6_r _ _ _=_
  unfold q25q_l6_r
  simp only [lt_not,Bool.false_eq_true,if_false,allP,List.append_nil]
 | succ k ih=>
  intro c f fresh e1 e2 e3
  obtain ⟨f,rfl⟩:∃m,f=m+1:=⟨f-1,by omega⟩
  have hc:c<cf.length:=by omega
  have i1:idxIn (c:Int) T.length=true:=idxIn_nat (by omega)
  have hin:=cg_l8 N h t fd c hc (cf.length:Int) (c:Int) l.length 0 N fresh (by omega) (by omega) (by omega)
  simp only [Int.natCast_zero] at hin
  have hrl:=rowE_len (p:=canG cf mv (ballM l) T) (x:=c) (m:=l.length) (y:=0)
  show q25q_l6_r _ _ _=_
  unfold q25q_l6_r
  simp only [lt_dec hc,if_true,i1,Int.toNat_natCast,t2 c hc,hin,Option.bind_some,small_wrap (show c<=100000 by omega),allP]
  rw [ih (c+1) f _ (by omega) (by omega) (by simp;omega),List.append_assoc]
theorem tabM_set {m n:Nat} {g:Nat->Nat->Int} {x z:Nat} (hx:x<m) (hz:z<n) (t:Int):List.set (tabM m n g) x (List.set (at_ K_Si (tabM m n g) x) z t)=tabM m n fun c r=>if c=x/\r=z then t else g c r:=by
 have hl:x<(tabM m n g).length:=by rw [tabM_len];exact hx
 have e:at_ K_Si (tabM m n g) x=(tabM m n g)[x]:=at_get (e:=K_Si) hl
 have hrow:=tabM_row (n:=n) g hx
 rw [List.getElem?_eq_getElem hl] at hrow
 rw [e,Option.some.inj hrow,map_set]
 apply List.ext_getElem
 ·simp [tabM]
 ·intro i h1 h2
  rw [List.getElem_set]
  by_cases ei:x=i
  ·subst ei
   simp only [if_true,tabM,List.getElem_map,List.getElem_range,true_and]
  ·have ei':¬i=x:=fun h=>ei h.symm
   simp only [ei,if_false,tabM,List.getElem_map,List.getElem_range,ei',false_and]
theorem cg_l10 (N:Nat) (w:Nt) (cf mv:List (List Int)) (u:Unit) (m n:Nat) (t:Int) (fresh:List E) (hfr:∀e∈fresh,∃x z:Nat,x<m/\z<n/\e=((x:Int),(z:Int),())) (hl:fresh.length<=1000):∀(k i f:Nat) (g:Nat->Nat->Int) (fd:Bool),i+k=fresh.length->k<f ->
  q25q_l10 N f ((w,cf,mv,tabM m n g,u),t,fd,fresh,(fresh.length:Int),(i:Int),()) =
   some (.inl ((w,cf,mv,tabM m n (fun c r=>if (fresh.drop i).any (isP c r)=true then t else g c r),u),t,fd||decide (0<k),())):=by
 intro k
 induction k with
 | zero=>
  intro i f g fd h1 h2
  obtain ⟨f,rfl⟩:∃m,f=m+1:=⟨f-1,by omega⟩
  have e:i=fresh.length:=by omega
  subst e
  show q25q_l10_r _ _ _=_
  unfold q25q_l10_r
  rw [List.drop_of_length_le (Nat.le_refl _)]
  simp only [lt_not,Bool.false_eq_true,if_false,List.any_nil,Nat.lt_irrefl,decide_false,Bool.or_false]
 | succ k ih=>
  intro i f g fd h1 h2
  obtain ⟨f,rfl⟩:∃m,f=m+1:=⟨f-1,by omega⟩
  have hi:i<fresh.length:=by omega
  obtain ⟨x,z,hx,hz,ee⟩:=hfr fresh[i] (List.getElem_mem hi)
  have e:at_ K_Piiq fresh i=((x:Int),(z:Int),()):=(at_get (e:=K_Piiq) hi).trans ee
  obtain ⟨t1,t2⟩:=rcB_parts (rc_tabM m n g)
  have i1:idxIn (x:Int) (tabM m n g).length=true:=idxIn_nat (by omega)
  have i2:idxIn (z:Int) (at_ K_Si (tabM m n g) x).length=true:=idxIn_nat (by rw [t2 x hx];exact hz)
  show q25q_l10_r _ _ _=_
  unfold q25q_l10_r
  simp only [lt_dec hi,if_true,idxIn_nat hi,Int.toNat_natCast,e,i1,i2,small_wrap (show i<=100000 by omega),tabM_set hx hz]
  rw [ih (i+1) f _ true (by omega) (by omega),List.drop_eq_getElem_cons hi,ee]
  have et:tabM m n (fun c r=>if (fresh.drop (i+1)).any (isP c r)=true then t else if c=x/\r=z then t else g c r)=tabM m n fun c r=>if (((x:Int),(z:Int),())::fresh.drop (i+1)).any (isP c r)=true then t else g c r:=tabM_congr fun c r _ _=>by
   rw [List.any_cons]
   by_cases h3:(fresh.drop (i+1)).any (isP c r)=true
   ·simp [h3]
   ·have h3':(fresh.drop (i+1)).any (isP c r)=false:=by simpa using h3
    by_cases h4:c=x/\r=z
    ·have:isP c r ((x:Int),(z:Int),())=true:=by
      unfold isP
      simp [h4.1,h4.2]
     rw [if_neg h3,if_pos h4,this,Bool.true_or,if_pos rfl]
    ·have:isP c r ((x:Int),(z:Int),())=false:=by
      unfold isP
      simp only [Bool.and_eq_false_iff,beq_eq_false_iff_ne,ne_eq]
      by_cases h5:c=x
      ·exact .inr fun h=>h4 ⟨h5,by omega⟩
      ·exact .inl fun h=>h5 (by omega)
     simp [h3',h4,this]
  rw [et]
  simp
theorem allP_anyM {p:Nat->Nat->Bool} {m n c r:Nat} (hc:c<m) (hr:r<n):(allP p n m 0).any (isP c r)=p c r:=by
 apply Bool.eq_iff_iff.2
 rw [List.any_eq_true]
 constructor
 ·rintro ⟨e,he,h⟩
  obtain ⟨x,z,h1,h2,h3,h4,rfl⟩:=allP_mem.1 he
  unfold isP at h
  simp only [Bool.and_eq_true,beq_iff_eq] at h
  have e1:x=c:=by omega
  have e2:z=r:=by omega
  subst e1 e2
  exact h4
 ·intro h
  exact ⟨((c:Int),(r:Int),()),allP_mem.2 ⟨c,r,Nat.zero_le _,by omega,hr,h,rfl⟩,by unfold isP;simp⟩
theorem allP_posM {cf mv:List (List Int)} {ball:Int->List Int} {n:Nat} {T:Tab}:decide (0<(allP (canG cf mv ball T) n cf.length 0).length)=anyG cf mv ball n T:=by
 apply Bool.eq_iff_iff.2
 rw [decide_eq_true_eq,anyG_spec]
 constructor
 ·intro h
  obtain ⟨x,z,h1,h2,h3,h4,_⟩:=allP_mem.1 (List.getElem_mem h)
  exact ⟨x,z,by omega,h3,h4⟩
 ·rintro ⟨c,r,hc,hr,h⟩
  exact List.length_pos_of_mem (allP_mem.2 ⟨c,r,Nat.zero_le _,by omega,hr,h,rfl⟩)
theorem cg_l4 (N:Nat) (hN:2000<=N) {l:List Int} {v u:Unit} {cf mv:List (List Int)} (hl:netB l=true) (h1:1<=l.length) (hg:gmB l.length cf mv=true):∀(k t:Nat) (T:Tab),rcB cf.length l.length T=true->t+k<=2000->negsM cf.length l.length T<k -> ∀f,k+1<=f ->
  q25q_l4 N f (((l,v),cf,mv,T,u),(t:Int),true,())=some (.inl (((l,v),cf,mv,gameT cf mv (ballM l) l.length k (t:Int) T,u),())):=by
 obtain ⟨g1,g2,g3,g4⟩:=gmB_parts hg
 obtain ⟨p1,p2,p3,p4⟩:=netB_parts hl
 intro k
 induction k with
 | zero=>intro t T _ _ h;omega
 | succ k ih=>
  intro t T hT ht hng f hf
  obtain ⟨f,rfl⟩:∃m,f=m+1:=⟨f-1,by omega⟩
  have h:cgB ((l,v),cf,mv,T,u)=true:=by
   unfold cgB
   simp only [hl,hg,hT,h1,decide_true,Bool.and_self]
  obtain ⟨t1,t2⟩:=rcB_parts hT
  have h6:=cg_l6 N (by omega) h (t:Int) false cf.length 0 N [] (by omega) (by omega) (by simp;omega)
  simp only [Int.natCast_zero,List.nil_append] at h6
  have hlen:=allP_len (p:=canG cf mv (ballM l) T) (n:=l.length) (k:=cf.length) (c:=0)
  have hnn:l.length*cf.length<=8*120:=Nat.mul_le_mul p3 g1
  have h10:=cg_l10 N (l,v) cf mv u cf.length l.length (t:Int) (allP (canG cf mv (ballM l) T) l.length cf.length 0) (fun e he=>by
   obtain ⟨x,z,_,h2,h3,_,h5⟩:=allP_mem.1 he
   exact ⟨x,z,by omega,h3,h5⟩) (by omega) (allP (canG cf mv (ballM l) T) l.length cf.length 0).length 0 N (fun c x=>tab2 T (c:Int) (x:Int)) false (by omega) (by omega)
  rw [tabM_self hT] at h10
  simp only [Int.natCast_zero,List.drop_zero,Bool.false_or,allP_posM] at h10
  have et:tabM cf.length l.length (fun c r=>if (allP (canG cf mv (ballM l) T) l.length cf.length 0).any (isP c r)=true then (t:Int) else tab2 T (c:Int) (r:Int))=stepG cf mv (ballM l) l.length (t:Int) T:=tabM_congr fun c r hc hr=>by
   rw [allP_anyM hc hr]
  rw [et] at h10
  show q25q_l4_r _ _ _=_
  unfold q25q_l4_r
  simp only [if_true,t1,h6,Option.bind_some,h10,small_wrap (show t<=100000 by omega),gameT]
  by_cases ha:anyG cf mv (ballM l) l.length T=true
  ·rw [if_pos ha,ha]
   have:=negsM_step (t:=(t:Int)) (by omega) ha
   exact ih (t+1) (stepG cf mv (ballM l) l.length (t:Int) T) (rc_tabM _ _ _) (by omega) (by omega) f (by omega)
  ·have ha':anyG cf mv (ballM l) l.length T=false:=(Bool.not_eq_true _).mp ha
   rw [if_neg ha,ha',stepG_none hT ha']
   obtain ⟨f,rfl⟩:∃m,f=m+1:=⟨f-1,by omega⟩
   rfl
theorem copGame_lim (d) (r) (h:G_copGame d=some r):∃N,F_q25q N d=some r:=by
 obtain ⟨⟨l,v⟩,k,_⟩:=d
 unfold G_copGame at h
 split at h
 ·rename_i hc
  simp only [Bool.and_eq_true,decide_eq_true_eq] at hc
  obtain ⟨⟨hl,h1⟩,hk⟩:=hc
  have hl:netB l=true:=hl
  have h1:1<=l.length:=h1
  have hk2:=inB_iff.1 hk
  obtain ⟨p1,p2,p3,p4⟩:=netB_parts hl
  have h:=Option.some.inj h
  subst h
  refine ⟨2000,?_⟩
  have hg:=board_ok (n:=l.length) p3 (k:=k.toNat) (by omega) (ball:=ballM l) (fun x _=>ballM_len l _) (fun x hx=>ballM_in hl hx)
  obtain ⟨g1,g2,g3,g4⟩:=gmB_parts hg
  have hb:G_copBoard ((l,v),k,())=some (((l,v),confL l.length k.toNat,movesI (ballM l) (confL l.length k.toNat),[],()),()):=by
   unfold G_copBoard
   simp only [hl,hk,Bool.and_self,if_true]
  have h0:=cg_l0 2000 (by omega) l v h1 p3 (l,v) (confL l.length k.toNat) (movesI (ballM l) (confL l.length k.toNat)) () hg (confL l.length k.toNat).length 0 2000 [] (by omega) (by omega) (by simp;omega)
  simp only [Int.natCast_zero,List.nil_append,<- List.range_eq_range'] at h0
  have e0:(List.range (confL l.length k.toNat).length).map (fun c=>(List.range l.length).map (fun (x:Nat)=>if hasL ((confL l.length k.toNat).getD c []) (x:Int)=true then (0:Int) else -1))=startG (confL l.length k.toNat) l.length:=rfl
  rw [e0] at h0
  have hneg:=negsM_le (confL l.length k.toNat).length l.length (startG (confL l.length k.toNat) l.length)
  have hmul:(confL l.length k.toNat).length*l.length<=120*8:=Nat.mul_le_mul g1 p3
  have h4:=cg_l4 2000 (by omega) (v:=v) (u:=()) hl h1 hg 1000 1 (startG (confL l.length k.toNat) l.length) (rc_tabM _ _ _) (by omega) (by omega) 2000 (by omega)
  have e1:((1:Nat):Int)=1:=rfl
  rw [e1] at h4
  unfold F_q25q
  simp only [hb,Option.bind_some,h0,h4]
  rfl
 ·cases h
end Go.V.W
namespace Go.V.W
open Go.Proofs
theorem after_congr {cf:List (List Int)} {b1 b2:Int->List Int} {T:Tab} {d x:Int} (h:b1 x=b2 x):afterG cf b1 T d x=afterG cf b2 T d x:=by
 unfold afterG
 rw [h]
theorem canG_congr {cf mv:List (List Int)} {b1 b2:Int->List Int} {T:Tab} {c x:Nat} (h:b1 (x:Int)=b2 (x:Int)):canG cf mv b1 T c x=canG cf mv b2 T c x:=by
 unfold canG
 simp only [after_congr (cf:=cf) (T:=T) h]
theorem anyG_congr {cf mv:List (List Int)} {b1 b2:Int->List Int} {n:Nat} (h:∀x:Nat,x<n->b1 (x:Int)=b2 (x:Int)) (T:Tab):anyG cf mv b1 n T=anyG cf mv b2 n T:=by
 apply bool_eq_iff
 rw [anyG_spec,anyG_spec]
 constructor
 ·rintro ⟨c,x,hc,hx,h2⟩
  exact ⟨c,x,hc,hx,by rw [<- canG_congr (h x hx)];exact h2⟩
 ·rintro ⟨c,x,hc,hx,h2⟩
  exact ⟨c,x,hc,hx,by rw [canG_congr (h x hx)];exact h2⟩
theorem gameT_congr {cf mv:List (List Int)} {b1 b2:Int->List Int} {n:Nat} (h:∀x:Nat,x<n->b1 (x:Int)=b2 (x:Int)):∀(k:Nat) (t:Int) (T:Tab),gameT cf mv b1 n k t T=gameT cf mv b2 n k t T:=by
 intro k
 induction k with
 | zero=>intro t T;rfl
 | succ k ih=>
  intro t T
  unfold gameT
  rw [anyG_congr h T]
  have:stepG cf mv b1 n t T=stepG cf mv b2 n t T:=tabM_congr fun c x hc hx=>by rw [canG_congr (h x hx)]
  rw [this,ih]
theorem times_congr {cf mv:List (List Int)} {b1 b2:Int->List Int} {n:Nat} (h:∀x:Nat,x<n->b1 (x:Int)=b2 (x:Int)):timesG cf mv b1 n=timesG cf mv b2 n:=gameT_congr h _ _ _
theorem gameT_rc {cf mv:List (List Int)} {ball:Int->List Int} {n:Nat}:∀(k:Nat) (t:Int) (T:Tab),rcB cf.length n T=true->rcB cf.length n (gameT cf mv ball n k t T)=true:=by
 intro k
 induction k with
 | zero=>intro t T h;exact h
 | succ k ih=>
  intro t T h
  unfold gameT
  split
  ·exact ih _ _ (rc_tabM _ _ _)
  ·exact h
theorem times_rc (cf mv:List (List Int)) (ball:Int->List Int) (n:Nat):rcB cf.length n (timesG cf mv ball n)=true:=gameT_rc _ _ _ (rc_tabM _ _ _)
theorem tm_rc (g:Gr) (k:Nat):rcB (cfG g k).length g.1.toNat (tmG g k)=true:=times_rc _ _ _ _
theorem ballA_L {n:Nat} (es:List E) {x:Nat} (hx:x<n):ballA (ballsL n es) (x:Int)=ballF n es (x:Int):=by
 unfold ballA ballsL
 rw [Int.toNat_natCast,List.getD_eq_getElem?_getD,List.getElem?_map,List.getElem?_range hx]
 rfl
theorem ballsL_len (n:Nat) (es:List E):(ballsL n es).length=n:=by simp [ballsL]
theorem balls_ok {n:Nat} (hn:n<=8) (es:List E):blB (ballsL n es)=true:=by
 unfold blB
 rw [ballsL_len,Bool.and_eq_true]
 refine ⟨decide_eq_true hn,List.all_eq_true.2 fun b hb => ?_⟩
 unfold ballsL at hb
 obtain ⟨x,_,rfl⟩:=List.mem_map.1 hb
 have:=ballF_len n es (x:Int)
 rw [Bool.and_eq_true]
 exact ⟨decide_eq_true (by omega),List.all_eq_true.2 (ballF_in es (x:Int))⟩
theorem field_parts {n:Int} {es:List E} {v:Unit} {k:Int} (h:fieldB (n,es,v) k=true):graphB (n,es,v)=true /\ ∃m q:Nat,n=(m:Int)/\k=(q:Int)/\1<=m/\m<=8/\1<=q/\q<=3:=by
 unfold fieldB at h
 simp only [Bool.and_eq_true,decide_eq_true_eq] at h
 obtain ⟨⟨h1,h2⟩,h3⟩:=h
 obtain ⟨h4,h5⟩:=graphB_n h1
 have h3:=inB_iff.1 h3
 exact ⟨h1,n.toNat,k.toNat,by omega,by omega,by omega,by omega,by omega,by omega⟩
theorem game_spec {m q:Nat} {es:List E} {v:Unit} (hg:graphB ((m:Int),es,v)=true) (ho:okL es=true) (hq:q<=3) (u w:Unit) :
  G_l4Make (((m:Int),es,v),(q:Int),u)=some ((cfG ((m:Int),es,v) q,mvG ((m:Int),es,v) q,ballsL m es,()),())/\G_l4Times ((cfG ((m:Int),es,v) q,mvG ((m:Int),es,v) q,ballsL m es,()),w)=some (tmG ((m:Int),es,v) q,()) /\
  gmB (ballsL m es).length (cfG ((m:Int),es,v) q) (mvG ((m:Int),es,v) q)=true/\blB (ballsL m es)=true:=by
 obtain ⟨h0,h8⟩:=graphB_n hg
 have hm:m<=8:=by omega
 have hG:=graph_grB hg ho
 have hk:inB 0 3 (q:Int)=true:=inB_iff.2 (by omega)
 have hb:=board_ok (n:=m) hm hq (ball:=ballF m es) (fun x _=>by have:=ballF_len m es (x:Int);omega) (fun x _=>ballF_in es (x:Int))
 have hb2:gmB (ballsL m es).length (cfG ((m:Int),es,v) q) (mvG ((m:Int),es,v) q)=true:=by
  rw [ballsL_len]
  unfold mvG cfG
  simp only [Int.toNat_natCast]
  exact hb
 have hbl:=balls_ok hm es
 refine ⟨?_,?_,hb2,hbl⟩
 ·unfold G_l4Make mvG cfG
  simp only [hG,hk,Bool.and_self,if_true,Int.toNat_natCast]
 ·unfold G_l4Times
  simp only [hb2,hbl,Bool.and_self,if_true]
  unfold tmG
  simp only [ballsL_len,Int.toNat_natCast]
  rw [times_congr fun x hx=>ballA_L es hx]
theorem game_impl {m q:Nat} {es:List E} {v:Unit} (hg:graphB ((m:Int),es,v)=true) (ho:okL es=true) (h1:1<=m) (hq:q<=3) (u:Unit) :
  G_copGame ((toI (netN m es),()),(q:Int),u)=some (((toI (netN m es),()),cfG ((m:Int),es,v) q,mvG ((m:Int),es,v) q,tmG ((m:Int),es,v) q,()),())/\cgB ((toI (netN m es),()),cfG ((m:Int),es,v) q,mvG ((m:Int),es,v) q,tmG ((m:Int),es,v) q,())=true:=by
 obtain ⟨h0,h8⟩:=graphB_n hg
 have hm:m<=8:=by omega
 obtain ⟨g1,_⟩:=graphB_edges hg
 obtain ⟨n1,n2⟩:=netB_net hm g1
 have hk:inB 0 3 (q:Int)=true:=inB_iff.2 (by omega)
 have e1:movesI (ballM (toI (netN m es))) (confL m q)=movesI (ballF m es) (confL m q):=by
  unfold movesI
  refine List.map_congr_left fun c hc => ?_
  rw [moves_congr fun x hx => ?_]
  have:=copsB_in (confL_mem.1 hc).2 x hx
  obtain ⟨y,rfl,hy⟩:=nodeX this
  exact ball_same hm g1 hy
 have e2:timesG (confL m q) (movesI (ballF m es) (confL m q)) (ballM (toI (netN m es))) m=timesG (confL m q) (movesI (ballF m es) (confL m q)) (ballF m es) m:=times_congr fun x hx=>ball_same hm g1 hx
 have hb:=board_ok (n:=m) hm hq (ball:=ballF m es) (fun x _=>by have:=ballF_len m es (x:Int);omega) (fun x _=>ballF_in es (x:Int))
 constructor
 ·unfold G_copGame
  have h1':decide (1<=m)=true:=decide_eq_true h1
  simp only [n1,n2,h1',hk,Bool.and_self,if_true,Int.toNat_natCast,e1,e2]
  rfl
 ·unfold cgB
  have h1':decide (1<=m)=true:=decide_eq_true h1
  have h2:=tm_rc ((m:Int),es,v) q
  simp only [Int.toNat_natCast] at h2
  have h3:gmB m (cfG ((m:Int),es,v) q) (mvG ((m:Int),es,v) q)=true:=by
   unfold mvG cfG
   simp only [Int.toNat_natCast]
   exact hb
  simp only [n1,n2,h1',h2,h3,Bool.and_self]
theorem specField {g:Gr} (ho:okL g.2.1=true) (k:Int) (u:Unit):F_q53q 0 (g,k,u)=some (fieldB g k,()):=by
 unfold F_q53q G_graph fieldB
 simp only [ho,if_true,Option.bind_some,l1In_eq]
 cases graphB g with
 | false=>simp only [Bool.false_eq_true,if_false,Bool.false_and]
 | true=>
  cases decide (g.1>0) with
  | false=>simp only [Bool.false_eq_true,if_false,if_true,Bool.and_false,Bool.false_and]
  | true=>simp only [if_true,Bool.true_and]
theorem implField {g:Gr} (ho:okL g.2.1=true) (k:Int) (u:Unit):F_q39q 0 (g,k,u)=some (fieldB g k,()):=by
 unfold F_q39q G_graph fieldB
 simp only [ho,if_true,Option.bind_some,within_eq]
 cases graphB g with
 | false=>simp only [Bool.false_eq_true,if_false,Bool.false_and]
 | true=>
  cases decide (g.1>0) with
  | false=>simp only [Bool.false_eq_true,if_false,if_true,Bool.and_false,Bool.false_and]
  | true=>simp only [if_true,Bool.true_and]
theorem tm_small {m q:Nat} {es:List E} {v:Unit} (hm:m<=8) (hq:q<=3):(tmG ((m:Int),es,v) q).length<=120 /\ ∀l∈tmG ((m:Int),es,v) q,l.length<=8:=by
 have h2:=tm_rc ((m:Int),es,v) q
 have h3:(cfG ((m:Int),es,v) q).length<=120:=confL_120 hm hq
 unfold rcB at h2
 simp only [Int.toNat_natCast,Bool.and_eq_true,decide_eq_true_eq,List.all_eq_true] at h2
 refine ⟨by omega,fun l hl => ?_⟩
 have:=h2.2 l hl
 omega
end Go.V.W
namespace Go.V.W
open Go.Proofs
theorem at_getD {l:List Int} {i:Nat} (h:i<l.length):at_ I l i=l.getD i 0:=by
 have e:at_ I l i=l[i]:=at_get (e:=I) h
 rw [e,List.getD_eq_getElem?_getD,List.getElem?_eq_getElem h]
 rfl
theorem at_getDS {l:List (List Int)} {i:Nat} (h:i<l.length):at_ K_Si l i=l.getD i []:=by
 have e:at_ K_Si l i=l[i]:=at_get (e:=K_Si) h
 rw [e,List.getD_eq_getElem?_getD,List.getElem?_eq_getElem h]
 rfl
theorem sf_l2 (N:Nat) (T:Tab) (out:Tab) (c:Nat) (hc:c<T.length) (hr:(at_ K_Si T c).length<=1000):∀(k x f:Nat) (acc:List Int),x+k=(at_ K_Si T c).length->k<f->acc.length+k<=2000 ->
  q66q_l2 N f (T,out,(c:Int),acc,(x:Int),())=some (.inl (T,out,(c:Int),acc++setF (fun y=>decide ((at_ K_Si T c).getD y 0<0)) k x,())):=by
 intro k
 induction k with
 | zero=>
  intro x f acc h1 h2 h3
  obtain ⟨f,rfl⟩:∃m,f=m+1:=⟨f-1,by omega⟩
  have e:x=(at_ K_Si T c).length:=by omega
  subst e
  show q66q_l2_r _ _ _=_
  unfold q66q_l2_r
  simp only [idxIn_nat hc,if_true,Int.toNat_natCast,lt_not,Bool.false_eq_true,if_false,setF,List.append_nil]
 | succ k ih=>
  intro x f acc h1 h2 h3
  obtain ⟨f,rfl⟩:∃m,f=m+1:=⟨f-1,by omega⟩
  have hx:x<(at_ K_Si T c).length:=by omega
  have hle:decide (acc.length+List.length [(x:Int)]<=lim)=true:=by unfold lim;simp;omega
  show q66q_l2_r _ _ _=_
  unfold q66q_l2_r
  simp only [idxIn_nat hc,if_true,Int.toNat_natCast,lt_dec hx,idxIn_nat hx,at_getD hx,hle,small_wrap (show x<=100000 by omega),setF]
  by_cases h:(at_ K_Si T c).getD x 0<0
  ·simp only [h,decide_true,if_true]
   rw [ih (x+1) f _ (by omega) (by omega) (by simp;omega)]
   simp
  ·simp only [h,decide_false,Bool.false_eq_true,if_false]
   exact ih (x+1) f acc (by omega) (by omega) (by omega)
theorem sf_l0 (N:Nat) (hN:1010<=N) (T:Tab) (hT:T.length<=1000) (hr:∀r∈T,r.length<=1000):∀(k c f:Nat) (acc:Tab),c+k=T.length->k<f->acc.length+k<=2000 ->
  q66q_l0 N f (T,acc,(c:Int),())=some (.inl (acc++(T.drop c).map negL,())):=by
 intro k
 induction k with
 | zero=>
  intro c f acc h1 h2 h3
  obtain ⟨f,rfl⟩:∃m,f=m+1:=⟨f-1,by omega⟩
  have e:c=T.length:=by omega
  subst e
  rw [List.drop_of_length_le (Nat.le_refl _)]
  show q66q_l0_r _ _ _=_
  unfold q66q_l0_r
  simp only [lt_not,Bool.false_eq_true,if_false,List.map_nil,List.append_nil]
 | succ k ih=>
  intro c f acc h1 h2 h3
  obtain ⟨f,rfl⟩:∃m,f=m+1:=⟨f-1,by omega⟩
  have hc:c<T.length:=by omega
  have ec:at_ K_Si T c=T[c]:=at_get (e:=K_Si) hc
  have hrc:(at_ K_Si T c).length<=1000:=by rw [ec];exact hr _ (List.getElem_mem hc)
  have hin:=sf_l2 N T acc c hc hrc (at_ K_Si T c).length 0 N [] (by omega) (by omega) (by simp;omega)
  simp only [Int.natCast_zero,List.nil_append] at hin
  have hneg:setF (fun y=>decide ((at_ K_Si T c).getD y 0<0)) (at_ K_Si T c).length 0=negL T[c]:=by rw [ec];rfl
  rw [hneg] at hin
  have hle:decide (acc.length+List.length [negL T[c]]<=lim)=true:=by unfold lim;simp;omega
  show q66q_l0_r _ _ _=_
  unfold q66q_l0_r
  simp only [lt_dec hc,if_true,hin,Option.bind_some,hle,small_wrap (show c<=100000 by omega)]
  rw [ih (c+1) f _ (by omega) (by omega) (by simp;omega),List.drop_eq_getElem_cons hc,List.map_cons,List.append_assoc,List.singleton_append]
theorem l4Safe_lim (d) (r) (h:G_l4Safe d=some r):∃N,F_q66q N d=some r:=by
 obtain ⟨T,_⟩:=d
 unfold G_l4Safe at h
 split at h
 ·rename_i hc
  simp only [Bool.and_eq_true,decide_eq_true_eq,List.all_eq_true] at hc
  have h:=Option.some.inj h
  subst h
  have hT:T.length<=1000:=hc.1
  refine ⟨1010,?_⟩
  have:=sf_l0 1010 (by omega) T hT hc.2 T.length 0 1010 [] (by omega) (by omega) (by simp;omega)
  simp only [Int.natCast_zero,List.drop_zero,List.nil_append] at this
  unfold F_q66q
  simp only [this,Option.bind_some]
 ·cases h
theorem ss_l2 (N:Nat) (out T:Tab) (n i:Int) (row:List Int) (hr:row.length<=1000):∀(k x f:Nat) (acc:List Int),x+k=row.length->k<f->acc.length+k<=2000 ->
  q50q_l2 N f (out,acc,T,n,i,row,(row.length:Int),(x:Int),())=some (.inl (out,acc++setF (fun y=>decide (row.getD y 0<0)) k x,T,n,i,())):=by
 intro k
 induction k with
 | zero=>
  intro x f acc h1 h2 h3
  obtain ⟨f,rfl⟩:∃m,f=m+1:=⟨f-1,by omega⟩
  have e:x=row.length:=by omega
  subst e
  show q50q_l2_r _ _ _=_
  unfold q50q_l2_r
  simp only [lt_not,Bool.false_eq_true,if_false,setF,List.append_nil]
 | succ k ih=>
  intro x f acc h1 h2 h3
  obtain ⟨f,rfl⟩:∃m,f=m+1:=⟨f-1,by omega⟩
  have hx:x<row.length:=by omega
  have hle:decide (acc.length+List.length [(x:Int)]<=lim)=true:=by unfold lim;simp;omega
  show q50q_l2_r _ _ _=_
  unfold q50q_l2_r
  simp only [if_true,Int.toNat_natCast,lt_dec hx,idxIn_nat hx,at_getD hx,hle,small_wrap (show x<=100000 by omega),setF]
  by_cases h:row.getD x 0<0
  ·simp only [h,decide_true,if_true]
   rw [ih (x+1) f _ (by omega) (by omega) (by simp;omega)]
   simp
  ·simp only [h,decide_false,Bool.false_eq_true,if_false]
   exact ih (x+1) f acc (by omega) (by omega) (by omega)
theorem ss_l0 (N:Nat) (hN:1010<=N) (T:Tab) (hT:T.length<=1000) (hr:∀r∈T,r.length<=1000):∀(k c f:Nat) (acc:Tab),c+k=T.length->k<f->acc.length+k<=2000 ->
  q50q_l0 N f (acc,T,(T.length:Int),(c:Int),())=some (.inl (acc++(T.drop c).map negL,())):=by
 intro k
 induction k with
 | zero=>
  intro c f acc h1 h2 h3
  obtain ⟨f,rfl⟩:∃m,f=m+1:=⟨f-1,by omega⟩
  have e:c=T.length:=by omega
  subst e
  rw [List.drop_of_length_le (Nat.le_refl _)]
  show q50q_l0_r _ _ _=_
  unfold q50q_l0_r
  simp only [lt_not,Bool.false_eq_true,if_false,List.map_nil,List.append_nil]
 | succ k ih=>
  intro c f acc h1 h2 h3
  obtain ⟨f,rfl⟩:∃m,f=m+1:=⟨f-1,by omega⟩
  have hc:c<T.length:=by omega
  have ec:at_ K_Si T c=T[c]:=at_get (e:=K_Si) hc
  have hrc:T[c].length<=1000:=hr _ (List.getElem_mem hc)
  have hin:=ss_l2 N acc T (T.length:Int) (c:Int) T[c] hrc T[c].length 0 N [] (by omega) (by omega) (by simp;omega)
  simp only [Int.natCast_zero,List.nil_append] at hin
  have hneg:setF (fun y=>decide (T[c].getD y 0<0)) T[c].length 0=negL T[c]:=rfl
  rw [hneg] at hin
  have hle:decide (acc.length+List.length [negL T[c]]<=lim)=true:=by unfold lim;simp;omega
  show q50q_l0_r _ _ _=_
  unfold q50q_l0_r
  simp only [lt_dec hc,if_true,idxIn_nat hc,Int.toNat_natCast,ec,hin,Option.bind_some,hle,small_wrap (show c<=100000 by omega)]
  rw [ih (c+1) f _ (by omega) (by omega) (by simp;omega),List.drop_eq_getElem_cons hc,List.map_cons,List.append_assoc,List.singleton_append]
theorem implSafe_lim (d) (r) (h:G_safe d=some r):∃N,F_q50q N d=some r:=by
 obtain ⟨⟨n,es,v⟩,k,_⟩:=d
 unfold G_safe at h
 split at h
 ·rename_i ho
  have ho:okL es=true:=ho
  have h:=Option.some.inj h
  subst h
  refine ⟨1010,?_⟩
  unfold F_q50q safeB
  simp only [implField (g:=(n,es,v)) ho,Option.bind_some]
  cases hf:fieldB (n,es,v) k with
  | false=>simp only [Bool.not_false,if_true,Bool.false_eq_true,if_false]
  | true=>
   obtain ⟨hg,m,q,rfl,rfl,m1,m8,q1,q3⟩:=field_parts hf
   obtain ⟨h1,_⟩:=game_impl (v:=v) hg ho m1 q3 ()
   obtain ⟨s1,s2⟩:=tm_small (es:=es) (v:=v) m8 q3
   have:=ss_l0 1010 (by omega) (tmG ((m:Int),es,v) q) (by omega) (fun r hr=>by have:=s2 r hr;omega) (tmG ((m:Int),es,v) q).length 0 1010 [] (by omega) (by omega) (by simp;omega)
   simp only [Int.natCast_zero,List.drop_zero,List.nil_append] at this
   simp only [Bool.not_true,Bool.false_eq_true,if_false,net_some hg ho,Option.bind_some,h1,this,if_true,Int.toNat_natCast]
 ·cases h
theorem specSS {n:Int} {es:List E} {v:Unit} (ho:okL es=true) (k:Int) (u:Unit):F_q46q 0 ((n,es,v),k,u)=some (safeB (n,es,v) k):=by
 unfold F_q46q safeB
 simp only [specField (g:=(n,es,v)) ho]
 cases h:fieldB (n,es,v) k with
 | false=>simp only [Option.bind_some,Bool.not_false,if_true,Bool.false_eq_true,if_false]
 | true=>
  obtain ⟨hg,m,q,rfl,rfl,m1,m8,q1,q3⟩:=field_parts h
  obtain ⟨h1,h2,_⟩:=game_spec (v:=v) hg ho q3 () ()
  obtain ⟨s1,s2⟩:=tm_small (es:=es) (v:=v) m8 q3
  have h3:G_l4Safe (tmG ((m:Int),es,v) q,())=some ((tmG ((m:Int),es,v) q).map negL,()):=by
   unfold G_l4Safe
   have a1:decide ((tmG ((m:Int),es,v) q).length<=1000)=true:=decide_eq_true (by omega)
   have a2:(tmG ((m:Int),es,v) q).all (fun r=>decide (r.length<=1000))=true:=List.all_eq_true.2 fun r hr=>decide_eq_true (by have:=s2 r hr;omega)
   simp only [a1,a2,Bool.and_self,if_true]
  simp only [Option.bind_some,Bool.not_true,Bool.false_eq_true,if_false,h1,h2,h3,if_true,Int.toNat_natCast]
theorem safe_small {g:Gr} {k:Int}:(safeB g k).1.length<=120 /\ ∀l∈(safeB g k).1,l.length<=8:=by
 unfold safeB
 split
 ·rename_i hb
  obtain ⟨n,es,v⟩:=g
  obtain ⟨hg,m,q,rfl,rfl,m1,m8,q1,q3⟩:=field_parts hb
  obtain ⟨s1,s2⟩:=tm_small (es:=es) (v:=v) m8 q3
  refine ⟨by simpa using s1,fun l hl => ?_⟩
  obtain ⟨r,hr,rfl⟩:=List.mem_map.1 hl
  have h1:=s2 r hr
  have h2:(negL r).length<=r.length:=setF_len
  omega
 ·exact ⟨by simp,fun l hl=>by simp at hl⟩
end Go.V.W
namespace Go.V.W
open Go.Proofs
def BestI (T:Tab) (b l:Int):Prop:=b<0 \/ ∃p:Nat,p<T.length/\b=(p:Int)/\l=worstR (at_ K_Si T p)
theorem bestRow_inv (T:Tab):∀(k c:Nat) (b l:Int),c+k=T.length->BestI T b l->BestI T (bestRow (T.drop c) (c:Int) b l).1 (bestRow (T.drop c) (c:Int) b l).2:=by
 intro k
 induction k with
 | zero=>
  intro c b l h h2
  rw [List.drop_of_length_le (by omega)]
  exact h2
 | succ k ih=>
  intro c b l h h2
  have hc:c<T.length:=by omega
  have ec:at_ K_Si T c=T[c]:=at_get (e:=K_Si) hc
  rw [List.drop_eq_getElem_cons hc]
  unfold bestRow
  have e1:((c:Int)+1)=((c+1:Nat):Int):=rfl
  rw [e1]
  split
  ·exact ih (c+1) (c:Int) (worstR T[c]) (by omega) (.inr ⟨c,hc,rfl,by rw [ec]⟩)
  ·exact ih (c+1) b l (by omega) h2
theorem worstR_max:∀{l:List Int} {m:Int},(∀x∈l,0<=x)->worstL (fun z=>z) l m=l.foldl (fun a b=>if a<b then b else a) m:=by
 intro l
 induction l with
 | nil=>intro m _;rfl
 | cons a l ih=>
  intro m h
  have ha:=h a (by simp)
  simp only [worstL,List.foldl_cons]
  rw [if_neg (by omega)]
  exact ih fun x hx=>h x (by simp [hx])
theorem max_eq {l:List Int} (h:∀x∈l,0<=x) (h1:0<l.length):l.foldl (fun a b=>if a<b then b else a) (l.headD 0)=worstR l:=by
 unfold worstR
 rw [worstR_max h]
 cases l with
 | nil=>simp at h1
 | cons a l=>
  have ha:=h a (by simp)
  simp only [List.foldl_cons,List.headD_cons,Int.lt_irrefl,if_false]
  congr 1
  by_cases h0:(0:Int)<a
  ·rw [if_pos h0]
  ·rw [if_neg h0]
   omega
theorem has_neg {l:List Int} (h:∀x∈l,-1<=x):(hasL l (-1)=true->worstR l<0)/\(hasL l (-1)=false->0<=worstR l /\ ∀x∈l,0<=x):=by
 unfold hasL worstR
 rcases worst_spec (fun z=>z) l 0 with ⟨⟨x,hx,h1⟩,h2⟩ | ⟨h1,h2,h3⟩
 ·refine ⟨fun _=>by omega,fun hh => ?_⟩
  have:=h x hx
  have e:x = -1:=by omega
  subst e
  have:(l.any fun z=>z == -1)=true:=List.any_eq_true.2 ⟨-1,hx,by simp⟩
  rw [hh] at this
  cases this
 ·refine ⟨fun hh => ?_,fun _=>⟨h2,fun x hx=>(h1 x hx).1⟩⟩
  obtain ⟨x,hx,h4⟩:=List.any_eq_true.1 hh
  have:=(h1 x hx).1
  have e:x = -1:=by simpa using h4
  have:0<=x:=this
  omega
theorem gb_l0 (N:Nat) (y:Cg) (T:Tab) (hT:T.length<=1000) (hr:∀r∈T,1<=r.length/\r.length<=1000 /\ ∀x∈r,-1<=x):∀(k c f:Nat) (b l:Int),c+k=T.length->k<f ->
  q19q_l0 N f (y,b,l,T,(T.length:Int),(c:Int),())=some (.inl (y,(bestRow (T.drop c) (c:Int) b l).1,(bestRow (T.drop c) (c:Int) b l).2,())):=by
 intro k
 induction k with
 | zero=>
  intro c f b l h1 h2
  obtain ⟨f,rfl⟩:∃m,f=m+1:=⟨f-1,by omega⟩
  have e:c=T.length:=by omega
  subst e
  rw [List.drop_of_length_le (Nat.le_refl _)]
  show q19q_l0_r _ _ _=_
  unfold q19q_l0_r
  simp only [lt_not,Bool.false_eq_true,if_false,bestRow]
 | succ k ih=>
  intro c f b l h1 h2
  obtain ⟨f,rfl⟩:∃m,f=m+1:=⟨f-1,by omega⟩
  have hc:c<T.length:=by omega
  have ec:at_ K_Si T c=T[c]:=at_get (e:=K_Si) hc
  obtain ⟨r1,r2,r3⟩:=hr _ (List.getElem_mem hc)
  obtain ⟨n1,n2⟩:=has_neg r3
  have e1:((c:Int)+1)=((c+1:Nat):Int):=rfl
  have hok:okL T[c]=true:=okL_of (by omega)
  rw [List.drop_eq_getElem_cons hc]
  show q19q_l0_r _ _ _=_
  unfold q19q_l0_r
  simp only [lt_dec hc,if_true,idxIn_nat hc,Int.toNat_natCast,ec,has2 hok,Option.bind_some,small_wrap (show c<=100000 by omega),bestRow]
  simp only [e1]
  cases hh:hasL T[c] (-1) with
  | true=>
   have hw:¬0<=worstR T[c]:=by have:=n1 hh;omega
   simp only [if_true,hw,if_false,false_and]
   exact ih (c+1) f b l (by omega) (by omega)
  | false=>
   obtain ⟨hw,hall⟩:=n2 hh
   have hmx:G_max (T[c],())=some (worstR T[c],()):=by
    unfold G_max
    have a1:decide (0<T[c].length)=true:=decide_eq_true (by omega)
    simp only [hok,a1,Bool.and_self,if_true]
    rw [max_eq hall (by omega)]
   simp only [Bool.false_eq_true,if_false,hmx,Option.bind_some,hw,true_and]
   by_cases hb:b<0
   ·simp only [hb,decide_true,if_true,true_or]
    exact ih (c+1) f (c:Int) (worstR T[c]) (by omega) (by omega)
   ·by_cases hlt:worstR T[c]<l
    ·simp only [hb,hlt,decide_true,decide_false,Bool.false_eq_true,if_true,if_false,or_true]
     exact ih (c+1) f (c:Int) (worstR T[c]) (by omega) (by omega)
    ·simp only [hb,hlt,decide_false,Bool.false_eq_true,if_false,or_self]
     exact ih (c+1) f b l (by omega) (by omega)
theorem gameBest_lim (d) (r) (h:G_copBest d=some r):∃N,F_q19q N d=some r:=by
 obtain ⟨⟨⟨l,v⟩,cf,mv,T,u⟩,_⟩:=d
 unfold G_copBest at h
 split at h
 ·rename_i hc
  rw [Bool.and_eq_true] at hc
  obtain ⟨hcg,hlow⟩:=hc
  have hlow:lowB T=true:=hlow
  obtain ⟨c1,c2,c3,c4⟩:=cgB_parts hcg
  obtain ⟨g1,g2,g3,g4⟩:=gmB_parts c3
  obtain ⟨p1,p2,p3,p4⟩:=netB_parts c1
  obtain ⟨t1,t2⟩:=rcB_parts c4
  have h:=Option.some.inj h
  subst h
  have hr:∀r∈T,1<=r.length/\r.length<=1000 /\ ∀x∈r,-1<=x:=fun r hr=>by
   unfold rcB at c4
   simp only [Bool.and_eq_true,decide_eq_true_eq,List.all_eq_true] at c4
   have h1:=c4.2 r hr
   refine ⟨by omega,by omega,fun x hx => ?_⟩
   unfold lowB at hlow
   exact of_decide_eq_true (List.all_eq_true.1 (List.all_eq_true.1 hlow r hr) x hx)
  have hl:=gb_l0 1010 ((l,v),cf,mv,T,u) T (by omega) hr T.length 0 1010 (-1) 0 (by omega) (by omega)
  have hI:=bestRow_inv T T.length 0 (-1) 0 (by omega) (.inl (by omega))
  simp only [Int.natCast_zero,List.drop_zero] at hl hI
  refine ⟨1010,?_⟩
  unfold F_q19q bestOut
  simp only [hl,Option.bind_some]
  rcases hI with hI | ⟨p,p1,p2,p3⟩
  ·simp only [hI,decide_true,if_true]
  ·have hp:p<cf.length:=by omega
   have hneg:¬((p:Int)<0):=by omega
   have hok:okL (at_ K_Si cf p)=true:=okL_of (by have:=(g3 p hp).1;omega)
   rw [at_getDS hp] at hok
   simp only [p2,hneg,decide_false,Bool.false_eq_true,if_false,idxIn_nat hp,if_true,Int.toNat_natCast,at_getDS hp,G_toIntS,hok,Option.bind_some]
 ·cases h
theorem low_tabM {m n:Nat} {f:Nat->Nat->Int} (h:∀c x,c<m->x<n -> -1<=f c x):lowB (tabM m n f)=true:=by
 unfold lowB tabM
 simp only [List.all_map,List.all_eq_true,Function.comp,List.mem_range,decide_eq_true_eq]
 intro c hc x hx
 exact h c x hc hx
theorem low_tab2 {m n:Nat} {T:Tab} (hT:rcB m n T=true) (h:lowB T=true) {c x:Nat} (hc:c<m) (hx:x<n) : -1<=tab2 T (c:Int) (x:Int):=by
 obtain ⟨t1,t2⟩:=rcB_parts hT
 have hlt:c<T.length:=by omega
 have ec:at_ K_Si T c=T[c]:=at_get (e:=K_Si) hlt
 have hl:=t2 c hc
 rw [ec] at hl
 have ex:at_ I T[c] x=T[c][x]:=at_get (e:=I) (by omega)
 rw [<- tab2_rc hT hc hx,ec,ex]
 unfold lowB at h
 exact of_decide_eq_true (List.all_eq_true.1 (List.all_eq_true.1 h _ (List.getElem_mem hlt)) _ (List.getElem_mem (by omega)))
theorem gameT_low {cf mv:List (List Int)} {ball:Int->List Int} {n:Nat}:∀(k:Nat) (t:Int) (T:Tab),0<=t->rcB cf.length n T=true->lowB T=true->lowB (gameT cf mv ball n k t T)=true:=by
 intro k
 induction k with
 | zero=>intro t T _ _ h;exact h
 | succ k ih=>
  intro t T ht h h2
  unfold gameT
  split
  ·refine ih _ _ (by omega) (rc_tabM _ _ _) (low_tabM fun c x hc hx => ?_)
   split
   ·omega
   ·exact low_tab2 h h2 hc hx
  ·exact h2
theorem tm_low (g:Gr) (k:Nat):lowB (tmG g k)=true:=gameT_low _ _ _ (by omega) (rc_tabM _ _ _) (low_tabM fun c x _ _=>by split<;>omega)
end Go.V.W
namespace Go.V.W
open Go.Proofs
structure TimI (cf mv:List (List Int)) (ball:Int->List Int) (n:Nat) (T:Tab):Prop where
 caught:∀c x:Nat,c<cf.length->x<n->hasL (cf.getD c []) (x:Int)=true->tab2 T (c:Int) (x:Int)=0
 some:∀c x:Nat,c<cf.length->x<n->0<=tab2 T (c:Int) (x:Int)->hasL (cf.getD c []) (x:Int)=true\/(1<=tab2 T (c:Int) (x:Int) /\ ∃d∈mv.getD c [],0<=afterG cf ball T d (x:Int))
theorem board_fits {m q:Nat} {es:List E} {v:Unit} (hm:m<=8) (hq:q<=3):gmB m (cfG ((m:Int),es,v) q) (mvG ((m:Int),es,v) q)=true:=by
 unfold mvG cfG
 simp only [Int.toNat_natCast]
 exact board_ok hm hq (fun x _=>by have:=ballF_len m es (x:Int);omega) (fun x _=>ballF_in es (x:Int))
end Go.V.W
namespace Go.V.W
open Go.Proofs
structure PlayI (m q:Nat) (es:List E) (v:Unit):Prop where
 hg:graphB ((m:Int),es,v)=true
 ho:okL es=true
 m1:1<=m
 m8:m<=8
 q3:q<=3
end Go.V.W
namespace Go.V.W
open Go.Proofs
structure RoundI (cf mv:List (List Int)) (ball:Int->List Int) (n:Nat) (t:Int) (T:Tab):Prop where
 pos:1<=t
 low:∀c x:Nat,c<cf.length->x<n -> -1<=tab2 T (c:Int) (x:Int)
 high:∀c x:Nat,c<cf.length->x<n->tab2 T (c:Int) (x:Int)<t
 none:∀c x:Nat,c<cf.length->x<n->tab2 T (c:Int) (x:Int)<0 -> ∀d∈mv.getD c [],0<=afterG cf ball T d (x:Int)->t-1<=afterG cf ball T d (x:Int)
 ex:∀c x:Nat,c<cf.length->x<n->1<=tab2 T (c:Int) (x:Int) -> ∃d∈mv.getD c [],0<=afterG cf ball T d (x:Int)/\afterG cf ball T d (x:Int)+1<=tab2 T (c:Int) (x:Int)
 least:∀c x:Nat,c<cf.length->x<n->1<=tab2 T (c:Int) (x:Int) -> ∀d∈mv.getD c [],0<=afterG cf ball T d (x:Int)->tab2 T (c:Int) (x:Int)<=afterG cf ball T d (x:Int)+1
 zero:∀c x:Nat,c<cf.length->x<n->(tab2 T (c:Int) (x:Int)=0↔hasL (cf.getD c []) (x:Int)=true)
theorem canG_neg {cf mv:List (List Int)} {ball:Int->List Int} {T:Tab} {c x:Nat} (h:canG cf mv ball T c x=true):tab2 T (c:Int) (x:Int)<0 /\ ∃d∈mv.getD c [],0<=afterG cf ball T d (x:Int):=by
 unfold canG at h
 rw [Bool.and_eq_true] at h
 obtain ⟨d,hd,h2⟩:=List.any_eq_true.1 h.2
 exact ⟨of_decide_eq_true h.1,d,hd,of_decide_eq_true h2⟩
structure TimesI (cf mv:List (List Int)) (ball:Int->List Int) (n:Nat) (T:Tab):Prop where
 low:∀c x:Nat,c<cf.length->x<n -> -1<=tab2 T (c:Int) (x:Int)
 none:∀c x:Nat,c<cf.length->x<n->tab2 T (c:Int) (x:Int)<0 -> ∀d∈mv.getD c [],afterG cf ball T d (x:Int)<0
 ex:∀c x:Nat,c<cf.length->x<n->1<=tab2 T (c:Int) (x:Int) -> ∃d∈mv.getD c [],0<=afterG cf ball T d (x:Int)/\afterG cf ball T d (x:Int)+1<=tab2 T (c:Int) (x:Int)
 least:∀c x:Nat,c<cf.length->x<n->1<=tab2 T (c:Int) (x:Int) -> ∀d∈mv.getD c [],0<=afterG cf ball T d (x:Int)->tab2 T (c:Int) (x:Int)<=afterG cf ball T d (x:Int)+1
 zero:∀c x:Nat,c<cf.length->x<n->(tab2 T (c:Int) (x:Int)=0↔hasL (cf.getD c []) (x:Int)=true)
theorem row_any {m n:Nat} {T:Tab} (hT:rcB m n T=true) {c:Nat} (hc:c<m):T.getD c []=(List.range n).map fun (x:Nat)=>tab2 T (c:Int) (x:Int):=by
 obtain ⟨t1,t2⟩:=rcB_parts hT
 rw [<- row_rc hT hc,at_getDS (by omega)]
theorem worst_iff {m n:Nat} {T:Tab} (hT:rcB m n T=true) {c:Nat} (hc:c<m):0<=worstR (T.getD c []) ↔ ∀x:Nat,x<n->0<=tab2 T (c:Int) (x:Int):=by
 rw [row_any hT hc]
 unfold worstR
 rcases worst_spec (fun z=>z) ((List.range n).map fun (x:Nat)=>tab2 T (c:Int) (x:Int)) 0 with ⟨⟨z,hz,h1⟩,h2⟩ | ⟨h1,h2,_⟩
 ·constructor
  ·intro h;omega
  ·intro h
   obtain ⟨x,hx,rfl⟩:=List.mem_map.1 hz
   have:=h x (List.mem_range.1 hx)
   omega
 ·refine ⟨fun _ x hx => ?_,fun _=>h2⟩
  exact (h1 _ (List.mem_map.2 ⟨x,List.mem_range.2 hx,rfl⟩)).1
theorem win_iff {m n:Nat} {T:Tab} (hT:rcB m n T=true):winB T=true ↔ ∃c,c<m /\ ∀x:Nat,x<n->0<=tab2 T (c:Int) (x:Int):=by
 obtain ⟨t1,t2⟩:=rcB_parts hT
 unfold winB
 rw [List.any_eq_true]
 constructor
 ·rintro ⟨r,hr,h⟩
  obtain ⟨c,hc,rfl⟩:=List.getElem_of_mem hr
  refine ⟨c,by omega,(worst_iff hT (by omega)).1 ?_⟩
  rw [List.getD_eq_getElem?_getD,List.getElem?_eq_getElem hc]
  exact of_decide_eq_true h
 ·rintro ⟨c,hc,h⟩
  have hlt:c<T.length:=by omega
  refine ⟨T[c],List.getElem_mem hlt,decide_eq_true ?_⟩
  have:=(worst_iff hT hc).2 h
  rw [List.getD_eq_getElem?_getD,List.getElem?_eq_getElem hlt] at this
  exact this
theorem neg_mem {m n:Nat} {T:Tab} (hT:rcB m n T=true) {c:Nat} (hc:c<m) {z:Int}:z∈negL (T.getD c []) ↔ ∃x:Nat,x<n/\z=(x:Int)/\tab2 T (c:Int) (x:Int)<0:=by
 obtain ⟨t1,t2⟩:=rcB_parts hT
 have hlt:c<T.length:=by omega
 have hlen:=t2 c hc
 rw [at_getDS hlt] at hlen
 have hget:∀x,x<n->(T.getD c []).getD x 0=tab2 T (c:Int) (x:Int):=fun x hx=>by
  unfold tab2
  simp only [Int.toNat_natCast]
 unfold negL
 rw [setF_mem]
 constructor
 ·rintro ⟨y,_,h2,h3,rfl⟩
  have hy:y<n:=by omega
  refine ⟨y,hy,rfl,?_⟩
  rw [<- hget y hy]
  exact of_decide_eq_true h3
 ·rintro ⟨x,hx,rfl,h⟩
  exact ⟨x,Nat.zero_le _,by omega,by rw [hget x hx];exact decide_eq_true h,rfl⟩
theorem evas_parts {n:Nat} {cf mv:List (List Int)} {ball:Int->List Int} {sets:List (List Int)} (h:evasB (n:Int) cf mv ball sets=true):sets.length=cf.length /\ ∀c,c<cf.length->nodeSetB (n:Int) (sets.getD c [])=true/\0<(sets.getD c []).length /\ ∀x∈sets.getD c [],hasL (cf.getD c []) x=false/\evadeB cf mv ball sets c x=true:=by
 unfold evasB at h
 simp only [Bool.and_eq_true,decide_eq_true_eq,List.all_eq_true,List.mem_range,Bool.not_eq_true'] at h
 refine ⟨h.1,fun c hc => ?_⟩
 obtain ⟨⟨h1,h2⟩,h3⟩:=h.2 c (by omega)
 exact ⟨h1,h2,h3⟩
theorem set_in {n:Nat} {s:List Int} (h:nodeSetB (n:Int) s=true):∀x∈s,∃y:Nat,x=(y:Int)/\y<n:=fun x hx=>by
 unfold nodeSetB at h
 rw [Bool.and_eq_true] at h
 exact nodeX (List.all_eq_true.1 h.1 x hx)
theorem evas_neg {n:Nat} (hn:n<=8) {cf mv:List (List Int)} {ball:Int->List Int} (hg:gmB n cf mv=true) (hb:okBall n ball) {sets:List (List Int)} (h:evasB (n:Int) cf mv ball sets=true) :
  ∀(k:Nat) (t:Int) (T:Tab),(∀c x:Nat,c<cf.length->x<n->(x:Int)∈sets.getD c []->tab2 T (c:Int) (x:Int)<0) -> ∀c x:Nat,c<cf.length->x<n->(x:Int)∈sets.getD c []->tab2 (gameT cf mv ball n k t T) (c:Int) (x:Int)<0:=by
 obtain ⟨g1,g2,g3,g4⟩:=gmB_parts hg
 obtain ⟨s1,s2⟩:=evas_parts h
 intro k
 induction k with
 | zero=>intro t T hT;exact hT
 | succ k ih=>
  intro t T hT
  unfold gameT
  split
  ·refine ih _ _ fun c x hc hx hm => ?_
   rw [stepG_at hc hx]
   split
   ·rename_i hcan
    exfalso
    obtain ⟨h1,d,hd,h2⟩:=canG_neg hcan
    obtain ⟨m1,m2,m3⟩:=g4 c hc
    have hdm:=hd
    rw [m2] at hdm
    obtain ⟨e,rfl,he⟩:=nodeX (m3 d hdm)
    have hev:=((s2 c hc).2.2 (x:Int) hm).2
    unfold evadeB at hev
    have hev2:=List.all_eq_true.1 hev (e:Int) hd
    simp only [Bool.and_eq_true,Bool.not_eq_true',Int.toNat_natCast] at hev2
    obtain ⟨y,hy,hys⟩:=List.any_eq_true.1 hev2.2
    obtain ⟨w,hw,rfl⟩:=hb x hx y hy
    have hmem:(w:Int)∈sets.getD e []:=by
     unfold hasL at hys
     obtain ⟨z,hz,e2⟩:=List.any_eq_true.1 hys
     have:z=(w:Int):=by simpa using e2
     rw [<- this]
     exact hz
    have hneg:=hT e w he hw hmem
    unfold afterG at h2
    rw [Int.toNat_natCast,hev2.1] at h2
    simp only [Bool.false_eq_true,if_false] at h2
    rcases worst_spec (tab2 T (e:Int)) (ball (x:Int)) 0 with ⟨_,h3⟩ | ⟨hall,_,_⟩
    ·omega
    ·have:=(hall (w:Int) hy).1
     omega
   ·exact hT c x hc hx hm
  ·exact hT
theorem evas_times {n:Nat} (hn:n<=8) {cf mv:List (List Int)} {ball:Int->List Int} (hg:gmB n cf mv=true) (hb:okBall n ball) {sets:List (List Int)} (h:evasB (n:Int) cf mv ball sets=true):∀c x:Nat,c<cf.length->x<n->(x:Int)∈sets.getD c []->tab2 (timesG cf mv ball n) (c:Int) (x:Int)<0:=by
 obtain ⟨s1,s2⟩:=evas_parts h
 refine evas_neg hn hg hb h 1000 1 (startG cf n) fun c x hc hx hm => ?_
 have e:tab2 (startG cf n) (c:Int) (x:Int)=if hasL (cf.getD c []) (x:Int)=true then 0 else -1:=tab2_tabM _ hc hx
 rw [e,((s2 c hc).2.2 (x:Int) hm).1]
 decide
theorem evas_lose {n:Nat} (hn:n<=8) {cf mv:List (List Int)} {ball:Int->List Int} (hg:gmB n cf mv=true) (hb:okBall n ball) {sets:List (List Int)} (h:evasB (n:Int) cf mv ball sets=true):winB (timesG cf mv ball n)=false:=by
 cases hw:winB (timesG cf mv ball n) with
 | false=>rfl
 | true=>
  obtain ⟨c,hc,h1⟩:=(win_iff (times_rc cf mv ball n)).1 hw
  obtain ⟨s1,s2⟩:=evas_parts h
  obtain ⟨h2,h3,h4⟩:=s2 c hc
  have hm:=List.getElem_mem h3
  obtain ⟨y,ey,hy⟩:=set_in h2 _ hm
  rw [ey] at hm
  have:=evas_times hn hg hb h c y hc hy hm
  have:=h1 y hy
  omega
theorem evas_part {n:Nat} (hn:n<=8) {cf mv:List (List Int)} {ball:Int->List Int} (hg:gmB n cf mv=true) (hb:okBall n ball) {sets:List (List Int)} (h:evasB (n:Int) cf mv ball sets=true) {c:Nat} (hc:c<cf.length):∀x∈sets.getD c [],x∈negL ((timesG cf mv ball n).getD c []):=fun x hx=>by
 obtain ⟨s1,s2⟩:=evas_parts h
 obtain ⟨y,rfl,hy⟩:=set_in (s2 c hc).1 x hx
 exact (neg_mem (times_rc cf mv ball n) hc).2 ⟨y,hy,rfl,evas_times hn hg hb h c y hc hy hx⟩
end Go.V.W
namespace Go.V.W
open Go.Proofs
theorem map_negL (T:Tab) (c:Nat):(T.map negL).getD c []=negL (T.getD c []):=by
 rw [List.getD_eq_getElem?_getD,List.getElem?_map,List.getD_eq_getElem?_getD]
 cases T[c]? with
 | none=>rfl
 | some r=>rfl
theorem has_mem {l:List Int} {x:Int}:hasL l x=true↔x∈l:=by
 unfold hasL
 rw [List.any_eq_true]
 constructor
 ·rintro ⟨z,hz,h⟩
  have:z=x:=by simpa using h
  rw [<- this]
  exact hz
 ·intro h
  exact ⟨x,h,by simp⟩
end Go.V.W
namespace Go.V.W
open Go.Proofs
theorem okL_mx {α:Type} {l:List α} (h:okL l=true):l.length<=maxLen:=lim_max (of_decide_eq_true h)
theorem rHas_lim (d) (r) (h:G_rHas d=some r):∃N,F_laws_rHas N d=some r:=by
 obtain ⟨l,x,_⟩:=d
 unfold G_rHas at h
 split at h
 ·rename_i hl
  have hl:okL l=true:=hl
  have hmx:=okL_mx hl
  have h:=Option.some.inj h
  subst h
  refine ⟨l.length+1,?_⟩
  unfold F_laws_rHas
  have:=loop_idx (L:=laws_rHas_l0 (l.length+1)) (r:=laws_rHas_l0_r (l.length+1)) (fun _ _=>rfl) (e:=I) l (mk:=fun i=>(l,x,(i:Int),())) (q:=fun z=>z==x) (o:=fun _=>.inl (true,())) (f:=.inr (.inl ()))
   (by
    intro back i hi
    unfold laws_rHas_l0_r
    simp only [lt_dec hi,if_true,idxIn_nat hi,Int.toNat_natCast,wrap_up hi hmx])
   (by intro back;unfold laws_rHas_l0_r;simp only [lt_not,Bool.false_eq_true,if_false]) l.length 0 (by omega) (by omega)
  simp only [Int.natCast_zero,List.drop_zero] at this
  have hge:=idxI_ge (fun z=>z==x) l 0
  simp only [this,Option.bind_some]
  unfold hasL
  cases hi:idxN (fun z=>z==x) l 0 with
  | none=>
   rw [hi] at hge
   have:(l.any fun z=>z==x)=false:=by rw [<- hge];rfl
   simp only [this]
  | some j=>
   rw [hi] at hge
   have:(l.any fun z=>z==x)=true:=by
    rw [<- hge]
    simp [idxI]
   simp only [this]
 ·cases h
end Go.V.W
namespace Go.V.W
open Go.Proofs
theorem smT_parts {T:Tab} (h:smT T=true):T.length<=1000/\(∀r∈T,r.length<=1000) /\ ∀r∈T,∀v∈r,v<=9223372036854775807:=by
 unfold smT at h
 simp only [Bool.and_eq_true,decide_eq_true_eq,List.all_eq_true] at h
 exact ⟨h.1,fun r hr=>(h.2 r hr).1,fun r hr=>(h.2 r hr).2⟩
end Go.V.W
namespace Go.V.W
open Go.Proofs
theorem cbB_parts {l:List Int} {v u:Unit} {cf mv:List (List Int)} {T:Tab} (h:cbB ((l,v),cf,mv,T,u)=true):netB l=true/\1<=l.length/\gmB l.length cf mv=true:=by
 unfold cbB at h
 simp only [Bool.and_eq_true,decide_eq_true_eq] at h
 exact ⟨h.1.1,h.1.2,h.2⟩
end Go.V.W
namespace Go.V.W
open Go.Proofs
theorem and_zero {a b:Nat} (ha:a<256):a&&&b=0 ↔ ∀y,y<8 -> ¬(a.testBit y=true/\b.testBit y=true):=by
 constructor
 ·rintro h y _ ⟨h1,h2⟩
  have:(a&&&b).testBit y=true:=by rw [Nat.testBit_and,h1,h2];rfl
  rw [h,Nat.zero_testBit] at this
  cases this
 ·intro h
  refine Nat.eq_of_testBit_eq fun y => ?_
  rw [Nat.zero_testBit,Nat.testBit_and]
  by_cases hy:y<8
  ·cases h1:a.testBit y with
   | false=>rfl
   | true=>
    cases h2:b.testBit y with
    | false=>rfl
    | true=>exact absurd ⟨h1,h2⟩ (h y hy)
  ·have:a.testBit y=false:=Nat.testBit_lt_two_pow (Nat.lt_of_lt_of_le ha (by
    have:2 ^ 8<=2 ^ y:=Nat.pow_le_pow_right (by omega) (by omega)
    omega))
   rw [this,Bool.false_and]
theorem nodes_mask {n:Nat} (hn:n<=8) {s:List Int} (hs:s.all (inB 0 ((n:Int)-1))=true) (ho:okL s=true) (u:Unit):G_maskOf (s,u)=some ((maskN s:Int),())/\maskN s<256 /\ ∀y,(maskN s).testBit y=(decide (y<n)&&hasL s (y:Int)):=by
 have h7:s.all (inB 0 7)=true:=List.all_eq_true.2 fun z hz=>by
  have:=inB_iff.1 (List.all_eq_true.1 hs z hz)
  exact inB_iff.2 (by omega)
 obtain ⟨m1,m2⟩:=maskN_isM hn (l:=s) fun y hy=>by
  have:=inB_iff.1 (List.all_eq_true.1 hs y hy)
  omega
 refine ⟨?_,m1,m2⟩
 unfold G_maskOf
 simp only [ho,h7,Bool.and_self,if_true]
def setOk (n:Nat) (cf sets:List (List Int)) (c:Nat):Bool:=nodeSetB (n:Int) (sets.getD c [])&&decide (0<(sets.getD c []).length)&&(sets.getD c []).all fun x => !hasL (cf.getD c []) x
theorem masks_free {n:Nat} (hn:n<=8) {s t:List Int} (hs:s.all (inB 0 ((n:Int)-1))=true) (ho:okL s=true) (ht:t.all (inB 0 ((n:Int)-1))=true) (ho2:okL t=true):(maskN s&&&maskN t=0)↔(s.all fun x => !hasL t x)=true:=by
 obtain ⟨_,a1,a2⟩:=nodes_mask hn hs ho ()
 obtain ⟨_,b1,b2⟩:=nodes_mask hn ht ho2 ()
 rw [and_zero a1,List.all_eq_true]
 constructor
 ·intro h x hx
  obtain ⟨y,rfl,hy⟩:=nodeX (List.all_eq_true.1 hs x hx)
  have:=h y (by omega)
  rw [a2,b2,decide_eq_true hy,Bool.true_and,Bool.true_and] at this
  cases hh:hasL t (y:Int) with
  | false=>rfl
  | true=>exact absurd ⟨has_mem.2 hx,hh⟩ this
 ·rintro h y _ ⟨h1,h2⟩
  rw [a2,Bool.and_eq_true] at h1
  rw [b2,Bool.and_eq_true] at h2
  have:=h (y:Int) (has_mem.1 h1.2)
  rw [h2.2] at this
  cases this
theorem ev_l0 (N:Nat) {l:List Int} {v u:Unit} {cf mv:List (List Int)} {T0:Tab} (h:cbB ((l,v),cf,mv,T0,u)=true) {es:List E} {w:Unit} (hgr:graphB ((l.length:Int),es,w)=true) (ho:okL es=true) (sets:List (List Int)) (hlen:sets.length=cf.length) (hr:∀r∈sets,r.length<=1000):∀k c f,c+k=cf.length->k<f -> ∃o,q8q_l0 N f (((l,v),cf,mv,T0,u),sets,((l.length:Int),es,w),rowU cf.length (fun _=>0) (fun j=>(maskN (sets.getD j []):Int)) c,sets,(cf.length:Int),(c:Int),())=some o /\
  ((o=.inl (false,())/\(List.range' c k).all (setOk l.length cf sets)=false)\/(o=.inr (.inl (((l,v),cf,mv,T0,u),sets,rowU cf.length (fun _=>0) (fun j=>(maskN (sets.getD j []):Int)) cf.length,()))/\(List.range' c k).all (setOk l.length cf sets)=true)):=by
 obtain ⟨h1,h2,h3⟩:=cbB_parts h
 obtain ⟨g1,g2,g3,g4⟩:=gmB_parts h3
 obtain ⟨p1,p2,p3,p4⟩:=netB_parts h1
 intro k
 induction k with
 | zero=>
  intro c f e1 e2
  obtain ⟨f,rfl⟩:∃m,f=m+1:=⟨f-1,by omega⟩
  have e:c=cf.length:=by omega
  subst e
  refine ⟨.inr (.inl (((l,v),cf,mv,T0,u),sets,rowU cf.length (fun _=>0) (fun j=>(maskN (sets.getD j []):Int)) cf.length,())),?_,.inr ⟨rfl,rfl⟩⟩
  show q8q_l0_r _ _ _=_
  unfold q8q_l0_r
  simp only [lt_not,Bool.false_eq_true,if_false]
 | succ k ih=>
  intro c f e1 e2
  obtain ⟨f,rfl⟩:∃m,f=m+1:=⟨f-1,by omega⟩
  have hc:c<cf.length:=by omega
  have hcs:c<sets.length:=by omega
  have ec:at_ K_Si sets c=sets.getD c []:=at_getDS hcs
  have hrc:(sets.getD c []).length<=1000:=by
   have e:sets.getD c []=sets[c]:=by
    rw [List.getD_eq_getElem?_getD,List.getElem?_eq_getElem hcs]
    rfl
   rw [e]
   exact hr _ (List.getElem_mem hcs)
  have hok:okL (sets.getD c [])=true:=okL_of (by omega)
  obtain ⟨y1,y2,y3⟩:=g3 c hc
  have hcok:okL (at_ K_Si cf c)=true:=okL_of (by omega)
  have hcall:(at_ K_Si cf c).all (inB 0 ((l.length:Int)-1))=true:=List.all_eq_true.2 y3
  have hset:F_impl_isSet 0 (((l.length:Int),es,w),sets.getD c [],())=some (nodeSetB (l.length:Int) (sets.getD c []),()):=by
   unfold F_impl_isSet nodeSetB
   simp only [has_nodes (l.length:Int) es w () (sets.getD c []) ho hok,hgr,Bool.true_and,Option.bind_some,G_increasing,hok,if_true]
   cases (sets.getD c []).all (inB 0 ((l.length:Int)-1)) with
   | false=>simp only [Bool.false_eq_true,if_false,Bool.false_and]
   | true=>simp only [if_true,Bool.true_and]
  rw [List.range'_succ,List.all_cons]
  have stop:setOk l.length cf sets c=false->q8q_l0_r N (q8q_l0 N f) (((l,v),cf,mv,T0,u),sets,((l.length:Int),es,w),rowU cf.length (fun _=>0) (fun j=>(maskN (sets.getD j []):Int)) c,sets,(cf.length:Int),(c:Int),())=some (.inl (false,())) -> ∃o,q8q_l0 N (f+1) (((l,v),cf,mv,T0,u),sets,((l.length:Int),es,w),rowU cf.length (fun _=>0) (fun j=>(maskN (sets.getD j []):Int)) c,sets,(cf.length:Int),(c:Int),())=some o /\
    ((o=.inl (false,())/\(setOk l.length cf sets c&&(List.range' (c+1) k).all (setOk l.length cf sets))=false)\/(o=.inr (.inl (((l,v),cf,mv,T0,u),sets,rowU cf.length (fun _=>0) (fun j=>(maskN (sets.getD j []):Int)) cf.length,()))/\(setOk l.length cf sets c&&(List.range' (c+1) k).all (setOk l.length cf sets))=true)):=fun hf he=>⟨_,he,.inl ⟨rfl,by rw [hf,Bool.false_and]⟩⟩
  by_cases hpos:0<(sets.getD c []).length
  ·have hb:(((sets.getD c []).length:Int)==0)=false:=beq_eq_false_iff_ne.2 (by omega)
   cases hns:nodeSetB (l.length:Int) (sets.getD c []) with
   | false=>
    refine stop (by unfold setOk;rw [hns,Bool.false_and,Bool.false_and]) ?_
    unfold q8q_l0_r
    simp only [lt_dec hc,if_true,idxIn_nat hcs,Int.toNat_natCast,ec,hb,Bool.false_eq_true,if_false,hset,hns,Option.bind_some,Bool.not_false]
   | true=>
    have hall:(sets.getD c []).all (inB 0 ((l.length:Int)-1))=true:=by
     unfold nodeSetB at hns
     rw [Bool.and_eq_true] at hns
     exact hns.1
    obtain ⟨q1,q2,q3⟩:=nodes_mask p3 hall hok ()
    obtain ⟨r1,r2,r3⟩:=nodes_mask p3 hcall hcok ()
    have hfree:=masks_free p3 hall hok hcall hcok
    by_cases hz:maskN (sets.getD c [])&&&maskN (at_ K_Si cf c)=0
    ·have hso:setOk l.length cf sets c=true:=by
      unfold setOk
      rw [hns,decide_eq_true hpos,y2,hfree.1 hz]
      rfl
     have hbz:(bits .and .i64 ((maskN (sets.getD c []):Nat):Int) ((maskN (at_ K_Si cf c):Nat):Int) != 0)=false:=by
      rw [bits_and q2 r2,hz]
      rfl
     have i1:∀g h:Nat->Int,idxIn (c:Int) (rowU cf.length g h c).length=true:=fun g h=>by rw [rowU_len];exact idxIn_nat hc
     have hsetU:=rowU_set (n:=cf.length) (f:=fun _=>(0:Int)) (g:=fun j=>(maskN (sets.getD j []):Int)) (v:=(maskN (sets.getD c []):Int)) hc rfl
     obtain ⟨o,o1,o2⟩:=ih (c+1) f (by omega) (by omega)
     rw [hso,Bool.true_and]
     refine ⟨o,?_,o2⟩
     rw [<- o1]
     show q8q_l0_r _ _ _=_
     unfold q8q_l0_r
     simp only [lt_dec hc,if_true,idxIn_nat hcs,Int.toNat_natCast,ec,hb,Bool.false_eq_true,if_false,hset,hns,Option.bind_some,Bool.not_true,q1,idxIn_nat hc,r1,hbz,i1,hsetU,small_wrap (show c<=100000 by omega)]
    ·have hso:setOk l.length cf sets c=false:=by
      unfold setOk
      rw [y2]
      cases ha:(sets.getD c []).all fun x => !hasL (at_ K_Si cf c) x with
      | false=>rw [Bool.and_false]
      | true=>exact absurd (hfree.2 ha) hz
     refine stop hso ?_
     have hbz:(bits .and .i64 ((maskN (sets.getD c []):Nat):Int) ((maskN (at_ K_Si cf c):Nat):Int) != 0)=true:=by
      rw [bits_and q2 r2]
      simp only [bne_iff_ne,ne_eq]
      omega
     unfold q8q_l0_r
     simp only [lt_dec hc,if_true,idxIn_nat hcs,Int.toNat_natCast,ec,hb,Bool.false_eq_true,if_false,hset,hns,Option.bind_some,Bool.not_true,q1,idxIn_nat hc,r1,hbz]
  ·refine stop (by unfold setOk;rw [decide_eq_false hpos,Bool.and_false,Bool.false_and]) ?_
   have hb:(((sets.getD c []).length:Int)==0)=true:=beq_iff_eq.2 (by omega)
   unfold q8q_l0_r
   simp only [lt_dec hc,if_true,idxIn_nat hcs,Int.toNat_natCast,ec,hb]
end Go.V.W
namespace Go.V.W
open Go.Proofs
def evE (cf:List (List Int)) (ball:Int->List Int) (sets:List (List Int)) (x d:Int):Bool := !hasL (cf.getD d.toNat []) x&&(ball x).any fun y=>hasL (sets.getD d.toNat []) y
theorem meet_zero {l:List Int} (hl:netB l=true) {x:Nat} (hx:x<l.length) {s:List Int} (hs:s.all (inB 0 ((l.length:Int)-1))=true) (ho:okL s=true):((fromI l).getD x 0|||2 ^ x)<256/\(((fromI l).getD x 0|||2 ^ x)&&&maskN s=0↔((ballM l (x:Int)).any fun y=>hasL s y)=false):=by
 obtain ⟨p1,p2,p3,p4⟩:=netB_parts hl
 obtain ⟨c1,_⟩:=maskM hl (x:=x) (by omega)
 obtain ⟨_,b1,b2⟩:=nodes_mask p3 hs ho ()
 refine ⟨c1,?_⟩
 rw [and_zero c1]
 constructor
 ·intro h
  cases ha:(ballM l (x:Int)).any fun y=>hasL s y with
  | false=>rfl
  | true=>
   obtain ⟨z,hz,h2⟩:=List.any_eq_true.1 ha
   obtain ⟨y,hy,rfl⟩:=ballM_ok hl x hx z hz
   unfold ballM at hz
   obtain ⟨w,_,w2,w3,w4⟩:=setF_mem.1 hz
   have ew:w=y:=by omega
   subst ew
   rw [Int.toNat_natCast] at w3
   refine absurd ⟨w3,?_⟩ (h w (by omega))
   rw [b2,h2,decide_eq_true hy]
   rfl
 ·rintro h y hy ⟨h1,h2⟩
  rw [b2,Bool.and_eq_true] at h2
  have hm:(y:Int)∈ballM l (x:Int):=by
   unfold ballM
   exact setF_mem.2 ⟨y,Nat.zero_le _,by omega,by rw [Int.toNat_natCast];exact h1,rfl⟩
  have:((ballM l (x:Int)).any fun y=>hasL s y)=true:=List.any_eq_true.2 ⟨_,hm,h2.2⟩
  rw [h] at this
  cases this
def SetsI (n:Nat) (cf sets:List (List Int)):Prop:=sets.length=cf.length /\ ∀c,c<cf.length->(sets.getD c []).length<=1000/\(sets.getD c []).all (inB 0 ((n:Int)-1))=true
theorem ev_l6 (N:Nat) {l:List Int} {v u:Unit} {cf mv:List (List Int)} {T0:Tab} (h:cbB ((l,v),cf,mv,T0,u)=true) (sets:List (List Int)) (hS:SetsI l.length cf sets) (c:Int) (x:Nat) (hx:x<l.length) (a b e g k2:Int) (s1 S:List (List Int)) (set:List Int) (L:List Int) (hL:L.length<=1000) (hLm:∀d∈L,inB 0 ((cf.length:Int)-1) d=true) :
  ∀k i f,i+k=L.length->k<f -> ∃o,q8q_l6 N f (((l,v),cf,mv,T0,u),(List.range cf.length).map (fun j=>(maskN (sets.getD j []):Int)),c,(x:Int),S,a,b,set,e,g,L,(L.length:Int),(i:Int),())=some o /\
   ((o=.inl (false,())/\(L.drop i).all (evE cf (ballM l) sets (x:Int))=false)\/(o=.inr (.inl (((l,v),cf,mv,T0,u),(List.range cf.length).map (fun j=>(maskN (sets.getD j []):Int)),c,S,a,b,set,e,g,()))/\(L.drop i).all (evE cf (ballM l) sets (x:Int))=true)):=by
 obtain ⟨h1,h2,h3⟩:=cbB_parts h
 obtain ⟨g1,g2,g3,g4⟩:=gmB_parts h3
 intro k
 induction k with
 | zero=>
  intro i f e1 e2
  obtain ⟨f,rfl⟩:∃m,f=m+1:=⟨f-1,by omega⟩
  have ei:i=L.length:=by omega
  refine ⟨_,?_,.inr ⟨rfl,by rw [List.drop_of_length_le (by omega)];rfl⟩⟩
  subst ei
  show q8q_l6_r _ _ _=_
  unfold q8q_l6_r
  simp only [lt_not,Bool.false_eq_true,if_false]
 | succ k ih=>
  intro i f e1 e2
  obtain ⟨f,rfl⟩:∃m,f=m+1:=⟨f-1,by omega⟩
  have hi:i<L.length:=by omega
  obtain ⟨d,ed,hd⟩:=nodeX (hLm _ (List.getElem_mem hi))
  have ei:at_ I L i=(d:Int):=(at_get (e:=I) hi).trans ed
  obtain ⟨y1,y2,y3⟩:=g3 d hd
  obtain ⟨q1,q2⟩:=hS.2 d hd
  obtain ⟨c1,c2⟩:=meet_zero h1 hx q2 (okL_of (by omega))
  obtain ⟨_,b1,_⟩:=nodes_mask (netB_parts h1).2.2.1 q2 (okL_of (by omega)) ()
  have hlenM:idxIn (d:Int) ((List.range cf.length).map (fun j=>(maskN (sets.getD j []):Int))).length=true:=idxIn_nat (by simpa using hd)
  have hM:at_ I ((List.range cf.length).map (fun j=>(maskN (sets.getD j []):Int))) d=(maskN (sets.getD d []):Int):=(at_some (rowR_get (fun j=>(maskN (sets.getD j []):Int)) hd)).1
  have hcl:=closedM h1 v hx
  obtain ⟨o,o1,o2⟩:=ih (i+1) f (by omega) (by omega)
  rw [List.drop_eq_getElem_cons hi,List.all_cons,ed]
  by_cases hh:hasL (at_ K_Si cf d) (x:Int)=true
  ·have he:evE cf (ballM l) sets (x:Int) (d:Int)=false:=by
    unfold evE
    rw [Int.toNat_natCast,y2,hh]
    rfl
   refine ⟨.inl (false,()),?_,.inl ⟨rfl,by rw [he,Bool.false_and]⟩⟩
   show q8q_l6_r _ _ _=_
   unfold q8q_l6_r
   simp only [lt_dec hi,if_true,idxIn_nat hi,Int.toNat_natCast,ei,idxIn_nat hd,has2 (okL_of (show (at_ K_Si cf d).length<=1048576 by omega)),Option.bind_some,hh]
  ·have hh':hasL (at_ K_Si cf d) (x:Int)=false:=(Bool.not_eq_true _).mp hh
   have he:evE cf (ballM l) sets (x:Int) (d:Int)=(ballM l (x:Int)).any fun y=>hasL (sets.getD d []) y:=by
    unfold evE
    rw [Int.toNat_natCast,y2,hh',Bool.not_false,Bool.true_and]
   rw [he]
   cases ha:(ballM l (x:Int)).any fun y=>hasL (sets.getD d []) y with
   | false=>
    have hz:=c2.2 ha
    refine ⟨.inl (false,()),?_,.inl ⟨rfl,by rw [Bool.false_and]⟩⟩
    show q8q_l6_r _ _ _=_
    unfold q8q_l6_r
    simp only [lt_dec hi,if_true,idxIn_nat hi,Int.toNat_natCast,ei,idxIn_nat hd,has2 (okL_of (show (at_ K_Si cf d).length<=1048576 by omega)),Option.bind_some,hh',Bool.false_eq_true,if_false,hcl,hlenM,hM,bits_and c1 b1,hz,Int.natCast_zero,beq_self_eq_true]
   | true=>
    have hz:¬((fromI l).getD x 0|||2 ^ x)&&&maskN (sets.getD d [])=0:=fun hz=>by
     have:=c2.1 hz
     rw [ha] at this
     cases this
    have hz2:(((((fromI l).getD x 0|||2 ^ x)&&&maskN (sets.getD d []):Nat):Int)==0)=false:=beq_eq_false_iff_ne.2 (by omega)
    rw [Bool.true_and]
    refine ⟨o,?_,o2⟩
    rw [<- o1]
    show q8q_l6_r _ _ _=_
    unfold q8q_l6_r
    simp only [lt_dec hi,if_true,idxIn_nat hi,Int.toNat_natCast,ei,idxIn_nat hd,has2 (okL_of (show (at_ K_Si cf d).length<=1048576 by omega)),Option.bind_some,hh',Bool.false_eq_true,if_false,hcl,hlenM,hM,bits_and c1 b1,hz2,small_wrap (show i<=100000 by omega)]
theorem ev_l4 (N:Nat) (hN:1010<=N) {l:List Int} {v u:Unit} {cf mv:List (List Int)} {T0:Tab} (h:cbB ((l,v),cf,mv,T0,u)=true) (sets:List (List Int)) (hS:SetsI l.length cf sets) (c:Nat) (hc:c<cf.length) (a b:Int) (S:List (List Int)) (set:List Int) (hset:set.length<=1000) (hall:set.all (inB 0 ((l.length:Int)-1))=true) :
  ∀k j f,j+k=set.length->k<f -> ∃o,q8q_l4 N f (((l,v),cf,mv,T0,u),(List.range cf.length).map (fun j=>(maskN (sets.getD j []):Int)),(c:Int),S,a,b,set,(set.length:Int),(j:Int),())=some o /\
   ((o=.inl (false,())/\(set.drop j).all (evadeB cf mv (ballM l) sets c)=false)\/(o=.inr (.inl (((l,v),cf,mv,T0,u),(List.range cf.length).map (fun j=>(maskN (sets.getD j []):Int)),S,a,b,()))/\(set.drop j).all (evadeB cf mv (ballM l) sets c)=true)):=by
 obtain ⟨h1,h2,h3⟩:=cbB_parts h
 obtain ⟨g1,g2,g3,g4⟩:=gmB_parts h3
 obtain ⟨m1,m2,m3⟩:=g4 c hc
 have i1:idxIn (c:Int) mv.length=true:=idxIn_nat (by omega)
 intro k
 induction k with
 | zero=>
  intro j f e1 e2
  obtain ⟨f,rfl⟩:∃m,f=m+1:=⟨f-1,by omega⟩
  have ei:j=set.length:=by omega
  refine ⟨_,?_,.inr ⟨rfl,by rw [List.drop_of_length_le (by omega)];rfl⟩⟩
  subst ei
  show q8q_l4_r _ _ _=_
  unfold q8q_l4_r
  simp only [lt_not,Bool.false_eq_true,if_false]
 | succ k ih=>
  intro j f e1 e2
  obtain ⟨f,rfl⟩:∃m,f=m+1:=⟨f-1,by omega⟩
  have hj:j<set.length:=by omega
  obtain ⟨x,ex,hx⟩:=nodeX (List.all_eq_true.1 hall _ (List.getElem_mem hj))
  have ej:at_ I set j=(x:Int):=(at_get (e:=I) hj).trans ex
  obtain ⟨q,q1,q2⟩:=ev_l6 N h sets hS (c:Int) x hx a b (set.length:Int) (j:Int) 0 S S set (at_ K_Si mv c) m1 m3 (at_ K_Si mv c).length 0 N (by omega) (by omega)
  simp only [Int.natCast_zero,List.drop_zero] at q1 q2
  have he:evadeB cf mv (ballM l) sets c (x:Int)=(at_ K_Si mv c).all (evE cf (ballM l) sets (x:Int)):=by
   unfold evadeB
   rw [m2]
   rfl
  rw [List.drop_eq_getElem_cons hj,List.all_cons,ex,he]
  rcases q2 with ⟨rfl,h4⟩ | ⟨rfl,h4⟩
  ·refine ⟨.inl (false,()),?_,.inl ⟨rfl,by rw [h4,Bool.false_and]⟩⟩
   show q8q_l4_r _ _ _=_
   unfold q8q_l4_r
   simp only [lt_dec hj,if_true,idxIn_nat hj,Int.toNat_natCast,i1,ej,q1,Option.bind_some]
  ·obtain ⟨o,o1,o2⟩:=ih (j+1) f (by omega) (by omega)
   rw [h4,Bool.true_and]
   refine ⟨o,?_,o2⟩
   rw [<- o1]
   show q8q_l4_r _ _ _=_
   unfold q8q_l4_r
   simp only [lt_dec hj,if_true,idxIn_nat hj,Int.toNat_natCast,i1,ej,q1,Option.bind_some,small_wrap (show j<=100000 by omega)]
theorem ev_l2 (N:Nat) (hN:1010<=N) {l:List Int} {v u:Unit} {cf mv:List (List Int)} {T0:Tab} (h:cbB ((l,v),cf,mv,T0,u)=true) (sets:List (List Int)) (hS:SetsI l.length cf sets):∀k c f,c+k=cf.length->k<f -> ∃o,q8q_l2 N f (((l,v),cf,mv,T0,u),(List.range cf.length).map (fun j=>(maskN (sets.getD j []):Int)),sets,(cf.length:Int),(c:Int),())=some o /\
   ((o=.inl (false,())/\(List.range' c k).all (fun c=>(sets.getD c []).all (evadeB cf mv (ballM l) sets c))=false)\/(o=.inr (.inl ())/\(List.range' c k).all (fun c=>(sets.getD c []).all (evadeB cf mv (ballM l) sets c))=true)):=by
 obtain ⟨h1,h2,h3⟩:=cbB_parts h
 obtain ⟨g1,g2,g3,g4⟩:=gmB_parts h3
 intro k
 induction k with
 | zero=>
  intro c f e1 e2
  obtain ⟨f,rfl⟩:∃m,f=m+1:=⟨f-1,by omega⟩
  have ei:c=cf.length:=by omega
  subst ei
  refine ⟨.inr (.inl ()),?_,.inr ⟨rfl,rfl⟩⟩
  show q8q_l2_r _ _ _=_
  unfold q8q_l2_r
  simp only [lt_not,Bool.false_eq_true,if_false]
 | succ k ih=>
  intro c f e1 e2
  obtain ⟨f,rfl⟩:∃m,f=m+1:=⟨f-1,by omega⟩
  have hc:c<cf.length:=by omega
  have hcs:c<sets.length:=by have:=hS.1;omega
  have ec:at_ K_Si sets c=sets.getD c []:=at_getDS hcs
  obtain ⟨r1,r2⟩:=hS.2 c hc
  obtain ⟨q,q1,q2⟩:=ev_l4 N hN h sets hS c hc (cf.length:Int) (c:Int) sets (sets.getD c []) r1 r2 (sets.getD c []).length 0 N (by omega) (by omega)
  simp only [Int.natCast_zero,List.drop_zero] at q1 q2
  rw [List.range'_succ,List.all_cons]
  rcases q2 with ⟨rfl,h4⟩ | ⟨rfl,h4⟩
  ·refine ⟨.inl (false,()),?_,.inl ⟨rfl,by rw [h4,Bool.false_and]⟩⟩
   show q8q_l2_r _ _ _=_
   unfold q8q_l2_r
   simp only [lt_dec hc,if_true,idxIn_nat hcs,Int.toNat_natCast,ec,q1,Option.bind_some]
  ·obtain ⟨o,o1,o2⟩:=ih (c+1) f (by omega) (by omega)
   rw [h4,Bool.true_and]
   refine ⟨o,?_,o2⟩
   rw [<- o1]
   show q8q_l2_r _ _ _=_
   unfold q8q_l2_r
   simp only [lt_dec hc,if_true,idxIn_nat hcs,Int.toNat_natCast,ec,q1,Option.bind_some,small_wrap (show c<=100000 by omega)]
theorem evas_split {n:Nat} {cf mv:List (List Int)} {ball:Int->List Int} {sets:List (List Int)} (hl:sets.length=cf.length):evasB (n:Int) cf mv ball sets=((List.range cf.length).all (setOk n cf sets)&&(List.range cf.length).all (fun c=>(sets.getD c []).all (evadeB cf mv ball sets c))):=by
 unfold evasB
 rw [hl]
 apply bool_eq_iff
 simp only [decide_true,Bool.true_and,Bool.and_eq_true,List.all_eq_true,List.mem_range,setOk,decide_eq_true_eq]
 constructor
 ·intro h
  exact ⟨fun c hc=>⟨(h c hc).1,fun x hx=>((h c hc).2 x hx).1⟩,fun c hc x hx=>((h c hc).2 x hx).2⟩
 ·rintro ⟨h1,h2⟩ c hc
  exact ⟨(h1 c hc).1,fun x hx=>⟨(h1 c hc).2 x hx,h2 c hc x hx⟩⟩
theorem gameEvas_lim (d) (r) (h:G_isEvas d=some r):∃N,F_q8q N d=some r:=by
 obtain ⟨⟨⟨l,v⟩,cf,mv,T0,u⟩,⟨n,es,w⟩,sets,_⟩:=d
 unfold G_isEvas at h
 split at h
 ·rename_i hc
  simp only [Bool.and_eq_true,decide_eq_true_eq] at hc
  obtain ⟨⟨⟨⟨hg,hgr⟩,ho⟩,hn⟩,hs⟩:=hc
  have hn:n=(l.length:Int):=hn
  subst hn
  have hs:smT sets=true:=hs
  obtain ⟨h1,h2,h3⟩:=cbB_parts hg
  obtain ⟨g1,_⟩:=gmB_parts h3
  obtain ⟨s1,s2,s3⟩:=smT_parts hs
  have h:=Option.some.inj h
  subst h
  refine ⟨1010,?_⟩
  unfold F_q8q
  show _=some (evasB (l.length:Int) cf mv (ballM l) sets,())
  by_cases hlen:sets.length=cf.length
  ·have hb:((sets.length:Int) != (cf.length:Int))=false:=by simp;omega
   have hl:(decide (0<=(sets.length:Int))&&decide ((sets.length:Int)<=(sets.length:Int))&&decide ((sets.length:Int)<=(lim:Int)))=true:=by
    have a1:(sets.length:Int)<=(lim:Int):=by unfold lim;omega
    simp only [a1,nonneg_dec,decide_true,Bool.and_self,Int.le_refl]
   obtain ⟨o,o1,o2⟩:=ev_l0 1010 hg hgr ho sets hlen s2 cf.length 0 1010 (by omega) (by omega)
   rw [rowU_zero] at o1
   have er:List.replicate sets.length (0:Int)=(List.range cf.length).map (fun _=>(0:Int)):=by
    rw [hlen]
    apply List.ext_getElem
    ·simp
    ·intro i i1 i2;simp
   rw [evas_split hlen]
   simp only [Int.natCast_zero,<- List.range_eq_range',rowU_full] at o1 o2
   have eT:(sets.length:Int)=(cf.length:Int):=by omega
   simp only [hb,Bool.false_eq_true,if_false,hl,if_true,Int.toNat_natCast,er]
   rw [eT,o1]
   rcases o2 with ⟨rfl,h4⟩ | ⟨rfl,h4⟩
   ·simp only [Option.bind_some,h4,Bool.false_and]
   ·have hS:SetsI l.length cf sets:=⟨hlen,fun c hc=>by
     have hcs:c<sets.length:=by omega
     have e:sets.getD c []=sets[c]:=by
      rw [List.getD_eq_getElem?_getD,List.getElem?_eq_getElem hcs]
      rfl
     have h6:=List.all_eq_true.1 h4 c (List.mem_range.2 hc)
     unfold setOk nodeSetB at h6
     simp only [Bool.and_eq_true] at h6
     refine ⟨?_,h6.1.1.1⟩
     rw [e]
     exact s2 _ (List.getElem_mem hcs)⟩
    obtain ⟨q,q1,q2⟩:=ev_l2 1010 (by omega) hg sets hS cf.length 0 1010 (by omega) (by omega)
    simp only [Int.natCast_zero,<- List.range_eq_range'] at q1 q2
    simp only [Option.bind_some,h4,Bool.true_and,eT,q1]
    rcases q2 with ⟨rfl,h5⟩ | ⟨rfl,h5⟩
    ·simp only [h5]
    ·simp only [h5]
  ·have hb:((sets.length:Int) != (cf.length:Int))=true:=by simp;omega
   have:evasB (l.length:Int) cf mv (ballM l) sets=false:=by
    unfold evasB
    rw [decide_eq_false hlen,Bool.false_and]
   simp only [hb,if_true,this]
 ·cases h
end Go.V.W
namespace Go.V.W
open Go.Proofs
theorem board_impl {m q:Nat} {es:List E} {v:Unit} (hg:graphB ((m:Int),es,v)=true) (ho:okL es=true) (h1:1<=m) (hq:q<=3) (u:Unit) :
  G_copBoard ((toI (netN m es),()),(q:Int),u)=some (((toI (netN m es),()),cfG ((m:Int),es,v) q,mvG ((m:Int),es,v) q,[],()),())/\cbB ((toI (netN m es),()),cfG ((m:Int),es,v) q,mvG ((m:Int),es,v) q,[],())=true:=by
 obtain ⟨h0,h8⟩:=graphB_n hg
 have hm:m<=8:=by omega
 obtain ⟨g1,_⟩:=graphB_edges hg
 obtain ⟨n1,n2⟩:=netB_net hm g1
 have hk:inB 0 3 (q:Int)=true:=inB_iff.2 (by omega)
 have e1:movesI (ballM (toI (netN m es))) (confL m q)=movesI (ballF m es) (confL m q):=by
  unfold movesI
  refine List.map_congr_left fun c hc => ?_
  rw [moves_congr fun x hx => ?_]
  have:=copsB_in (confL_mem.1 hc).2 x hx
  obtain ⟨y,rfl,hy⟩:=nodeX this
  exact ball_same hm g1 hy
 constructor
 ·unfold G_copBoard
  simp only [n1,n2,hk,Bool.and_self,if_true,Int.toNat_natCast,e1]
  rfl
 ·unfold cbB
  have h1':decide (1<=m)=true:=decide_eq_true h1
  have h3:=board_fits (v:=v) (es:=es) hm hq
  simp only [n1,n2,h1',h3,Bool.and_self]
theorem evade_congr {cf mv:List (List Int)} {b1 b2:Int->List Int} {sets:List (List Int)} {c:Nat} {x:Int} (h:b1 x=b2 x):evadeB cf mv b1 sets c x=evadeB cf mv b2 sets c x:=by
 unfold evadeB
 rw [h]
theorem evas_congr {n:Nat} {cf mv:List (List Int)} {b1 b2:Int->List Int} (h:∀x:Nat,x<n->b1 (x:Int)=b2 (x:Int)) (sets:List (List Int)):evasB (n:Int) cf mv b1 sets=evasB (n:Int) cf mv b2 sets:=by
 by_cases hl:sets.length=cf.length
 ·apply bool_eq_iff
  have key:∀b1 b2:Int->List Int,(∀x:Nat,x<n->b1 (x:Int)=b2 (x:Int))->evasB (n:Int) cf mv b1 sets=true->evasB (n:Int) cf mv b2 sets=true:=fun b1 b2 h hh=>by
   rw [evas_split hl,Bool.and_eq_true] at hh |-
   refine ⟨hh.1,List.all_eq_true.2 fun c hc=>List.all_eq_true.2 fun x hx => ?_⟩
   have h1:=List.all_eq_true.1 hh.1 c hc
   unfold setOk at h1
   simp only [Bool.and_eq_true] at h1
   obtain ⟨y,rfl,hy⟩:=set_in h1.1.1 x hx
   rw [<- evade_congr (h y hy)]
   exact List.all_eq_true.1 (List.all_eq_true.1 hh.2 c hc) _ hx
  exact ⟨key b1 b2 h,key b2 b1 fun x hx=>(h x hx).symm⟩
 ·unfold evasB
  rw [decide_eq_false hl,Bool.false_and,Bool.false_and]
theorem implIE {n:Int} {es:List E} {v:Unit} (ho:okL es=true) (k:Int) {sets:List (List Int)} (hs:smT sets=true) (u:Unit):F_q41q 0 ((n,es,v),k,sets,u)=some (evO (n,es,v) k sets):=by
 unfold F_q41q evO
 simp only [implField (g:=(n,es,v)) ho]
 cases h:fieldB (n,es,v) k with
 | false=>simp only [Option.bind_some,Bool.not_false,if_true,Bool.false_eq_true,if_false]
 | true=>
  obtain ⟨hg,m,q,rfl,rfl,m1,m8,q1,q3⟩:=field_parts h
  obtain ⟨h1,h2⟩:=board_impl (v:=v) hg ho m1 q3 ()
  obtain ⟨g1,_⟩:=graphB_edges hg
  obtain ⟨n1,n2⟩:=netB_net m8 g1
  have h3:G_isEvas (((toI (netN m es),()),cfG ((m:Int),es,v) q,mvG ((m:Int),es,v) q,[],()),((m:Int),es,v),sets,())=some (evasB (m:Int) (cfG ((m:Int),es,v) q) (mvG ((m:Int),es,v) q) (ballF m es) sets,()):=by
   unfold G_isEvas
   simp only [h2,hs,hg,ho,n2,decide_true,Bool.and_self,if_true]
   rw [evas_congr (fun x hx=>ball_same m8 g1 hx) sets]
  simp only [Option.bind_some,Bool.not_true,Bool.false_eq_true,if_false,net_some hg ho,h1,h3,if_true,Int.toNat_natCast]
theorem bestRow_win:∀(T:Tab) (i b l:Int),0<=i->(0<=(bestRow T i b l).1↔0<=b\/winB T=true):=by
 intro T
 induction T with
 | nil=>intro i b l _;simp [bestRow,winB]
 | cons r T ih=>
  intro i b l hi
  have hw:winB (r::T)=(decide (0<=worstR r)||winB T):=rfl
  rw [hw,Bool.or_eq_true,decide_eq_true_eq]
  unfold bestRow
  split
  ·rename_i hh
   rw [ih _ _ _ (by omega)]
   constructor
   ·intro _;exact .inr (.inl hh.1)
   ·intro _;exact .inl hi
  ·rename_i hh
   rw [ih _ _ _ (by omega)]
   constructor
   ·rintro (h | h)
    ·exact .inl h
    ·exact .inr (.inr h)
   ·rintro (h | h | h)
    ·exact .inl h
    ·exact .inl (Int.not_lt.1 fun hb=>hh ⟨h,.inl hb⟩)
    ·exact .inr h
theorem best_win (cf:List (List Int)) (T:Tab):(bestOut cf (bestRow T 0 (-1) 0)).2.2.1=winB T:=by
 have h:=bestRow_win T 0 (-1) 0 (by omega)
 unfold bestOut
 split
 ·rename_i hn
  cases hw:winB T with
  | false=>rfl
  | true=>
   have:=h.2 (.inr hw)
   omega
 ·rename_i hn
  rcases h.1 (by omega) with h2 | h2
  ·omega
  ·exact h2.symm
theorem implCC {n:Int} {es:List E} {v:Unit} (ho:okL es=true) (k:Int) (u:Unit):F_q49q 0 ((n,es,v),k,u)=some (canO (n,es,v) k):=by
 unfold F_q49q canO
 simp only [implField (g:=(n,es,v)) ho]
 cases h:fieldB (n,es,v) k with
 | false=>simp only [Option.bind_some,Bool.not_false,if_true,Bool.false_eq_true,if_false]
 | true=>
  obtain ⟨hg,m,q,rfl,rfl,m1,m8,q1,q3⟩:=field_parts h
  obtain ⟨h1,h2⟩:=game_impl (v:=v) hg ho m1 q3 ()
  have h3:G_copBest (((toI (netN m es),()),cfG ((m:Int),es,v) q,mvG ((m:Int),es,v) q,tmG ((m:Int),es,v) q,()),())=some (bestOut (cfG ((m:Int),es,v) q) (bestRow (tmG ((m:Int),es,v) q) 0 (-1) 0)):=by
   unfold G_copBest
   simp only [h2,tm_low,Bool.and_self,if_true]
  simp only [Option.bind_some,Bool.not_true,Bool.false_eq_true,if_false,net_some hg ho,h1,h3,if_true,Int.toNat_natCast,best_win]
end Go.V.W
namespace Go.V.W
open Go.Proofs
theorem smT_8 {T:Tab} (h1:T.length<=120) (h2:∀r∈T,r.length<=8 /\ ∀v∈r,v<=9223372036854775807):smT T=true:=by
 unfold smT
 simp only [Bool.and_eq_true,decide_eq_true_eq,List.all_eq_true]
 exact ⟨by omega,fun r hr=>⟨by have:=(h2 r hr).1;omega,(h2 r hr).2⟩⟩
end Go.V.W
namespace Go.V.W
open Go.Proofs
def highB (T:Tab):Bool:=T.all fun row=>row.all fun v=>decide (v<=5000)
theorem high_tabM {m n:Nat} {f:Nat->Nat->Int} (h:∀c x,c<m->x<n->f c x<=5000):highB (tabM m n f)=true:=by
 unfold highB tabM
 simp only [List.all_map,List.all_eq_true,Function.comp,List.mem_range,decide_eq_true_eq]
 intro c hc x hx
 exact h c x hc hx
theorem high_tab2 {m n:Nat} {T:Tab} (hT:rcB m n T=true) (h:highB T=true) {c x:Nat} (hc:c<m) (hx:x<n):tab2 T (c:Int) (x:Int)<=5000:=by
 obtain ⟨t1,t2⟩:=rcB_parts hT
 have hlt:c<T.length:=by omega
 have ec:at_ K_Si T c=T[c]:=at_get (e:=K_Si) hlt
 have hl:=t2 c hc
 rw [ec] at hl
 have ex:at_ I T[c] x=T[c][x]:=at_get (e:=I) (by omega)
 rw [<- tab2_rc hT hc hx,ec,ex]
 unfold highB at h
 exact of_decide_eq_true (List.all_eq_true.1 (List.all_eq_true.1 h _ (List.getElem_mem hlt)) _ (List.getElem_mem (by omega)))
theorem gameT_high {cf mv:List (List Int)} {ball:Int->List Int} {n:Nat}:∀(k:Nat) (t:Int) (T:Tab),t+(k:Int)<=5000->rcB cf.length n T=true->highB T=true->highB (gameT cf mv ball n k t T)=true:=by
 intro k
 induction k with
 | zero=>intro t T _ _ h;exact h
 | succ k ih=>
  intro t T ht h h2
  unfold gameT
  split
  ·refine ih _ _ (by omega) (rc_tabM _ _ _) (high_tabM fun c x hc hx => ?_)
   split
   ·omega
   ·exact high_tab2 h h2 hc hx
  ·exact h2
theorem tm_high (g:Gr) (k:Nat):highB (tmG g k)=true:=gameT_high _ _ _ (by omega) (rc_tabM _ _ _) (high_tabM fun c x _ _=>by split<;>omega)
theorem tm_smT {m q:Nat} {es:List E} {v:Unit} (hm:m<=8) (hq:q<=3):smT (tmG ((m:Int),es,v) q)=true/\smT ((tmG ((m:Int),es,v) q).map negL)=true:=by
 obtain ⟨s1,s2⟩:=tm_small (es:=es) (v:=v) hm hq
 have hh:=tm_high ((m:Int),es,v) q
 unfold highB at hh
 refine ⟨smT_8 s1 fun r hr=>⟨s2 r hr,fun z hz => ?_⟩,smT_8 (by rw [List.length_map];exact s1) fun r hr => ?_⟩
 ·have:=of_decide_eq_true (List.all_eq_true.1 (List.all_eq_true.1 hh r hr) z hz)
  omega
 ·obtain ⟨r0,h0,rfl⟩:=List.mem_map.1 hr
  have h1:=s2 r0 h0
  have h2:(negL r0).length<=r0.length:=setF_len
  refine ⟨by omega,fun z hz => ?_⟩
  unfold negL at hz
  obtain ⟨y,_,h3,_,rfl⟩:=setF_mem.1 hz
  omega
end Go.V.W
namespace Go.V.W
open Go.Proofs
theorem rPart_lim (d) (r) (h:G_rPart d=some r):∃N,F_laws_rPart N d=some r:=by
 obtain ⟨a,b,_⟩:=d
 unfold G_rPart at h
 split at h
 ·rename_i hc
  rw [Bool.and_eq_true] at hc
  have ha:okL a=true:=hc.1
  have hb:okL b=true:=hc.2
  have hmx:=okL_mx ha
  cases Option.some.inj h
  refine ⟨a.length+1,?_⟩
  unfold F_laws_rPart
  have hl:=loop_every (L:=laws_rPart_l0 (a.length+1)) (r:=laws_rPart_l0_r (a.length+1)) (fun _ _=>rfl) a (mk:=fun i=>(a,b,(i:Int),())) (q:=hasL b) (o:=.inl (false,())) (f:=.inr (.inl ()))
   (by
    intro back i hi
    have e:at_ I a i=a[i]:=at_get (e:=I) hi
    have hg:G_rHas (b,a[i],())=some (hasL b a[i],()):=by unfold G_rHas;simp only [hb,if_true]
    unfold laws_rPart_l0_r
    simp only [lt_dec hi,if_true,idxIn_nat hi,Int.toNat_natCast,e,hg,Option.bind_some,wrap_up hi hmx]
    cases hasL b a[i]<;>simp)
   (by intro back;unfold laws_rPart_l0_r;simp only [lt_not,Bool.false_eq_true,if_false]) a.length 0 (by omega) (by omega)
  simp only [Int.natCast_zero,List.drop_zero] at hl
  simp only [hl,Option.bind_some]
  cases a.all (hasL b)<;>simp
 ·cases h
theorem putL_lenU (x:Int):∀l:List Int,(putL x l).length<=l.length+1:=by
 intro l
 induction l with
 | nil=>simp [putL]
 | cons a l ih=>unfold putL;split<;>(try split)<;>simp<;>omega
theorem putL_in {x y:Int}:∀{l:List Int},y∈putL x l->y=x\/y∈l:=by
 intro l
 induction l with
 | nil=>intro h;simp [putL] at h;exact .inl h
 | cons a l ih=>
  intro h
  unfold putL at h
  split at h
  ·rcases List.mem_cons.1 h with h | h
   ·exact .inr (List.mem_cons.2 (.inl h))
   ·exact (ih h).imp id fun h=>List.mem_cons_of_mem _ h
  ·split at h
   ·exact .inr h
   ·exact List.mem_cons.1 h
theorem le_l2 (N:Nat) (cf mv bl:List (List Int)) (hb:blB bl=true) (v:Unit) (sets:List (List Int)) (hs:smT sets=true) (c:Int) (x:Nat) (hx:x<bl.length) (i:Int) (d:Nat) (hd:d<sets.length):∀k j f (b:Bool),j+k=(ballA bl (x:Int)).length->k<f ->
  q47q_l2 N f (sets,c,(x:Int),(cf,mv,bl,v),i,(d:Int),b,(j:Int),())=some (.inl (sets,c,(x:Int),(cf,mv,bl,v),i,(b||((ballA bl (x:Int)).drop j).any (fun y=>hasL (sets.getD d []) y)),())):=by
 obtain ⟨b1,b2⟩:=blB_parts hb
 obtain ⟨e1,e2,_⟩:=b2 x hx
 obtain ⟨_,s2,_⟩:=smT_parts hs
 have ix:idxIn (x:Int) bl.length=true:=idxIn_nat hx
 have id':idxIn (d:Int) sets.length=true:=idxIn_nat hd
 have ed:at_ K_Si sets d=sets.getD d []:=at_getDS hd
 have hrow:okL (sets.getD d [])=true:=by
  rw [<- ed,at_get (e:=K_Si) hd]
  have:=s2 _ (List.getElem_mem hd)
  exact okL_of (Nat.le_trans this (by omega))
 intro k
 induction k with
 | zero=>
  intro j f b h1 h2
  obtain ⟨f,rfl⟩:∃m,f=m+1:=⟨f-1,by omega⟩
  have hlt:decide ((j:Int)<((ballA bl (x:Int)).length:Int))=false:=decide_eq_false (by omega)
  rw [List.drop_of_length_le (by omega),List.any_nil,Bool.or_false]
  show q47q_l2_r _ _ _=_
  unfold q47q_l2_r
  simp only [ix,if_true,Int.toNat_natCast,e1,hlt,Bool.false_eq_true,if_false]
 | succ k ih=>
  intro j f b h1 h2
  obtain ⟨f,rfl⟩:∃m,f=m+1:=⟨f-1,by omega⟩
  have hj:j<(ballA bl (x:Int)).length:=by omega
  have ej:at_ I (ballA bl (x:Int)) j=(ballA bl (x:Int))[j]:=at_get (e:=I) hj
  rw [List.drop_eq_getElem_cons hj,List.any_cons]
  show q47q_l2_r _ _ _=_
  unfold q47q_l2_r
  simp only [ix,if_true,Int.toNat_natCast,e1,lt_dec hj,small_wrap (show j<=100000 by omega)]
  cases b with
  | true=>
   simp only [if_true,Bool.true_or]
   rw [ih (j+1) f true (by omega) (by omega),Bool.true_or]
  | false=>
   simp only [Bool.false_eq_true,if_false,id',if_true,ed,idxIn_nat hj,ej,has1 hrow,Option.bind_some,Bool.false_or]
   rw [ih (j+1) f _ (by omega) (by omega)]
theorem l4Evades_lim (d) (r) (h:G_l4Evades d=some r):∃N,F_q47q N d=some r:=by
 obtain ⟨⟨cf,mv,bl,v⟩,sets,c,x,_⟩:=d
 unfold G_l4Evades at h
 split at h
 ·rename_i hc
  simp only [Bool.and_eq_true] at hc
  obtain ⟨⟨⟨⟨⟨hg,hb⟩,hs⟩,hl⟩,hc'⟩,hx'⟩:=hc
  have hs:smT sets=true:=hs
  have hl:sets.length=cf.length:=of_decide_eq_true hl
  obtain ⟨g1,g2,g3,g4⟩:=gmB_parts hg
  obtain ⟨b1,b2⟩:=blB_parts hb
  obtain ⟨c,rfl,hc⟩:=nodeX hc'
  obtain ⟨x,rfl,hx⟩:=nodeX hx'
  cases Option.some.inj h
  obtain ⟨m1,m2,m3⟩:=g4 c hc
  obtain ⟨e1,e2,_⟩:=b2 x hx
  have ic:idxIn (c:Int) mv.length=true:=idxIn_nat (by omega)
  refine ⟨1010,?_⟩
  unfold F_q47q
  have hloop:=loop_every (L:=q47q_l0 1010) (r:=q47q_l0_r 1010) (fun _ _=>rfl) (at_ K_Si mv c) (mk:=fun i=>(sets,(c:Int),(x:Int),(cf,mv,bl,v),(i:Int),()))
   (q:=fun d => !hasL (cf.getD d.toNat []) (x:Int)&&(ballA bl (x:Int)).any fun y=>hasL (sets.getD d.toNat []) y) (o:=.inl (false,())) (f:=.inr (.inl ()))
   (by
    intro back i hi
    have ei:at_ I (at_ K_Si mv c) i=(at_ K_Si mv c)[i]:=at_get (e:=I) hi
    obtain ⟨d,hd,hdl⟩:=nodeX (m3 _ (List.getElem_mem hi))
    obtain ⟨y1,y2,y3⟩:=g3 d hdl
    have hh:=le_l2 1010 cf mv bl hb v sets hs (c:Int) x hx (i:Int) d (by omega) (ballA bl (x:Int)).length 0 1010 false (by omega) (by omega)
    simp only [Int.natCast_zero,List.drop_zero,Bool.false_or] at hh
    unfold q47q_l0_r
    simp only [ic,if_true,Int.toNat_natCast,lt_dec hi,idxIn_nat hi,ei,hd,idxIn_nat hdl,has1 (okL_of (show (at_ K_Si cf d).length<=1048576 by omega)),Option.bind_some,hh,y2,small_wrap (show i<=100000 by omega)]
    cases hasL (at_ K_Si cf d) (x:Int) with
    | true=>simp
    | false=>
     simp only [Bool.false_eq_true,if_false,Bool.not_false,Bool.true_and]
     cases (ballA bl (x:Int)).any fun y=>hasL (sets.getD d []) y<;>simp)
   (by intro back;unfold q47q_l0_r;simp only [ic,if_true,Int.toNat_natCast,lt_not,Bool.false_eq_true,if_false]) 1009 0 (by omega) (by omega)
  simp only [Int.natCast_zero,List.drop_zero] at hloop
  unfold evadeB
  simp only [hloop,Option.bind_some,m2,Int.toNat_natCast]
  generalize ((at_ K_Si mv c).all fun d => !hasL (cf.getD d.toNat []) (x:Int)&&(ballA bl (x:Int)).any fun y=>hasL (sets.getD d.toNat []) y)=b
  cases b<;>simp
 ·cases h
theorem specEv_lim (d) (r) (h:G_specEv d=some r):∃N,F_q37q N d=some r:=by
 obtain ⟨⟨n,es,v⟩,k,sets,_⟩:=d
 unfold G_specEv at h
 split at h
 ·rename_i hc
  rw [Bool.and_eq_true] at hc
  have ho:okL es=true:=hc.1
  have hs:smT sets=true:=hc.2
  obtain ⟨s1,s2,s3⟩:=smT_parts hs
  cases Option.some.inj h
  refine ⟨1010,?_⟩
  unfold F_q37q evO
  simp only [specField (g:=(n,es,v)) ho,Option.bind_some]
  cases hf:fieldB (n,es,v) k with
  | false=>simp only [Bool.not_false,if_true,Bool.false_eq_true,if_false]
  | true=>
   obtain ⟨hg,m,q,rfl,rfl,m1,m8,q1,q3⟩:=field_parts hf
   obtain ⟨h1,h2,h3,h4⟩:=game_spec (v:=v) hg ho q3 () ()
   simp only [Bool.not_true,Bool.false_eq_true,if_false,h1,Option.bind_some,if_true,Int.toNat_natCast]
   rw [evas_congr (fun x hx=>(ballA_L es hx).symm) sets]
   generalize hcf:cfG ((m:Int),es,v) q=cf at h3 |-
   generalize hmv:mvG ((m:Int),es,v) q=mv at h3 |-
   have hbl:=ballsL_len m es
   generalize ballsL m es=bl at h3 h4 hbl |-
   by_cases hl:sets.length=cf.length
   ·have hne:((sets.length:Int) != (cf.length:Int))=false:=by rw [hl];simp
    simp only [hne,Bool.false_eq_true,if_false]
    obtain ⟨g1,g2,g3,g4⟩:=gmB_parts h3
    have inner:∀c,(hc:c<sets.length)->nodeSetB (m:Int) (sets.getD c [])=true->q37q_l2 1010 1010 (sets,((m:Int),es,v),(cf,mv,bl,()),(c:Int),(0:Int),()) =
      some (if ((sets.getD c []).all fun x => !hasL (cf.getD c []) x&&evadeB cf mv (ballA bl) sets c x)=true then .inr (.inl (sets,((m:Int),es,v),(cf,mv,bl,()),(c:Int),())) else .inl (false,true,())):=fun c hc hn=>by
     have ec:at_ K_Si sets c=sets.getD c []:=at_getDS hc
     have hrow:(sets.getD c []).length<=1000:=by
      rw [<- ec,at_get (e:=K_Si) hc]
      exact s2 _ (List.getElem_mem hc)
     obtain ⟨y1,y2,y3⟩:=g3 c (by omega)
     have hin:∀x∈sets.getD c [],inB 0 ((m:Int)-1) x=true:=by
      unfold nodeSetB at hn
      rw [Bool.and_eq_true,List.all_eq_true] at hn
      exact hn.1
     have hci:inB 0 ((cf.length:Int)-1) (c:Int)=true:=inB_iff.2 (by omega)
     have hh:=loop_every (L:=q37q_l2 1010) (r:=q37q_l2_r 1010) (fun _ _=>rfl) (sets.getD c []) (mk:=fun i=>(sets,((m:Int),es,v),(cf,mv,bl,()),(c:Int),(i:Int),()))
      (q:=fun x => !hasL (cf.getD c []) x&&evadeB cf mv (ballA bl) sets c x) (o:=.inl (false,true,())) (f:=.inr (.inl (sets,((m:Int),es,v),(cf,mv,bl,()),(c:Int),())))
      (by
       intro back i hi
       have ei:at_ I (sets.getD c []) i=(sets.getD c [])[i]:=at_get (e:=I) hi
       have hx:=hin _ (List.getElem_mem hi)
       have hev:G_l4Evades ((cf,mv,bl,()),sets,(c:Int),(sets.getD c [])[i],())=some (evadeB cf mv (ballA bl) sets c (sets.getD c [])[i],()):=by
        have hx':inB 0 ((bl.length:Int)-1) (sets.getD c [])[i]=true:=by rw [hbl];exact hx
        unfold G_l4Evades
        simp only [h3,h4,hs,decide_eq_true hl,hci,hx',Bool.and_self,if_true,Int.toNat_natCast]
       unfold q37q_l2_r
       simp only [idxIn_nat hc,if_true,Int.toNat_natCast,ec,lt_dec hi,idxIn_nat hi,ei,idxIn_nat (show c<cf.length by omega),has1 (okL_of (show (at_ K_Si cf c).length<=1048576 by omega)),Option.bind_some,hev,y2,small_wrap (show i<=100000 by omega)]
       cases hasL (at_ K_Si cf c) (sets.getD c [])[i] with
       | true=>simp
       | false=>
        simp only [Bool.false_eq_true,if_false,Bool.not_false,Bool.true_and]
        cases evadeB cf mv (ballA bl) sets c (sets.getD c [])[i]<;>simp)
      (by intro back;unfold q37q_l2_r;simp only [idxIn_nat hc,if_true,Int.toNat_natCast,ec,lt_not,Bool.false_eq_true,if_false]) 1009 0 (by omega) (by omega)
     simpa only [Int.natCast_zero,List.drop_zero] using hh
    have hout:=loop_every (L:=q37q_l0 1010) (r:=q37q_l0_r 1010) (fun _ _=>rfl) (List.range sets.length) (mk:=fun i=>(sets,((m:Int),es,v),(cf,mv,bl,()),(i:Int),()))
     (q:=fun c=>nodeSetB (m:Int) (sets.getD c [])&&decide (0<(sets.getD c []).length)&&(sets.getD c []).all fun x => !hasL (cf.getD c []) x&&evadeB cf mv (ballA bl) sets c x) (o:=.inl (false,true,())) (f:=.inr (.inl ()))
     (by
      intro back c hc
      rw [List.length_range] at hc
      rw [List.getElem_range]
      have ec:at_ K_Si sets c=sets.getD c []:=at_getDS hc
      have hrow:okL (sets.getD c [])=true:=by
       rw [<- ec,at_get (e:=K_Si) hc]
       exact okL_of (Nat.le_trans (s2 _ (List.getElem_mem hc)) (by omega))
      have hw:IntKind.wrap .i64 ((m:Int)-1)=(m:Int)-1:=wrap_in _ (by omega) (by omega)
      have hset:F_spec_l2Set 0 (((m:Int),es,v),sets.getD c [],())=some (nodeSetB (m:Int) (sets.getD c []),()):=by
       unfold F_spec_l2Set G_l1Rising nodeSetB
       simp only [hrow,if_true,hw,Option.bind_some]
      unfold q37q_l0_r
      simp only [lt_dec hc,if_true,idxIn_nat hc,Int.toNat_natCast,ec,hset,Option.bind_some]
      cases hn:nodeSetB (m:Int) (sets.getD c []) with
      | false=>simp
      | true=>
       have hin:=inner c hc hn
       by_cases h0:0<(sets.getD c []).length
       ·have e0:(((sets.getD c []).length:Int)==(0:Int))=false:=beq_eq_false_iff_ne.2 (by omega)
        simp only [Bool.not_true,Bool.false_eq_true,if_false,e0,hin,Option.bind_some,decide_eq_true h0,Bool.and_self,Bool.true_and,small_wrap (show c<=100000 by omega)]
        generalize ((sets.getD c []).all fun x => !hasL (cf.getD c []) x&&evadeB cf mv (ballA bl) sets c x)=b
        cases b<;>simp [small_wrap (show c<=100000 by omega)]
       ·have e0:(((sets.getD c []).length:Int)==(0:Int))=true:=beq_iff_eq.2 (by omega)
        simp only [Bool.not_true,Bool.false_eq_true,if_false,e0,if_true,decide_eq_false h0,Bool.and_false,Bool.false_and])
     (by intro back;unfold q37q_l0_r;simp only [List.length_range,lt_not,Bool.false_eq_true,if_false]) 1009 0 (by omega) (by rw [List.length_range];omega)
    simp only [Int.natCast_zero,List.drop_zero] at hout
    simp only [hout,Option.bind_some]
    unfold evasB
    rw [decide_eq_true hl,Bool.true_and]
    generalize ((List.range sets.length).all fun c=>nodeSetB (m:Int) (sets.getD c [])&&decide (0<(sets.getD c []).length)&&(sets.getD c []).all fun x => !hasL (cf.getD c []) x&&evadeB cf mv (ballA bl) sets c x)=b
    cases b<;>simp
   ·have hne:((sets.length:Int) != (cf.length:Int))=true:=bne_iff_ne.2 (by omega)
    unfold evasB
    simp only [hne,if_true,decide_eq_false hl,Bool.false_and]
 ·cases h
end Go.V.W
namespace Go.V.W
open Go.Proofs
theorem at_l {e:Kd} {l:List e.den} {i:Nat} (h:i<l.length):at_ e l i=l[i]:=at_get h
end Go.V.W
namespace Go.V.W
structure Inv3 (p n:Nat) (ball:Nat->Int->List Int) (f:Nat->Nat->Nat->Int):Prop where
 low:∀r c q,-1<=f r c q
 home:∀r c,f r c c=0
 away:∀r c q,c≠q->f r c q≠0
 why:∀r c q,r<p->c<n->q<n->0<=f r c q->c=q \/ ∃b∈ball r (c:Int),0<=afterT (ball r) (tabL n (f ((r+1) % p))) b (q:Int)
theorem Inv3.start (p n:Nat) (ball:Nat->Int->List Int):Inv3 p n ball start3:=by
 refine ⟨fun r c q => ?_,fun r c => ?_,fun r c q h => ?_,fun r c q _ _ _ h => ?_⟩
 ·unfold start3 startF;split<;>omega
 ·unfold start3 startF;simp
 ·unfold start3 startF;rw [if_neg h];omega
 ·unfold start3 startF at h
  by_cases e:c=q
  ·exact .inl e
  ·rw [if_neg e] at h;omega
def okBalls (p n:Nat) (ball:Nat->Int->List Int):Prop := ∀r,r<p->okBall n (ball r)
theorem after_mono {n:Nat} {ball:Int->List Int} (hb:okBall n ball) {f g:Nat->Nat->Int} (h:∀c q,0<=f c q->0<=g c q) {b q:Nat} (hbn:b<n) (hq:q<n) (h0:0<=afterT ball (tabL n f) (b:Int) (q:Int)):0<=afterT ball (tabL n g) (b:Int) (q:Int):=by
 unfold afterT at h0 |-
 by_cases e:(b:Int)=(q:Int)
 ·rw [if_pos e];exact Int.le_refl _
 ·rw [if_neg e] at h0 |-
  rcases worst_spec (tab2 (tabL n f) (b:Int)) (ball (q:Int)) 0 with ⟨_,h1⟩ | ⟨h1,_,_⟩
  ·omega
  ·rcases worst_spec (tab2 (tabL n g) (b:Int)) (ball (q:Int)) 0 with ⟨⟨x,hx,h2⟩,_⟩ | ⟨_,h2,_⟩
   ·exfalso
    obtain ⟨y,hy,rfl⟩:=hb q hq x hx
    have:=(h1 _ hx).1
    rw [tab2_tabL _ hbn hy] at this h2
    have:=h _ _ this
    omega
   ·exact h2
theorem Inv3.next {p n:Nat} {ball:Nat->Int->List Int} (hb:okBalls p n ball) {t:Int} (ht:1<=t) {f:Nat->Nat->Nat->Int} (hI:Inv3 p n ball f):Inv3 p n ball (step3 p n ball t f):=by
 have hkeep:∀r c q,0<=f r c q->step3 p n ball t f r c q=f r c q:=fun r c q h=>by
  unfold step3 can3
  have:decide (f r c q<0)=false:=by simp;omega
  simp [this]
 have hge:∀r c q,0<=f r c q->0<=step3 p n ball t f r c q:=fun r c q h=>by rw [hkeep r c q h];exact h
 refine ⟨fun r c q => ?_,fun r c => ?_,fun r c q h => ?_,fun r c q hr hc hq h => ?_⟩
 ·unfold step3;split
  ·omega
  ·exact hI.low r c q
 ·rw [hkeep r c c (by rw [hI.home];exact Int.le_refl _)];exact hI.home r c
 ·unfold step3;split
  ·omega
  ·exact hI.away r c q h
 ·have key:(∃b∈ball r (c:Int),0<=afterT (ball r) (tabL n (f ((r+1) % p))) b (q:Int)) -> ∃b∈ball r (c:Int),0<=afterT (ball r) (tabL n (step3 p n ball t f ((r+1) % p))) b (q:Int):=by
   rintro ⟨b,hbm,h1⟩
   obtain ⟨y,hy,rfl⟩:=hb r hr c hc b hbm
   exact ⟨_,hbm,after_mono (hb r hr) (hge _) hy hq h1⟩
  by_cases hf:0<=f r c q
  ·exact (hI.why r c q hr hc hq hf).imp _root_.id key
  ·right
   have hcan:can3 p n ball f r c q=true:=by
    cases hcan:can3 p n ball f r c q with
    | true=>rfl
    | false=>unfold step3 at h;rw [if_neg (by rw [hcan];simp)] at h;exact absurd h hf
   unfold can3 at hcan
   simp only [Bool.and_eq_true,List.any_eq_true,decide_eq_true_eq] at hcan
   exact key hcan.2
end Go.V.W
namespace Go.V.W
open Go.Proofs
structure TT (nets:List Nt) (p n:Nat):Prop where
 ok:netsB n nets=true
 len:nets.length=p
 n8:n<=8
end Go.V.W
namespace Go.V.W
open Go.Proofs
theorem max_lim (d) (r) (h:G_max d=some r):∃N,F_q14q N d=some r:=by
 obtain ⟨l,_⟩:=d
 unfold G_max at h
 split at h
 ·rename_i hc
  simp only [Bool.and_eq_true,decide_eq_true_eq] at hc
  obtain ⟨hl,h0⟩:=hc
  have h0:0<l.length:=h0
  have hmx:=lim_max (okL_lim hl)
  have h:=Option.some.inj h
  subst h
  have key:∀(k i f:Nat) (m:Int),i+k=l.length->k<f->q14q_l0 (l.length+1) f (l,m,(i:Int),())=some (.inl ((l.drop i).foldl (fun a b=>if a<b then b else a) m,())):=by
   intro k
   induction k with
   | zero=>
    intro i f m h1 h2
    obtain ⟨f,rfl⟩:∃z,f=z+1:=⟨f-1,by omega⟩
    have e:i=l.length:=by omega
    subst e
    rw [List.drop_of_length_le (Nat.le_refl _)]
    simp [q14q_l0,q14q_l0_r]
   | succ k ih=>
    intro i f m h1 h2
    obtain ⟨f,rfl⟩:∃z,f=z+1:=⟨f-1,by omega⟩
    have hi:i<l.length:=by omega
    show q14q_l0_r (l.length+1) (q14q_l0 (l.length+1) f) _=_
    unfold q14q_l0_r
    rw [List.drop_eq_getElem_cons hi]
    simp only [lt_dec hi,if_true,idxIn_nat hi,Int.toNat_natCast,at_l (e:=I) hi,wrap_up hi hmx,List.foldl_cons]
    exact ih (i+1) f _ (by omega) (by omega)
  refine ⟨l.length+1,?_⟩
  unfold F_q14q
  have h1:decide ((l.length:Int)<1)=false:=by simp;omega
  have i0:idxIn (0:Int) l.length=true:=idxIn_nat h0
  have z0:(0:Int).toNat=0:=rfl
  have:=key (l.length-1) 1 (l.length+1) l[0] (by omega) (by omega)
  simp only [Int.natCast_one] at this
  simp only [h1,Bool.false_eq_true,if_false,i0,if_true,z0,at_l (e:=I) h0,this,Option.bind_some]
  cases l with
  | nil=>simp at h0
  | cons a l=>simp
 ·cases h
end Go.V.W
namespace Go.V.W
open Go.Proofs
theorem and255 (x:Int):0<=bits .and .u64 x 255/\bits .and .u64 x 255<=255:=by
 have h:bits .and .u64 x 255=IntKind.wrap .u64 ((BitVec.ofInt 64 x&&&BitVec.ofInt 64 255).toNat:Int):=rfl
 have e:(BitVec.ofInt 64 x&&&BitVec.ofInt 64 255).toNat<=255:=by
  rw [BitVec.toNat_and]
  have:(BitVec.ofInt 64 255).toNat=255:=by decide
  rw [this]
  exact Nat.and_le_right
 rw [h]
 generalize (BitVec.ofInt 64 x&&&BitVec.ofInt 64 255).toNat=m at e
 unfold IntKind.wrap
 simp [IntKind.bits,IntKind.signed]
 omega
theorem next_ok {c:Cur} {u:Unit} (h:CurB c) (hf:c.2.1<=far_):Ok (F_q35q 0 (c,u)) fun r=>0<=r.1/\r.1<=255/\Adv 1 c r.2.1:=by
 obtain ⟨l,a,s,_⟩:=c
 obtain ⟨hb,ha⟩:=h
 simp only at hb ha hf
 unfold far_ at hf
 have w1:IntKind.wrap .i64 (a+1)=a+1:=wrap_in _ (by omega) (by omega)
 have hx:=and255
 have w2:∀x:Int,IntKind.wrap .i64 (bits .and .u64 x 255)=bits .and .u64 x 255:=fun x=>wrap_in _ (by have:=(hx x).1;omega) (by have:=(hx x).2;omega)
 have adv:∀s',Adv 1 (l,a,s,()) (l,a+1,s',()):=fun s'=>⟨⟨hb,by simp only;omega⟩,by simp only;omega⟩
 unfold F_q35q
 simp only [w1,w2]
 refine Ok.ite (fun h1 => ?_) (fun h1 => ?_)
 ·have h1:a<l.length:=of_decide_eq_true h1
  refine Ok.pos (by unfold idxIn;simp;omega) ?_
  obtain ⟨v,hv⟩:∃v:Int,at_ (.int .u8) l a.toNat=v:=⟨_,rfl⟩
  have hv':0<=v/\v<=255:=by
   have hlt:a.toNat<l.length:=by omega
   rw [at_get (e:=.int .u8) hlt] at hv
   rw [<- hv]
   exact hb _ (List.getElem_mem hlt)
  rw [hv]
  have w3:IntKind.wrap .i64 v=v:=wrap_in _ (by omega) (by omega)
  simp only [w3]
  refine Ok.ite (fun _=>Ok.some ⟨hv'.1,hv'.2,adv _⟩) (fun _=>Ok.pos rfl (Ok.some ⟨(hx _).1,(hx _).2,adv _⟩))
 ·refine Ok.ite (fun _=>Ok.some ⟨by simp,by simp,adv _⟩) (fun _=>Ok.pos rfl (Ok.some ⟨(hx _).1,(hx _).2,adv _⟩))
theorem tmod_in {x n:Int} (h:0<=x) (hn:0<n):0<=x.tmod n/\x.tmod n<n:=by
 rw [Int.tmod_eq_emod_of_nonneg h]
 exact ⟨Int.emod_nonneg _ (by omega),Int.emod_lt_of_pos _ hn⟩
theorem pick_ok {c:Cur} {n:Int} {u:Unit} (h:CurB c) (hf:c.2.1+2<=far_):Ok (F_q34q 0 (c,n,u)) fun r=>0<=r.1/\(r.1<n\/r.1=0)/\Adv 2 c r.2.1:=by
 unfold F_q34q
 simp only
 refine Ok.ite (fun h1=>Ok.some ⟨Int.le_refl _,.inr rfl,h,by simp only;omega⟩) (fun h1 => ?_)
 have h1:¬n<=1:=of_decide_eq_false h1
 have hn:(n != 0)=true:=by simp;omega
 refine Ok.bind (next_ok h (by omega)) fun r hr => ?_
 obtain ⟨r1,r2,r3⟩:=hr
 refine Ok.ite (fun h2 => ?_) (fun h2 => ?_)
 ·have w1:IntKind.wrap .i64 (r.1*256)=r.1*256:=wrap_in _ (by omega) (by omega)
  refine Ok.bind (next_ok r3.1 (by have:=r3.2;omega)) fun q hq => ?_
  obtain ⟨q1,q2,q3⟩:=hq
  have w2:IntKind.wrap .i64 (r.1*256+q.1)=r.1*256+q.1:=wrap_in _ (by omega) (by omega)
  refine Ok.pos hn (Ok.some ?_)
  rw [w1,w2]
  have:=tmod_in (x:=r.1*256+q.1) (n:=n) (by omega) (by omega)
  exact ⟨this.1,.inl this.2,(r3.trans q3).le (by omega)⟩
 ·refine Ok.pos hn (Ok.some ?_)
  have:=tmod_in (x:=r.1) (n:=n) (by omega) (by omega)
  exact ⟨this.1,.inl this.2,r3.le (by omega)⟩
theorem one_ok {c:Cur} {n:Int} {u:Unit} (h:CurB c) (hf:c.2.1+2<=far_):Ok (F_q38q 0 (c,n,u)) fun r=>Adv 2 c r.2.1:=by
 unfold F_q38q
 simp only
 exact Ok.bind (pick_ok h hf) fun r hr=>Ok.some hr.2.2
theorem among_ok {c:Cur} {l:List Int} {u:Unit} (h:CurB c) (hf:c.2.1+2<=far_) (hl:0<l.length):Ok (F_q23q 0 (c,l,u)) fun r=>r.1∈l/\Adv 2 c r.2.1:=by
 unfold F_q23q
 simp only
 refine Ok.bind (pick_ok h hf) fun r hr => ?_
 obtain ⟨r1,r2,r3⟩:=hr
 have hlt:r.1.toNat<l.length:=by omega
 refine Ok.pos (by unfold idxIn;simp;omega) (Ok.some ⟨?_,r3⟩)
 rw [at_get (e:=I) hlt]
 exact List.getElem_mem hlt
end Go.V.W
namespace Go.V.W
open Go.Proofs
theorem pa_l0 (N:Nat) (n:Nat) (hn:n<=8) (z:Gr) (a:Int):∀k x f (es:List E),x+k=n->k<f->es.length<=x -> ∃es',q68q_l0 N f ((n:Int),z,(a,es,()),(x:Int),())=some (.inl (z,(a,es',()),()))/\es'.length<=100:=by
 intro k
 induction k with
 | zero=>
  intro x f es h1 h2 h3
  obtain ⟨f,rfl⟩:∃m,f=m+1:=⟨f-1,by omega⟩
  refine ⟨es,?_,by omega⟩
  have hlt:decide (((x+1:Nat):Int)<(n:Int))=false:=decide_eq_false (by omega)
  show q68q_l0_r _ _ _=_
  unfold q68q_l0_r
  simp only [small_wrap (show x<=100000 by omega),hlt,Bool.false_eq_true,if_false]
 | succ k ih=>
  intro x f es h1 h2 h3
  obtain ⟨f,rfl⟩:∃m,f=m+1:=⟨f-1,by omega⟩
  by_cases hx:x+1<n
  ·have hlt:decide (((x+1:Nat):Int)<(n:Int))=true:=decide_eq_true (by omega)
   have hle:∀e:E,decide (es.length+List.length [e]<=lim)=true:=fun e=>by unfold lim;simp;omega
   obtain ⟨es',e1,e2⟩:=ih (x+1) f (es++[((x:Int),((x+1:Nat):Int),())]) (by omega) (by omega) (by simp;omega)
   refine ⟨es',?_,e2⟩
   rw [<- e1]
   show q68q_l0_r _ _ _=_
   unfold q68q_l0_r
   simp only [small_wrap (show x<=100000 by omega),hlt,if_true,hle]
  ·refine ⟨es,?_,by omega⟩
   have hlt:decide (((x+1:Nat):Int)<(n:Int))=false:=decide_eq_false (by omega)
   show q68q_l0_r _ _ _=_
   unfold q68q_l0_r
   simp only [small_wrap (show x<=100000 by omega),hlt,Bool.false_eq_true,if_false]
theorem path_ok (n:Nat) (hn:n<=8):Ok (pickF F_q68q P_path ((n:Int),())) (P_path ((n:Int),())):=by
 refine Ok.pick 20 ?_
 obtain ⟨es,e1,e2⟩:=pa_l0 20 n hn (0,[],()) (n:Int) n 0 20 [] (by omega) (by omega) (by simp)
 refine ⟨(((n:Int),es,()),()),?_,e2⟩
 unfold F_q68q
 simp only [Int.natCast_zero] at e1
 simp only [e1,Option.bind_some]
theorem wh_l2 (N:Nat) (n:Nat) (hn:n<=8) (z:Gr) (a:Int) (x:Int):∀k y f (es:List E),y+k=n->k<f->es.length+k<=1000 -> ∃es',q29q_l2 N f ((n:Int),z,(a,es,()),x,(y:Int),())=some (.inl ((n:Int),z,(a,es',()),x,()))/\es'.length=es.length+k:=by
 intro k
 induction k with
 | zero=>
  intro y f es h1 h2 h3
  obtain ⟨f,rfl⟩:∃m,f=m+1:=⟨f-1,by omega⟩
  refine ⟨es,?_,by omega⟩
  have hlt:decide ((y:Int)<(n:Int))=false:=decide_eq_false (by omega)
  show q29q_l2_r _ _ _=_
  unfold q29q_l2_r
  simp only [hlt,Bool.false_eq_true,if_false]
 | succ k ih=>
  intro y f es h1 h2 h3
  obtain ⟨f,rfl⟩:∃m,f=m+1:=⟨f-1,by omega⟩
  have hlt:decide ((y:Int)<(n:Int))=true:=decide_eq_true (by omega)
  have hle:∀e:E,decide (es.length+List.length [e]<=lim)=true:=fun e=>by unfold lim;simp;omega
  obtain ⟨es',e1,e2⟩:=ih (y+1) f (es++[(x,(y:Int),())]) (by omega) (by omega) (by simp;omega)
  refine ⟨es',?_,by rw [e2];simp;omega⟩
  rw [<- e1]
  show q29q_l2_r _ _ _=_
  unfold q29q_l2_r
  simp only [hlt,if_true,hle,small_wrap (show y<=100000 by omega)]
theorem wh_l0 (N:Nat) (hN:20<=N) (n:Nat) (hn:n<=8) (z:Gr) (a:Int):∀k x f (es:List E),x+k=n->k<f->es.length<=8*x -> ∃es',q29q_l0 N f ((n:Int),z,(a,es,()),(x:Int),())=some (.inl (z,(a,es',()),()))/\es'.length<=100:=by
 intro k
 induction k with
 | zero=>
  intro x f es h1 h2 h3
  obtain ⟨f,rfl⟩:∃m,f=m+1:=⟨f-1,by omega⟩
  refine ⟨es,?_,by omega⟩
  have hlt:decide ((x:Int)<(n:Int))=false:=decide_eq_false (by omega)
  show q29q_l0_r _ _ _=_
  unfold q29q_l0_r
  simp only [hlt,Bool.false_eq_true,if_false]
 | succ k ih=>
  intro x f es h1 h2 h3
  obtain ⟨f,rfl⟩:∃m,f=m+1:=⟨f-1,by omega⟩
  have hlt:decide ((x:Int)<(n:Int))=true:=decide_eq_true (by omega)
  obtain ⟨e1,q1,q2⟩:=wh_l2 N n hn z a (x:Int) (n-(x+1)) (x+1) N es (by omega) (by omega) (by omega)
  obtain ⟨es',r1,r2⟩:=ih (x+1) f e1 (by omega) (by omega) (by omega)
  refine ⟨es',?_,r2⟩
  rw [<- r1]
  show q29q_l0_r _ _ _=_
  unfold q29q_l0_r
  simp only [hlt,if_true,small_wrap (show x<=100000 by omega),q1,Option.bind_some]
theorem whole_ok (n:Nat) (hn:n<=8):Ok (pickF F_q29q P_path ((n:Int),())) (P_path ((n:Int),())):=by
 refine Ok.pick 20 ?_
 obtain ⟨es,e1,e2⟩:=wh_l0 20 (by omega) n hn (0,[],()) (n:Int) n 0 20 [] (by omega) (by omega) (by simp)
 refine ⟨(((n:Int),es,()),()),?_,e2⟩
 unfold F_q29q
 simp only [Int.natCast_zero] at e1
 simp only [e1,Option.bind_some]
end Go.V.W
namespace Go.V.W
open Go.Proofs
theorem marred_ok {c:Cur} {n:Int} {es:List E} {v u:Unit} (h:CurB c) (hf:c.2.1+20<=far_) (hl:es.length<=150):Ok (F_q21q 0 (c,(n,es,v),u)) fun r=>r.1.2.1.length<=es.length+1/\Adv 10 c r.2.1:=by
 unfold F_q21q
 simp only
 have hle:∀e:E,decide (es.length+List.length [e]<=lim)=true:=fun e=>by unfold lim;simp;omega
 refine Ok.bind (pick_ok h (by omega)) fun r hr => ?_
 obtain ⟨r1,r2,r3⟩:=hr
 have q3:=r3.2
 refine Ok.ite (fun _ => ?_) fun _=>Ok.ite (fun _ => ?_) fun _=>Ok.ite (fun _ => ?_) fun _ => ?_
 ·refine Ok.bind (among_ok r3.1 (by omega) (by simp)) fun s hs=>Ok.some ⟨by simp,(r3.trans hs.2).le (by omega)⟩
 ·refine Ok.bind (pick_ok r3.1 (by omega)) fun s hs => ?_
  have s3:=hs.2.2.2
  refine Ok.bind (pick_ok hs.2.2.1 (by omega)) fun t ht => ?_
  refine Ok.pos (hle _) (Ok.some ⟨by simp,((r3.trans hs.2.2).trans ht.2.2).le (by omega)⟩)
 ·refine Ok.ite (fun hp => ?_) fun _=>Ok.some ⟨by simp,r3.le (by omega)⟩
  have hp:=of_decide_eq_true hp
  refine Ok.bind (pick_ok r3.1 (by omega)) fun s hs => ?_
  obtain ⟨s1,s2,s3⟩:=hs
  refine Ok.pos (by unfold idxIn;simp;omega) (Ok.pos (hle _) (Ok.some ⟨by simp,(r3.trans s3).le (by omega)⟩))
 ·exact Ok.some ⟨by simp,r3.le (by omega)⟩
end Go.V.W
namespace Go.V.W
open Go.Proofs
theorem insE_lenU (e:E):∀l:List E,(insE e l).length=l.length+1:=by
 intro l
 induction l with
 | nil=>rfl
 | cons a l ih=>unfold insE;split<;>simp [ih]
theorem put_ok {es:List E} {e:E} {u:Unit} (h:es.length<=1000):Ok (G_l2Put (es,e,u)) fun r=>r.1.length=es.length+1:=by
 unfold G_l2Put
 rw [if_pos (decide_eq_true h)]
 exact Ok.some (insE_lenU _ _)
theorem near_ok {g:Gr} {x y:Int} {u:Unit} (h:g.2.1.length<=1000):Ok (G_l2Near (g,x,y,u)) fun _=>True:=by
 unfold G_l2Near
 rw [if_pos (show okL g.2.1=true from decide_eq_true (by unfold lim;omega))]
 exact Ok.some trivial
theorem cycle_ok (n:Nat) (hn:n<=8):Ok (F_q55q 0 ((n:Int),())) fun r=>r.1.2.1.length<=101:=by
 unfold F_q55q
 simp only
 refine Ok.bind (path_ok n hn) fun r hr => ?_
 have hr:r.1.2.1.length<=100:=hr
 refine Ok.bind (put_ok (by omega)) fun q hq=>Ok.some ?_
 simp only
 omega
theorem sg_l3 (N:Nat) (n:Nat) (hn:n<=8) (z:Gr) (a w:Int) (b:Bool) (x:Int):∀k y f (c:Cur) (es:List E),y+k=n->k<f->CurB c->c.2.1+2*(k:Int)<=far_->es.length+k<=1000 ->
  Ok (q12q_l3 N f (c,z,(n:Int),(a,es,()),w,b,x,(y:Int),())) fun o => ∃c' es',o=.inl (c',z,(n:Int),(a,es',()),w,b,x,())/\Adv (2*(k:Int)) c c'/\es'.length<=es.length+k:=by
 intro k
 induction k with
 | zero=>
  intro y f c es h1 h2 h3 h4 h5
  obtain ⟨f,rfl⟩:∃m,f=m+1:=⟨f-1,by omega⟩
  have hlt:decide ((y:Int)<(n:Int))=false:=decide_eq_false (by omega)
  show Ok (q12q_l3_r _ _ _) _
  unfold q12q_l3_r
  simp only [hlt,Bool.false_eq_true,if_false]
  exact Ok.some ⟨c,es,rfl,⟨h3,by omega⟩,by omega⟩
 | succ k ih=>
  intro y f c es h1 h2 h3 h4 h5
  obtain ⟨f,rfl⟩:∃m,f=m+1:=⟨f-1,by omega⟩
  have hlt:decide ((y:Int)<(n:Int))=true:=decide_eq_true (by omega)
  show Ok (q12q_l3_r _ _ _) _
  unfold q12q_l3_r
  simp only [hlt,if_true,small_wrap (show y<=100000 by omega)]
  refine Ok.bind (pick_ok h3 (by omega)) fun r hr => ?_
  have r3:=hr.2.2.2
  refine Ok.ite (fun _ => ?_) (fun _ => ?_)
  ·refine Ok.bind (put_ok (by omega)) fun q hq => ?_
   refine (ih (y+1) f r.2.1 q.1 (by omega) (by omega) hr.2.2.1 (by omega) (by omega)).mono fun o ho => ?_
   obtain ⟨c',es',e1,e2,e3⟩:=ho
   exact ⟨c',es',e1,(hr.2.2.trans e2).le (by omega),by omega⟩
  ·refine (ih (y+1) f r.2.1 es (by omega) (by omega) hr.2.2.1 (by omega) (by omega)).mono fun o ho => ?_
   obtain ⟨c',es',e1,e2,e3⟩:=ho
   exact ⟨c',es',e1,(hr.2.2.trans e2).le (by omega),by omega⟩
theorem sg_l1 (N:Nat) (hN:20<=N) (n:Nat) (hn:n<=8) (z:Gr) (a w:Int) (b:Bool):∀k x f (c:Cur) (es:List E),x+k=n->k<f->CurB c->c.2.1+20*(k:Int)<=far_->es.length<=10*x ->
  Ok (q12q_l1 N f (c,z,(n:Int),(a,es,()),w,b,(x:Int),())) fun o => ∃c' es',o=.inl (c',z,(a,es',()),())/\Adv (20*(k:Int)) c c'/\es'.length<=10*n:=by
 intro k
 induction k with
 | zero=>
  intro x f c es h1 h2 h3 h4 h5
  obtain ⟨f,rfl⟩:∃m,f=m+1:=⟨f-1,by omega⟩
  have hlt:decide ((x:Int)<(n:Int))=false:=decide_eq_false (by omega)
  show Ok (q12q_l1_r _ _ _) _
  unfold q12q_l1_r
  simp only [hlt,Bool.false_eq_true,if_false]
  exact Ok.some ⟨c,es,rfl,⟨h3,by omega⟩,by omega⟩
 | succ k ih=>
  intro x f c es h1 h2 h3 h4 h5
  obtain ⟨f,rfl⟩:∃m,f=m+1:=⟨f-1,by omega⟩
  have hlt:decide ((x:Int)<(n:Int))=true:=decide_eq_true (by omega)
  show Ok (q12q_l1_r _ _ _) _
  unfold q12q_l1_r
  simp only [hlt,if_true,small_wrap (show x<=100000 by omega)]
  refine Ok.bind (sg_l3 N n hn z a w b (x:Int) (n-(x+1)) (x+1) N c es (by omega) (by omega) h3 (by omega) (by omega)) fun o ho => ?_
  obtain ⟨c1,e1,rfl,a1,l1⟩:=ho
  have b1:=a1.2
  simp only [small_wrap (show x<=100000 by omega)]
  refine Ok.bind (pick_ok a1.1 (by omega)) fun r hr => ?_
  have r3:=hr.2.2.2
  have more:∀es2:List E,es2.length<=10*(x+1)->Ok (q12q_l1 N f (r.2.1,z,(n:Int),(a,es2,()),w,b,((x+1:Nat):Int),())) fun o => ∃c' es',o=.inl (c',z,(a,es',()),())/\Adv (20*((k+1:Nat):Int)) c c'/\es'.length<=10*n:=fun es2 h=>by
   refine (ih (x+1) f r.2.1 es2 (by omega) (by omega) hr.2.2.1 (by omega) (by omega)).mono fun o ho => ?_
   obtain ⟨c',es',e1,e2,e3⟩:=ho
   exact ⟨c',es',e1,((a1.trans hr.2.2).trans e2).le (by omega),by omega⟩
  refine Ok.ite (fun _=>Ok.ite (fun _ => ?_) fun _=>more _ (by omega)) fun _=>more _ (by omega)
  refine Ok.bind (near_ok (by simp only;omega)) fun _ _=>Ok.ite (fun _ => ?_) fun _=>more _ (by omega)
  refine Ok.bind (put_ok (by omega)) fun q hq=>more _ (by omega)
noncomputable def sgTail (N:Nat) (c:Cur) (n:Int):Option (Gr×Cur×Unit):=
  ((F_q34q 0) ((c,((8:Int),())))).bind fun r49=>
  if (r49.1==(0:Int))=true then
   ((pickF F_q68q P_path) (n,())).bind fun r50=>
   ((F_q21q 0) ((r49.2.1,(r50.1,())))).bind fun r51=>
   some ((r51.1,(r51.2.1,())))
  else
   if (r49.1==(1:Int))=true then
    if (decide (n>(2:Int)))=true then
     ((F_q55q 0) (n,())).bind fun r52=>
     ((F_q21q 0) ((r49.2.1,(r52.1,())))).bind fun r53=>
     some ((r53.1,(r53.2.1,())))
    else
     ((F_q21q 0) ((r49.2.1,((n,(([]:List (Int×Int×Unit)),())),())))).bind fun r54=>
     some ((r54.1,(r54.2.1,())))
   else
    if (r49.1==(2:Int))=true then
     ((pickF F_q29q P_path) (n,())).bind fun r55=>
     ((F_q21q 0) ((r49.2.1,(r55.1,())))).bind fun r56=>
     some ((r56.1,(r56.2.1,())))
    else
     ((F_q23q 0) ((r49.2.1,([(3:Int),(4:Int),(6:Int)],())))).bind fun r57=>
     ((F_q38q 0) ((r57.2.1,((6:Int),())))).bind fun r58=>
     (q12q_l1 N N ((r58.2.1,(((0:Int),(([]:List (Int×Int×Unit)),())),(n,((n,(([]:List (Int×Int×Unit)),())),(r57.1,(r58.1,((0:Int),()))))))))).bind fun o59=>match o59 with
     | .inl d60=>
      ((F_q21q 0) ((d60.1,(d60.2.2.1,())))).bind fun r61=>
      some ((r61.1,(r61.2.1,())))
theorem sgTail_ok {c:Cur} {n:Int} {m:Nat} (hm:m<=8) (he:n=m) (h:CurB c) (hf:c.2.1+250<=far_):Ok (sgTail 20 c n) fun r=>Adv 200 c r.2.1/\r.1.2.1.length<=200:=by
 subst he
 have mar:∀(c1:Cur) (g:Gr),Adv 180 c c1->g.2.1.length<=150->Ok ((F_q21q 0 (c1,g,())).bind fun r=>some (r.1,r.2.1,())) fun r=>Adv 200 c r.2.1/\r.1.2.1.length<=200:=by
  intro c1 g h1 h2
  have:=h1.2
  obtain ⟨n,es,u⟩:=g
  refine Ok.bind (marred_ok h1.1 (by omega) h2) fun r hr=>Ok.some ⟨(h1.trans hr.2).le (by omega),?_⟩
  have:=hr.1
  simp only at h2 |-
  omega
 unfold sgTail
 refine Ok.bind (pick_ok h (by omega)) fun r hr => ?_
 have a1:=hr.2.2
 have b1:=a1.2
 refine Ok.ite (fun _ => ?_) fun _=>Ok.ite (fun _=>Ok.ite (fun _ => ?_) fun _=>mar _ _ (a1.le (by omega)) (by simp)) fun _=>Ok.ite (fun _ => ?_) fun _ => ?_
 ·refine Ok.bind (path_ok m hm) fun q hq=>mar _ _ (a1.le (by omega)) ?_
  have:q.1.2.1.length<=100:=hq
  omega
 ·refine Ok.bind (cycle_ok m hm) fun q hq=>mar _ _ (a1.le (by omega)) (by omega)
 ·refine Ok.bind (whole_ok m hm) fun q hq=>mar _ _ (a1.le (by omega)) ?_
  have:q.1.2.1.length<=100:=hq
  omega
 ·refine Ok.bind (among_ok a1.1 (by omega) (by simp)) fun q hq => ?_
  have a2:=a1.trans hq.2
  have b2:=a2.2
  refine Ok.bind (one_ok a2.1 (by omega)) fun s hs => ?_
  have a3:=a2.trans hs
  have b3:=a3.2
  have hl:=sg_l1 20 (by omega) m hm (0,[],()) (m:Int) q.1 s.1 m 0 20 s.2.1 [] (by omega) (by omega) a3.1 (by omega) (by simp)
  simp only [Int.natCast_zero] at hl
  refine Ok.bind hl fun o ho => ?_
  obtain ⟨c',es',rfl,e2,e3⟩:=ho
  exact mar _ _ ((a3.trans e2).le (by omega)) (by simp only;omega)
theorem least_in {x y:Int} {u:Unit} (h:0<=x) (h2:0<=y) (h3:y<=8):∃m:Nat,m<=8/\(g_q54q (x,y,u)).1=(m:Int):=by
 unfold g_q54q
 simp only
 split
 ·rename_i hh
  have:=of_decide_eq_true hh
  exact ⟨x.toNat,by omega,by simp only;omega⟩
 ·exact ⟨y.toNat,by omega,by simp only;omega⟩
theorem someGraph_ok {c:Cur} {a:Int} (h:CurB c) (hf:c.2.1+300<=far_) (h0:0<=a) (h8:a<=8):Ok (pickF F_q12q P_someG (c,a,())) (P_someG (c,a,())):=by
 refine Ok.pick 20 ?_
 have fin:∀(c1:Cur) (n:Int) (m:Nat),m<=8->n=m->Adv 50 c c1->Ok (sgTail 20 c1 n) (P_someG (c,a,())):=fun c1 n m hm he h1=>by
  have:=h1.2
  exact (sgTail_ok hm he h1.1 (by omega)).mono fun r hr=>⟨(h1.trans hr.1).le (by omega),hr.2⟩
 unfold F_q12q
 simp only
 refine Ok.bind (among_ok h (by omega) (by simp)) fun r hr => ?_
 have r0:0<=r.1:=by
  have:=hr.1
  simp at this
  omega
 have a1:=hr.2
 have b1:=a1.2
 refine Ok.ite (fun _ => ?_) fun _ => ?_
 ·refine Ok.bind (one_ok a1.1 (by omega)) fun s hs => ?_
  have a2:=a1.trans hs
  have b2:=a2.2
  refine Ok.ite (fun _ => ?_) fun _ => ?_
  ·refine Ok.bind (pick_ok a2.1 (by omega)) fun t ht => ?_
   have a3:=a2.trans ht.2.2
   have w:IntKind.wrap .i64 ((7:Int)+t.1)=7+t.1:=wrap_in _ (by have:=ht.1;omega) (by have:=ht.2.1;omega)
   obtain ⟨m,hm,em⟩:=least_in (x:=IntKind.wrap .i64 ((7:Int)+t.1)) (u:=()) (by rw [w];have:=ht.1;omega) h0 h8
   exact fin _ _ m hm em (a3.le (by omega))
  ·obtain ⟨m,hm,em⟩:=least_in (u:=()) r0 h0 h8
   exact fin _ _ m hm em (a2.le (by omega))
 ·obtain ⟨m,hm,em⟩:=least_in (u:=()) r0 h0 h8
  exact fin _ _ m hm em (a1.le (by omega))
theorem bigGraph_ok {c:Cur} {u:Unit} (h:CurB c) (hf:c.2.1+300<=far_):Ok (F_q13q 0 (c,u)) fun r=>Adv 300 c r.2.1/\r.1.2.1.length<=200:=by
 unfold F_q13q
 simp only
 exact Ok.bind (someGraph_ok h hf (by omega) (by omega)) fun r hr=>Ok.some hr
theorem many_ok {c:Cur} {u:Unit} (h:CurB c) (hf:c.2.1+10<=far_):Ok (F_q33q 0 (c,u)) fun r=>Adv 10 c r.2.1:=by
 unfold F_q33q
 simp only
 refine Ok.bind (one_ok h (by omega)) fun r hr => ?_
 have b1:=hr.2
 refine Ok.ite (fun _ => ?_) fun _ => ?_
 ·exact Ok.bind (among_ok hr.1 (by omega) (by simp)) fun s hs=>Ok.some ((hr.trans hs.2).le (by omega))
 ·exact Ok.bind (among_ok hr.1 (by omega) (by simp)) fun s hs=>Ok.some ((hr.trans hs.2).le (by omega))
theorem chase_ok {c:Cur} {u:Unit} (h:CurB c) (hf:c.2.1+400<=far_):Ok (F_q26q 0 (c,u)) fun r=>Adv 400 c r.2.2.1/\r.1.2.1.length<=200:=by
 unfold F_q26q
 simp only
 refine Ok.bind (one_ok h (by omega)) fun r hr => ?_
 have b1:=hr.2
 refine Ok.ite (fun _ => ?_) fun _ => ?_
 ·exact Ok.bind (bigGraph_ok hr.1 (by omega)) fun s hs=>Ok.some ⟨(hr.trans hs.1).le (by omega),hs.2⟩
 ·refine Ok.bind (one_ok hr.1 (by omega)) fun s hs => ?_
  have a2:=hr.trans hs
  have b2:=a2.2
  refine Ok.ite (fun _ => ?_) fun _ => ?_
  ·exact Ok.bind (bigGraph_ok a2.1 (by omega)) fun q hq=>Ok.some ⟨(a2.trans hq.1).le (by omega),hq.2⟩
  ·refine Ok.bind (one_ok a2.1 (by omega)) fun q hq => ?_
   have a3:=a2.trans hq
   have b3:=a3.2
   refine Ok.ite (fun _ => ?_) fun _ => ?_
   ·exact Ok.bind (someGraph_ok a3.1 (by omega) (by omega) (by omega)) fun s hs=>Ok.some ⟨(a3.trans hs.1).le (by omega),hs.2⟩
   ·refine Ok.bind (someGraph_ok a3.1 (by omega) (by omega) (by omega)) fun s hs => ?_
    have a4:=a3.trans hs.1
    have b4:=a4.2
    exact Ok.bind (many_ok a4.1 (by omega)) fun t ht=>Ok.some ⟨(a4.trans ht).le (by omega),hs.2⟩
end Go.V.W
namespace Go.V.W
open Go.Proofs
theorem law54:∀d,WfD (Kd.tuple ([(K_Su8,false)].map (·.1))) d -> ∃out,G_law d=some out/\(splitT [.bool] [] out).1.1=true:=by
 rintro ⟨code,_⟩ ⟨⟨hl,hc⟩,_⟩
 refine ⟨(true,()),?_,rfl⟩
 unfold G_law
 rw [if_pos]
 simp only [Bool.and_eq_true,List.all_eq_true,decide_eq_true_eq]
 refine ⟨fun x hx => ?_,hl⟩
 have:=hc x hx
 simp [WfD,Lit.wf,IntKind.min,IntKind.max,IntKind.signed,IntKind.bits] at this
 unfold inB
 simp
 omega
end Go.V.W
namespace Go.V.W
open Go.Proofs
theorem sm_of {T:Tab} (h1:T.length<=1000) (h2:∀r∈T,r.length<=1000 /\ ∀v∈r,v<=9223372036854775807):smT T=true:=by
 unfold smT
 simp only [Bool.and_eq_true,decide_eq_true_eq,List.all_eq_true]
 exact ⟨h1,fun r hr=>⟨(h2 r hr).1,(h2 r hr).2⟩⟩
theorem node_ok {c:Cur} {g:Gr} {u:Unit} (h:CurB c) (hf:c.2.1+10<=far_):Ok (F_q30q 0 (c,g,u)) fun r=>r.1<=9223372036854775807/\(r.1 = -1\/0<=r.1)/\Adv 10 c r.2.1:=by
 have lst:∀(c1:Cur),Adv 4 c c1->Ok ((F_q23q 0 (c1,[(-1:Int),(0:Int),(8:Int),(4611686018427387904:Int)],())).bind fun r=>some (r.1,r.2.1,())) fun r=>r.1<=9223372036854775807/\(r.1 = -1\/0<=r.1)/\Adv 10 c r.2.1:=fun c1 h1=>by
  have:=h1.2
  refine Ok.bind (among_ok h1.1 (by omega) (by simp)) fun r hr=>Ok.some ⟨?_,?_,(h1.trans hr.2).le (by omega)⟩
  ·have:=hr.1
   simp at this
   omega
  ·have:=hr.1
   simp at this
   omega
 have a0:Adv 4 c c:=⟨h,by omega⟩
 unfold F_q30q
 simp only
 refine Ok.ite (fun _=>lst c a0) fun h1=>Ok.ite (fun _=>lst c a0) fun h2 => ?_
 have h2:=of_decide_eq_false h2
 have h2:¬g.1>8:=h2
 refine Ok.bind (one_ok h (by omega)) fun r hr => ?_
 have b:=hr.2
 refine Ok.ite (fun _=>lst _ (hr.le (by omega))) fun _ => ?_
 refine Ok.bind (pick_ok hr.1 (by omega)) fun s hs=>Ok.some ⟨?_,.inr hs.1,(hr.trans hs.2.2).le (by omega)⟩
 rcases hs.2.1 with h3 | h3
 ·have h3:s.1<g.1:=h3
  show s.1<=_
  omega
 ·show s.1<=_
  omega
noncomputable def evTail (c:Cur) (g:Gr) (k:Int):Option (Gr×Int×Tab×Unit):=
  ((F_q46q 0) ((g,(k,())))).bind fun r24=>
  if (decide ((List.length r24.1:Int)>(0:Int)))=true then
   ((F_q34q 0) ((c,((List.length r24.1:Int),())))).bind fun r25=>
   ((F_q34q 0) ((r25.2.1,((8:Int),())))).bind fun r26=>
   if (r26.1==(0:Int))=true then
    if (idxIn r25.1 (List.length r24.1))=true then
    if (decide ((List.length (at_ K_Si r24.1 r25.1.toNat):Int)>(0:Int)))=true then
     if (idxIn r25.1 (List.length r24.1))=true then
     if ((decide (0<=(1:Int))&&decide ((1:Int)<=(List.length (at_ K_Si r24.1 r25.1.toNat):Int))&&decide ((List.length (at_ K_Si r24.1 r25.1.toNat):Int)<=(List.length (at_ K_Si r24.1 r25.1.toNat):Int))))=true then
     let x27:List Int:=sub_ (at_ K_Si r24.1 r25.1.toNat) (1:Int) (List.length (at_ K_Si r24.1 r25.1.toNat):Int)
     if (idxIn r25.1 (List.length r24.1))=true then
     let x28:List (List Int):=List.set r24.1 r25.1.toNat x27
     some ((g,(k,(x28,()))))
     else none
     else none
     else none
    else
     some ((g,(k,(r24.1,()))))
    else none
   else
    if (r26.1==(1:Int))=true then
     if (idxIn r25.1 (List.length r24.1))=true then
     ((F_q30q 0) ((r26.2.1,(g,())))).bind fun r29=>
     (G_l1Put ((at_ K_Si r24.1 r25.1.toNat,(r29.1,())))).bind fun r30=>
     if (idxIn r25.1 (List.length r24.1))=true then
     let x31:List (List Int):=List.set r24.1 r25.1.toNat r30.1
     some ((g,(k,(x31,()))))
     else none
     else none
    else
     if (r26.1==(2:Int))=true then
      if ((decide (0<=(1:Int))&&decide ((1:Int)<=(List.length r24.1:Int))&&decide ((List.length r24.1:Int)<=(List.length r24.1:Int))))=true then
      let x32:List (List Int):=sub_ r24.1 (1:Int) (List.length r24.1:Int)
      some ((g,(k,(x32,()))))
      else none
     else
      some ((g,(k,(r24.1,()))))
  else
   some ((g,(k,(r24.1,()))))
theorem evTail_ok {c:Cur} {g:Gr} {k:Int} (h:CurB c) (hf:c.2.1<=1000) (hg:g.2.1.length<=1000) (d:List Int×Unit):Ok (evTail c g k) (P_drawCap d):=by
 obtain ⟨n,es,v⟩:=g
 have hg:es.length<=1000:=hg
 have ho:okL es=true:=okL_of (by omega)
 have hsm:smT (safeB (n,es,v) k).1=true:=by
  unfold safeB
  split
  ·rename_i hb
   obtain ⟨hgr,m,q,rfl,rfl,m1,m8,q1,q3⟩:=field_parts hb
   exact (tm_smT m8 (by omega)).2
  ·rfl
 obtain ⟨w1,w2⟩:=safe_small (g:=(n,es,v)) (k:=k)
 unfold evTail
 simp only [specSS ho,Option.bind_some]
 generalize (safeB (n,es,v) k).1=T at hsm w1 w2
 obtain ⟨s1,s2,s3⟩:=smT_parts hsm
 have done:∀T':Tab,smT T'=true->Ok (some ((n,es,v),k,T',())) (P_drawCap d):=fun T' h=>Ok.some ⟨hg,h⟩
 have setok:∀(j:Nat) (r:List Int),r.length<=1000->(∀v∈r,v<=9223372036854775807)->smT (T.set j r)=true:=fun j r h1 h2=>sm_of (by rw [List.length_set];omega) fun r' hr=>by
  rcases List.mem_or_eq_of_mem_set hr with hr | rfl
  ·exact ⟨s2 _ hr,s3 _ hr⟩
  ·exact ⟨h1,h2⟩
 refine Ok.ite (fun hp => ?_) fun _=>done T hsm
 have hp:=of_decide_eq_true hp
 refine Ok.bind (pick_ok h (by unfold far_;omega)) fun i hi => ?_
 obtain ⟨i1,i2,i3⟩:=hi
 have ib:=i3.2
 obtain ⟨j,hj⟩:∃j:Nat,i.1=j:=⟨i.1.toNat,by omega⟩
 have hjl:j<T.length:=by omega
 rw [hj]
 simp only [Int.toNat_natCast]
 have hidx:idxIn (j:Int) T.length=true:=idxIn_nat hjl
 have hmem:at_ K_Si T j∈T:=by rw [at_get (e:=K_Si) hjl];exact List.getElem_mem hjl
 have hrl:=w2 _ hmem
 refine Ok.bind (pick_ok i3.1 (by unfold far_;omega)) fun p hp3 => ?_
 have pb:=hp3.2.2.2
 refine Ok.ite (fun _=>Ok.pos hidx (Ok.ite (fun hq => ?_) fun _=>done T hsm)) fun _=>Ok.ite (fun _ => ?_) fun _=>Ok.ite (fun _ => ?_) fun _=>done T hsm
 ·have hq:=of_decide_eq_true hq
  refine Ok.pos hidx (Ok.pos (by simp;omega) (Ok.pos hidx (done _ (setok j _ ?_ fun v hv => ?_))))
  ·unfold sub_
   simp
   omega
  ·unfold sub_ at hv
   exact s3 _ hmem v (List.mem_of_mem_take (List.mem_of_mem_drop hv))
 ·refine Ok.pos hidx (Ok.bind (node_ok hp3.2.2.1 (by unfold far_;omega)) fun x hx => ?_)
  have hpt:G_l1Put (at_ K_Si T j,x.1,())=some (putL x.1 (at_ K_Si T j),()):=by
   unfold G_l1Put okS1
   rw [if_pos (decide_eq_true (by simp only;omega))]
  simp only [hpt,Option.bind_some]
  refine Ok.pos hidx (done _ (setok j _ ?_ fun v hv => ?_))
  ·have:=putL_lenU x.1 (at_ K_Si T j)
   omega
  ·rcases putL_in hv with rfl | hv
   ·exact hx.1
   ·exact s3 _ hmem v hv
 ·refine Ok.pos (by simp;omega) (done _ (sm_of ?_ fun r hr => ?_))
  ·unfold sub_
   simp
   omega
  ·unfold sub_ at hr
   have:=List.mem_of_mem_take (List.mem_of_mem_drop hr)
   exact ⟨s2 _ this,s3 _ this⟩
theorem drawEv_ok {code:List Int} (hb:∀x∈code,0<=x/\x<=255):Ok (pickF F_q16q P_drawCap (code,())) (P_drawCap (code,())):=by
 refine Ok.pick 0 ?_
 unfold F_q16q
 simp only
 have hc:CurB (code,0,0,()):=⟨hb,Int.le_refl _⟩
 refine Ok.bind (chase_ok hc (by unfold far_;simp only;omega)) fun r hr => ?_
 obtain ⟨a1,l1⟩:=hr
 have b1:=a1.2
 simp only at b1
 refine Ok.bind (one_ok a1.1 (by unfold far_;omega)) fun s hs => ?_
 have b2:=hs.2
 refine Ok.ite (fun _ => ?_) fun _ => ?_
 ·refine Ok.bind (pick_ok hs.1 (by unfold far_;omega)) fun t ht => ?_
  have b3:=ht.2.2.2
  obtain ⟨j,hj⟩:∃j:Nat,t.1=j:=⟨t.1.toNat,by have:=ht.1;omega⟩
  have hj3:j<3:=by
   have:=ht.2.1
   omega
  have hw:IntKind.wrap .i64 ((4:Int)+t.1)=((4+j:Nat):Int):=by rw [hj,wrap_in _ (by omega) (by omega)];omega
  simp only [hw]
  refine Ok.bind (cycle_ok (4+j) (by omega)) fun q hq => ?_
  exact evTail_ok (c:=t.2.1) (g:=q.1) (k:=1) ht.2.2.1 (by omega) (by omega) _
 ·exact evTail_ok (c:=s.2.1) (g:=r.1) (k:=r.2.1) hs.1 (by omega) (by omega) _
theorem lawEv_of {code:List Int} {u:Unit} (hbig:(g_laws_rBig (code,())).1=false) {n:Int} {es:List E} {v:Unit} {k:Int} {S:Tab} {w:Unit} (hd:pickF F_q16q P_drawCap (code,())=some ((n,es,v),k,S,w)) (ho:okL es=true) (hs:smT S=true) :
  F_laws_FnEvasions 1010 (code,u)=some (true,()):=by
 unfold F_laws_FnEvasions
 have hp:G_specEv ((n,es,v),k,S,())=some (evO (n,es,v) k S):=by
  unfold G_specEv
  simp only [ho,hs,Bool.and_self,if_true]
 have hsf:G_safe ((n,es,v),k,())=some (safeB (n,es,v) k):=by
  unfold G_safe
  simp only [ho,if_true]
 simp only [hbig,Bool.false_eq_true,if_false,hd,Option.bind_some,implIE ho k hs,hp,beq_self_eq_true,Bool.not_true,implCC ho,hsf]
 cases hf:fieldB (n,es,v) k with
 | false=>simp only [evO,hf,Bool.false_eq_true,if_false,Bool.not_false,if_true]
 | true=>
  obtain ⟨hg,m,q,rfl,rfl,m1,m8,q1,q3⟩:=field_parts hf
  have hfit:=board_fits (v:=v) (es:=es) m8 q3
  have hbf:okBall m (ballF m es):=ballF_ok m es
  have etm:tmG ((m:Int),es,v) q=timesG (cfG ((m:Int),es,v) q) (mvG ((m:Int),es,v) q) (ballF m es) m:=by
   unfold tmG
   simp only [Int.toNat_natCast]
  simp only [evO,canO,safeB,hf,if_true,Int.toNat_natCast]
  cases he:evasB (m:Int) (cfG ((m:Int),es,v) q) (mvG ((m:Int),es,v) q) (ballF m es) S with
  | false=>simp only [Bool.not_false,if_true]
  | true=>
   obtain ⟨p1,p2⟩:=evas_parts he
   have hlose:=evas_lose m8 hfit hbf he
   have hpart:=fun c hc=>evas_part m8 hfit hbf he (c:=c) hc
   rw [<- etm] at hlose hpart
   have hrc:=tm_rc ((m:Int),es,v) q
   obtain ⟨t1,t2⟩:=rcB_parts hrc
   obtain ⟨s1,s2,s3⟩:=smT_parts hs
   have hsm:=(tm_smT (es:=es) (v:=v) m8 q3).2
   obtain ⟨r1,r2,r3⟩:=smT_parts hsm
   have hln:((List.map negL (tmG ((m:Int),es,v) q)).length:Int)=(S.length:Int):=by rw [List.length_map];omega
   have hne:(((List.map negL (tmG ((m:Int),es,v) q)).length:Int) != (S.length:Int))=false:=by rw [hln];simp
   have hl:=loop_iter (L:=laws_FnEvasions_l0 1010) (r:=laws_FnEvasions_l0_r 1010) (fun _ _=>rfl) (n:=S.length) (mk:=fun i=>(S,(tmG ((m:Int),es,v) q).map negL,(i:Int),())) (o:=.inr (.inl ()))
    (by
     intro back i hi
     have hi2:i<((tmG ((m:Int),es,v) q).map negL).length:=by omega
     have hi3:i<(tmG ((m:Int),es,v) q).length:=by omega
     have e1:at_ K_Si S i=S.getD i []:=at_getDS hi
     have e2:at_ K_Si ((tmG ((m:Int),es,v) q).map negL) i=negL ((tmG ((m:Int),es,v) q).getD i []):=by
      rw [at_getDS hi2,map_negL]
     have o1:okL (S.getD i [])=true:=by
      rw [<- e1,at_get (e:=K_Si) hi]
      exact okL_of (Nat.le_trans (s2 _ (List.getElem_mem hi)) (by omega))
     have o2:okL (negL ((tmG ((m:Int),es,v) q).getD i []))=true:=by
      rw [<- e2,at_get (e:=K_Si) hi2]
      exact okL_of (Nat.le_trans (r2 _ (List.getElem_mem hi2)) (by omega))
     have hall:(S.getD i []).all (hasL (negL ((tmG ((m:Int),es,v) q).getD i [])))=true:=List.all_eq_true.2 fun x hx=>by
      have:=hpart i (by omega) x hx
      unfold hasL
      exact List.any_eq_true.2 ⟨x,this,by simp⟩
     have hgp:G_rPart (S.getD i [],negL ((tmG ((m:Int),es,v) q).getD i []),())=some (true,()):=by
      unfold G_rPart
      simp only [o1,o2,Bool.and_self,if_true,hall]
     unfold laws_FnEvasions_l0_r
     simp only [lt_dec hi,if_true,idxIn_nat hi,idxIn_nat hi2,Int.toNat_natCast,e1,e2,hgp,Option.bind_some,Bool.not_true,Bool.false_eq_true,if_false,small_wrap (show i<=100000 by omega)])
    (by intro back;unfold laws_FnEvasions_l0_r;simp only [lt_not,Bool.false_eq_true,if_false]) 1009 (by omega)
   simp only [Int.natCast_zero] at hl
   simp only [Bool.not_true,Bool.false_eq_true,if_false,hlose,hne,hl,Option.bind_some]
theorem lawEvasions_lim (d:List Int×Unit) (r:Bool×Unit) (h:G_law d=some r):∃N,F_laws_FnEvasions N d=some r:=by
 obtain ⟨code,u⟩:=d
 unfold G_law at h
 split at h
 ·rename_i hh
  cases Option.some.inj h
  simp only [Bool.and_eq_true,List.all_eq_true] at hh
  have hb:∀x∈code,0<=x/\x<=255:=fun x hx=>by
   have:=hh.1 x hx
   unfold inB at this
   simpa using this
  cases hbig:(g_laws_rBig (code,())).1 with
  | true=>
   refine ⟨0,?_⟩
   unfold F_laws_FnEvasions
   simp only [hbig,if_true]
  | false=>
   obtain ⟨⟨⟨n,es,v⟩,k,P,w⟩,e1,e2,e3⟩:=drawEv_ok hb
   have ho:okL es=true:=decide_eq_true (by simp only at e2;unfold lim;omega)
   exact ⟨1010,lawEv_of hbig e1 ho e3⟩
 ·cases h
end Go.V.W
namespace Go.V.W
open Go.Proofs
structure Sts (m cfn:Nat) (st:List St):Prop where
 at_:∀j (h:j<st.length),(∃c:Nat,st[j].1=(c:Int)/\c<cfn)/\(∃p:Nat->Bool,st[j].2.1=setF p m 0) /\ -1<=st[j].2.2.1/\st[j].2.2.1<(j:Int)
theorem Sts.push {m cfn:Nat} {st:List St} (h:Sts m cfn st) {c:Nat} (hc:c<cfn) (p:Nat->Bool) {b:Int} (h1 : -1<=b) (h2:b<(st.length:Int)):Sts m cfn (st++[((c:Int),setF p m 0,b,())]):=by
 refine ⟨fun j hj => ?_⟩
 by_cases hl:j<st.length
 ·rw [List.getElem_append_left hl]
  exact h.at_ j hl
 ·have e:j=st.length:=by simp at hj;omega
  subst e
  rw [List.getElem_append_right (by omega)]
  simp only [Nat.sub_self,List.getElem_cons_zero]
  exact ⟨⟨c,rfl,hc⟩,⟨p,rfl⟩,h1,h2⟩
def cntT (l:List Bool):Nat:=l.foldr (fun b s=>(if b=true then 1 else 0)+s) 0
structure ShI (m cfn:Nat) (st:List St) (sn:List Bool):Prop where
 sts:Sts m cfn st
 len:sn.length=cfn*2 ^ m
 cnt:st.length<=cfn+cntT sn
end Go.V.W
namespace Go.V.W
open Go.Proofs
def GWalk (g:Gr) (w:List (List Int)):Prop:=g.2.1.length<=200/\w.length<=60 /\ ∀l∈w,l.length<=10
theorem GWalk.ok {g:Gr} {w:List (List Int)} (h:GWalk g w):okL g.2.1=true/\okLL w=true:=⟨okL_of (by have:=h.1;omega),okLL_small (by have:=h.2.1;omega) (List.all_eq_true.2 fun l hl=>decide_eq_true (by have:=h.2.2 l hl;omega))⟩
end Go.V.W
namespace Go.V.W
open Go.Proofs
structure LogIs (d p:List UInt8) (c:Int):Prop where
 size:d.length+p.length<=30000
 all:(openL 60 0 (d++p)).2=(d++p).length
 durable:(openL 60 0 d).2=d.length
 count:((openL 60 0 (d++p)).1.length:Int)=c
end Go.V.W
namespace Go.V.W
open Go.Proofs Go.Shelf Go.RowKit
-- import Derived.Shelf.Lays
-- import Derived.Shelf.LaysM
-- import Derived.Test.XvLib3
-- import Derived.Shelf.SortM.Plain
-- import Derived.Shelf.SortM.SortNone
-- import Derived.Shelf.SlSortCmp.NoneTotal
def layg5_ren:Go.Shelf.Ren:=
{
  f:=fun x=>
    match x with
    | 5=>221
    | 8=>252
    | 7=>251
    | 19=>268
    | 20=>269
    | 10=>260
    | 11=>261
    | 12=>262
    | 13=>263
    | 14=>264
    | 15=>265
    | 16=>250
    | 17=>266
    | 18=>267
    | 30=>280
    | 31=>281
    | 32=>282
    | 33=>283
    | 34=>284
    | 35=>258
    | 40=>288
    | n=>n,
  t:=fun x=>
    match x with
    | 23=>36
    | 25=>3
    | 3=>3
    | 32=>192
    | 22=>36
    | 0=>0
    | 44=>199
    | 46=>94
    | 4=>4
    | 36=>206
    | 35=>205
    | 41=>39
    | 5=>5
    | 9=>9
    | 53=>222
    | 57=>226
    | 63=>230
    | 64=>231
    | n=>n,
  g:=fun x=>
    x }
set_option maxRecDepth 1000000 in
theorem layg5:Go.Proofs.SlLaysM.n5 Go.Proofs.Tryz.prog layg5_ren:=
{ mixed:=by kernel_rfl,
  f5:=⟨Go.Proofs.Tryz.f221.name,of_decide_eq_true (by kernel_rfl),(Go.Proofs.Tryz.func221).trans (congrArg some (by kernel_rfl))⟩,
  f7:=⟨Go.Proofs.Tryz.f251.name,of_decide_eq_true (by kernel_rfl),(Go.Proofs.Tryz.func251).trans (congrArg some (by kernel_rfl))⟩,
  f8:=(Go.Proofs.Tryz.func252).trans (congrArg some (by kernel_rfl)),
  f10:=⟨Go.Proofs.Tryz.f260.name,of_decide_eq_true (by kernel_rfl),(Go.Proofs.Tryz.func260).trans (congrArg some (by kernel_rfl))⟩,
  f11:=⟨Go.Proofs.Tryz.f261.name,of_decide_eq_true (by kernel_rfl),(Go.Proofs.Tryz.func261).trans (congrArg some (by kernel_rfl))⟩,
  f12:=⟨Go.Proofs.Tryz.f262.name,of_decide_eq_true (by kernel_rfl),(Go.Proofs.Tryz.func262).trans (congrArg some (by kernel_rfl))⟩,
  f13:=⟨Go.Proofs.Tryz.f263.name,of_decide_eq_true (by kernel_rfl),(Go.Proofs.Tryz.func263).trans (congrArg some (by kernel_rfl))⟩,
  f14:=⟨Go.Proofs.Tryz.f264.name,of_decide_eq_true (by kernel_rfl),(Go.Proofs.Tryz.func264).trans (congrArg some (by kernel_rfl))⟩,
  f15:=⟨Go.Proofs.Tryz.f265.name,of_decide_eq_true (by kernel_rfl),(Go.Proofs.Tryz.func265).trans (congrArg some (by kernel_rfl))⟩,
  f16:=⟨Go.Proofs.Tryz.f250.name,of_decide_eq_true (by kernel_rfl),(Go.Proofs.Tryz.func250).trans (congrArg some (by kernel_rfl))⟩,
  f17:=⟨Go.Proofs.Tryz.f266.name,of_decide_eq_true (by kernel_rfl),(Go.Proofs.Tryz.func266).trans (congrArg some (by kernel_rfl))⟩,
  f18:=⟨Go.Proofs.Tryz.f267.name,of_decide_eq_true (by kernel_rfl),(Go.Proofs.Tryz.func267).trans (congrArg some (by kernel_rfl))⟩,
  f19:=(Go.Proofs.Tryz.func268).trans (congrArg some (by kernel_rfl)),
  f20:=(Go.Proofs.Tryz.func269).trans (congrArg some (by kernel_rfl)),
  f30:=⟨Go.Proofs.Tryz.f280.name,of_decide_eq_true (by kernel_rfl),(Go.Proofs.Tryz.func280).trans (congrArg some (by kernel_rfl))⟩,
  f31:=(Go.Proofs.Tryz.func281).trans (congrArg some (by kernel_rfl)),
  f32:=(Go.Proofs.Tryz.func282).trans (congrArg some (by kernel_rfl)),
  f33:=⟨Go.Proofs.Tryz.f283.name,of_decide_eq_true (by kernel_rfl),(Go.Proofs.Tryz.func283).trans (congrArg some (by kernel_rfl))⟩,
  f34:=⟨Go.Proofs.Tryz.f284.name,of_decide_eq_true (by kernel_rfl),(Go.Proofs.Tryz.func284).trans (congrArg some (by kernel_rfl))⟩,
  f35:=⟨Go.Proofs.Tryz.f258.name,of_decide_eq_true (by kernel_rfl),(Go.Proofs.Tryz.func258).trans (congrArg some (by kernel_rfl))⟩,
  f40:=⟨Go.Proofs.Tryz.f288.name,of_decide_eq_true (by kernel_rfl),(Go.Proofs.Tryz.func288).trans (congrArg some (by kernel_rfl))⟩,
  t0:=Go.Proofs.Tryz.underlying0,
  a0:=Go.Proofs.Tryz.isAgg0,
  z0:=Go.Proofs.Tryz.sizeOf0,
  v0:=Go.Proofs.Tryz.zeroValue0,
  t3:=Go.Proofs.Tryz.underlying3,
  a3:=Go.Proofs.Tryz.isAgg3,
  z3:=Go.Proofs.Tryz.sizeOf3,
  v3:=Go.Proofs.Tryz.zeroValue3,
  t4:=Go.Proofs.Tryz.underlying4,
  a4:=Go.Proofs.Tryz.isAgg4,
  z4:=Go.Proofs.Tryz.sizeOf4,
  v4:=Go.Proofs.Tryz.zeroValue4,
  t5:=Go.Proofs.Tryz.underlying5,
  a5:=Go.Proofs.Tryz.isAgg5,
  z5:=Go.Proofs.Tryz.sizeOf5,
  v5:=Go.Proofs.Tryz.zeroValue5,
  t9:=Go.Proofs.Tryz.underlying9,
  a9:=Go.Proofs.Tryz.isAgg9,
  z9:=Go.Proofs.Tryz.sizeOf9,
  v9:=Go.Proofs.Tryz.zeroValue9,
  t22:=Go.Proofs.Tryz.underlying36,
  a22:=Go.Proofs.Tryz.isAgg36,
  z22:=Go.Proofs.Tryz.sizeOf36,
  v22:=Go.Proofs.Tryz.zeroValue36,
  t23:=Go.Proofs.Tryz.underlying36,
  a23:=Go.Proofs.Tryz.isAgg36,
  z23:=Go.Proofs.Tryz.sizeOf36,
  v23:=Go.Proofs.Tryz.zeroValue36,
  t25:=Go.Proofs.Tryz.underlying3,
  a25:=Go.Proofs.Tryz.isAgg3,
  z25:=Go.Proofs.Tryz.sizeOf3,
  v25:=Go.Proofs.Tryz.zeroValue3,
  t32:=Go.Proofs.Tryz.underlying192,
  a32:=Go.Proofs.Tryz.isAgg192,
  z32:=Go.Proofs.Tryz.sizeOf192,
  v32:=Go.Proofs.Tryz.zeroValue192,
  t35:=Go.Proofs.Tryz.underlying205,
  a35:=Go.Proofs.Tryz.isAgg205,
  z35:=Go.Proofs.Tryz.sizeOf205,
  v35:=Go.Proofs.Tryz.zeroValue205,
  t36:=Go.Proofs.Tryz.underlying206,
  a36:=Go.Proofs.Tryz.isAgg206,
  z36:=Go.Proofs.Tryz.sizeOf206,
  v36:=Go.Proofs.Tryz.zeroValue206,
  t41:=Go.Proofs.Tryz.underlying39,
  a41:=Go.Proofs.Tryz.isAgg39,
  z41:=Go.Proofs.Tryz.sizeOf39,
  v41:=Go.Proofs.Tryz.zeroValue39,
  t44:=Go.Proofs.Tryz.underlying199,
  a44:=Go.Proofs.Tryz.isAgg199,
  z44:=Go.Proofs.Tryz.sizeOf199,
  v44:=Go.Proofs.Tryz.zeroValue199,
  t46:=Go.Proofs.Tryz.underlying94,
  a46:=Go.Proofs.Tryz.isAgg94,
  z46:=Go.Proofs.Tryz.sizeOf94,
  v46:=Go.Proofs.Tryz.zeroValue94,
  t53:=Go.Proofs.Tryz.underlying222,
  a53:=Go.Proofs.Tryz.isAgg222,
  z53:=Go.Proofs.Tryz.sizeOf222,
  v53:=Go.Proofs.Tryz.zeroValue222,
  t57:=Go.Proofs.Tryz.underlying226,
  a57:=Go.Proofs.Tryz.isAgg226,
  z57:=Go.Proofs.Tryz.sizeOf226,
  v57:=Go.Proofs.Tryz.zeroValue226,
  t63:=Go.Proofs.Tryz.underlying230,
  a63:=Go.Proofs.Tryz.isAgg230,
  z63:=Go.Proofs.Tryz.sizeOf230,
  v63:=Go.Proofs.Tryz.zeroValue230,
  t64:=Go.Proofs.Tryz.underlying231,
  a64:=Go.Proofs.Tryz.isAgg231,
  z64:=Go.Proofs.Tryz.sizeOf231,
  v64:=Go.Proofs.Tryz.zeroValue231 }
def layg6_ren:Go.Shelf.Ren:=
{
  f:=fun x=>
    match x with
    | 6=>222
    | 15=>252
    | 14=>253
    | 28=>268
    | 29=>269
    | 20=>270
    | 21=>271
    | 22=>272
    | 23=>273
    | 24=>274
    | 25=>275
    | 26=>276
    | 27=>277
    | 46=>285
    | 47=>281
    | 48=>282
    | 49=>286
    | 50=>287
    | 57=>289
    | n=>n,
  t:=fun x=>
    match x with
    | 22=>27
    | 24=>36
    | 25=>167
    | 3=>3
    | 39=>192
    | 0=>0
    | 53=>199
    | 55=>94
    | 4=>4
    | 46=>206
    | 45=>205
    | 50=>39
    | 5=>5
    | 9=>9
    | 66=>222
    | 70=>226
    | 76=>230
    | 77=>231
    | n=>n,
  g:=fun x=>
    x }
set_option maxRecDepth 1000000 in
theorem layg6:Go.Proofs.SlLaysF.n6 Go.Proofs.Tryz.prog layg6_ren:=
{ mixed:=by kernel_rfl,
  f6:=⟨Go.Proofs.Tryz.f222.name,of_decide_eq_true (by kernel_rfl),(Go.Proofs.Tryz.func222).trans (congrArg some (by kernel_rfl))⟩,
  f14:=⟨Go.Proofs.Tryz.f253.name,of_decide_eq_true (by kernel_rfl),(Go.Proofs.Tryz.func253).trans (congrArg some (by kernel_rfl))⟩,
  f15:=(Go.Proofs.Tryz.func252).trans (congrArg some (by kernel_rfl)),
  f20:=⟨Go.Proofs.Tryz.f270.name,of_decide_eq_true (by kernel_rfl),(Go.Proofs.Tryz.func270).trans (congrArg some (by kernel_rfl))⟩,
  f21:=⟨Go.Proofs.Tryz.f271.name,of_decide_eq_true (by kernel_rfl),(Go.Proofs.Tryz.func271).trans (congrArg some (by kernel_rfl))⟩,
  f22:=⟨Go.Proofs.Tryz.f272.name,of_decide_eq_true (by kernel_rfl),(Go.Proofs.Tryz.func272).trans (congrArg some (by kernel_rfl))⟩,
  f23:=⟨Go.Proofs.Tryz.f273.name,of_decide_eq_true (by kernel_rfl),(Go.Proofs.Tryz.func273).trans (congrArg some (by kernel_rfl))⟩,
  f24:=⟨Go.Proofs.Tryz.f274.name,of_decide_eq_true (by kernel_rfl),(Go.Proofs.Tryz.func274).trans (congrArg some (by kernel_rfl))⟩,
  f25:=⟨Go.Proofs.Tryz.f275.name,of_decide_eq_true (by kernel_rfl),(Go.Proofs.Tryz.func275).trans (congrArg some (by kernel_rfl))⟩,
  f26:=⟨Go.Proofs.Tryz.f276.name,of_decide_eq_true (by kernel_rfl),(Go.Proofs.Tryz.func276).trans (congrArg some (by kernel_rfl))⟩,
  f27:=⟨Go.Proofs.Tryz.f277.name,of_decide_eq_true (by kernel_rfl),(Go.Proofs.Tryz.func277).trans (congrArg some (by kernel_rfl))⟩,
  f28:=(Go.Proofs.Tryz.func268).trans (congrArg some (by kernel_rfl)),
  f29:=(Go.Proofs.Tryz.func269).trans (congrArg some (by kernel_rfl)),
  f46:=⟨Go.Proofs.Tryz.f285.name,of_decide_eq_true (by kernel_rfl),(Go.Proofs.Tryz.func285).trans (congrArg some (by kernel_rfl))⟩,
  f47:=(Go.Proofs.Tryz.func281).trans (congrArg some (by kernel_rfl)),
  f48:=(Go.Proofs.Tryz.func282).trans (congrArg some (by kernel_rfl)),
  f49:=⟨Go.Proofs.Tryz.f286.name,of_decide_eq_true (by kernel_rfl),(Go.Proofs.Tryz.func286).trans (congrArg some (by kernel_rfl))⟩,
  f50:=⟨Go.Proofs.Tryz.f287.name,of_decide_eq_true (by kernel_rfl),(Go.Proofs.Tryz.func287).trans (congrArg some (by kernel_rfl))⟩,
  f57:=⟨Go.Proofs.Tryz.f289.name,of_decide_eq_true (by kernel_rfl),(Go.Proofs.Tryz.func289).trans (congrArg some (by kernel_rfl))⟩,
  t0:=Go.Proofs.Tryz.underlying0,
  a0:=Go.Proofs.Tryz.isAgg0,
  z0:=Go.Proofs.Tryz.sizeOf0,
  v0:=Go.Proofs.Tryz.zeroValue0,
  t3:=Go.Proofs.Tryz.underlying3,
  a3:=Go.Proofs.Tryz.isAgg3,
  z3:=Go.Proofs.Tryz.sizeOf3,
  v3:=Go.Proofs.Tryz.zeroValue3,
  t4:=Go.Proofs.Tryz.underlying4,
  a4:=Go.Proofs.Tryz.isAgg4,
  z4:=Go.Proofs.Tryz.sizeOf4,
  v4:=Go.Proofs.Tryz.zeroValue4,
  t5:=Go.Proofs.Tryz.underlying5,
  a5:=Go.Proofs.Tryz.isAgg5,
  z5:=Go.Proofs.Tryz.sizeOf5,
  v5:=Go.Proofs.Tryz.zeroValue5,
  t9:=Go.Proofs.Tryz.underlying9,
  a9:=Go.Proofs.Tryz.isAgg9,
  z9:=Go.Proofs.Tryz.sizeOf9,
  v9:=Go.Proofs.Tryz.zeroValue9,
  t22:=Go.Proofs.Tryz.underlying27,
  a22:=Go.Proofs.Tryz.isAgg27,
  z22:=Go.Proofs.Tryz.sizeOf27,
  v22:=Go.Proofs.Tryz.zeroValue27,
  a24:=Go.Proofs.Tryz.isAgg36,
  z24:=Go.Proofs.Tryz.sizeOf36,
  t25:=Go.Proofs.Tryz.underlying167,
  a25:=Go.Proofs.Tryz.isAgg167,
  z25:=Go.Proofs.Tryz.sizeOf167,
  v25:=Go.Proofs.Tryz.zeroValue167,
  t39:=Go.Proofs.Tryz.underlying192,
  a39:=Go.Proofs.Tryz.isAgg192,
  z39:=Go.Proofs.Tryz.sizeOf192,
  v39:=Go.Proofs.Tryz.zeroValue192,
  t45:=Go.Proofs.Tryz.underlying205,
  a45:=Go.Proofs.Tryz.isAgg205,
  z45:=Go.Proofs.Tryz.sizeOf205,
  v45:=Go.Proofs.Tryz.zeroValue205,
  t46:=Go.Proofs.Tryz.underlying206,
  a46:=Go.Proofs.Tryz.isAgg206,
  z46:=Go.Proofs.Tryz.sizeOf206,
  v46:=Go.Proofs.Tryz.zeroValue206,
  t50:=Go.Proofs.Tryz.underlying39,
  a50:=Go.Proofs.Tryz.isAgg39,
  z50:=Go.Proofs.Tryz.sizeOf39,
  v50:=Go.Proofs.Tryz.zeroValue39,
  t53:=Go.Proofs.Tryz.underlying199,
  a53:=Go.Proofs.Tryz.isAgg199,
  z53:=Go.Proofs.Tryz.sizeOf199,
  v53:=Go.Proofs.Tryz.zeroValue199,
  t55:=Go.Proofs.Tryz.underlying94,
  a55:=Go.Proofs.Tryz.isAgg94,
  z55:=Go.Proofs.Tryz.sizeOf94,
  v55:=Go.Proofs.Tryz.zeroValue94,
  t66:=Go.Proofs.Tryz.underlying222,
  a66:=Go.Proofs.Tryz.isAgg222,
  z66:=Go.Proofs.Tryz.sizeOf222,
  v66:=Go.Proofs.Tryz.zeroValue222,
  t70:=Go.Proofs.Tryz.underlying226,
  a70:=Go.Proofs.Tryz.isAgg226,
  z70:=Go.Proofs.Tryz.sizeOf226,
  v70:=Go.Proofs.Tryz.zeroValue226,
  t76:=Go.Proofs.Tryz.underlying230,
  a76:=Go.Proofs.Tryz.isAgg230,
  z76:=Go.Proofs.Tryz.sizeOf230,
  v76:=Go.Proofs.Tryz.zeroValue230,
  t77:=Go.Proofs.Tryz.underlying231,
  a77:=Go.Proofs.Tryz.isAgg231,
  z77:=Go.Proofs.Tryz.sizeOf231,
  v77:=Go.Proofs.Tryz.zeroValue231 }
theorem tab:TabOk Tryz.prog (assoc tks) (assoc ars):=tab_of (by kernel_rfl)
theorem mixed:Tryz.prog.follows .mixedOrders=true:=by kernel_rfl
theorem C_q2q:Contract Tryz.prog 222 S_q2q:=
  con_sortF (enters_of Tryz.func222 (by kernel_rfl) rfl) (fun w v1 v2 xs ys h1 h2 l1 l2=>cmpH h1 h2 l1 l2) (fun n enc cf blk off cap w h1 hO hcmp hH hb hs=>Any.slices_SortFunc layg6 enc h1 cf hO 199 #[] blk off cap (idA n) w (enters_of Tryz.func199 (by kernel_rfl) rfl) hcmp hH hb hs) (AnyF.slices_SortFunc_none { layg6 with })
theorem C_q11q:Contract Tryz.prog 221 S_q11q:=
  con_sortI (enters_of Tryz.func221 (by kernel_rfl) rfl) (fun blk off cap zs w h1 h2 h3=>AnyM.slices_Sort_int layg5 blk off cap zs w h1 h2 h3) (fun p cap w=>AnyM.slices_Sort_int_none layg5 p cap w)
theorem C_laws_rBig_raw (N:Nat):Contract Tryz.prog 9 ⟨[(K_Su8,false)],[.bool],true,F_laws_rBig N⟩:=
  have E:Env Tryz.prog Γ_laws_rBig:=env_of tab trivial
  con_of (body:=bodyOf Tryz.f9) (Pc:=[]) E rfl mixed Tryz.func9 (by kernel_rfl) (by kernel_rfl) (by kernel_rfl) (by kernel_rfl) (fun A hA=>trivial) (fun _=>by kernel_rfl)
theorem C_laws_rBig:Contract Tryz.prog 9 S_laws_rBig:=Contract.less (fun N:Nat=>F_laws_rBig N) C_laws_rBig_raw (fun d r h=>⟨0,(F_laws_rBig_tot 0 d).trans h⟩)
theorem C_q35q_raw (N:Nat):Contract Tryz.prog 187 ⟨[(K_BPSu8iu64q,true)],[I],true,F_q35q N⟩:=
  have E:Env Tryz.prog Γ_q35q:=env_of tab trivial
  con_of (body:=bodyOf Tryz.f187) (Pc:=[]) E rfl mixed Tryz.func187 (by kernel_rfl) (by kernel_rfl) (by kernel_rfl) (by kernel_rfl) (fun A hA=>trivial) (fun _=>by kernel_rfl)
theorem C_q35q:Contract Tryz.prog 187 S_q35q:=C_q35q_raw 0
theorem C_q34q_raw (N:Nat):Contract Tryz.prog 91 ⟨[(K_BPSu8iu64q,true),(I,false)],[I],true,F_q34q N⟩:=
  have E:Env Tryz.prog Γ_q34q:=env_of tab ⟨C_q35q,trivial⟩
  con_of (body:=bodyOf Tryz.f91) (Pc:=[]) E rfl mixed Tryz.func91 (by kernel_rfl) (by kernel_rfl) (by kernel_rfl) (by kernel_rfl) (fun A hA=>trivial) (fun _=>by kernel_rfl)
theorem C_q34q:Contract Tryz.prog 91 S_q34q:=C_q34q_raw 0
theorem C_q38q_raw (N:Nat):Contract Tryz.prog 89 ⟨[(K_BPSu8iu64q,true),(I,false)],[.bool],true,F_q38q N⟩:=
  have E:Env Tryz.prog Γ_q38q:=env_of tab ⟨C_q34q,trivial⟩
  con_of (body:=bodyOf Tryz.f89) (Pc:=[]) E rfl mixed Tryz.func89 (by kernel_rfl) (by kernel_rfl) (by kernel_rfl) (by kernel_rfl) (fun A hA=>trivial) (fun _=>by kernel_rfl)
theorem C_q38q:Contract Tryz.prog 89 S_q38q:=C_q38q_raw 0
theorem C_q23q_raw (N:Nat):Contract Tryz.prog 133 ⟨[(K_BPSu8iu64q,true),(K_Si,false)],[I],true,F_q23q N⟩:=
  have E:Env Tryz.prog Γ_q23q:=env_of tab ⟨C_q34q,trivial⟩
  con_of (body:=bodyOf Tryz.f133) (Pc:=[]) E rfl mixed Tryz.func133 (by kernel_rfl) (by kernel_rfl) (by kernel_rfl) (by kernel_rfl) (fun A hA=>trivial) (fun _=>by kernel_rfl)
theorem C_q23q:Contract Tryz.prog 133 S_q23q:=C_q23q_raw 0
theorem C_q54q_raw (N:Nat):Contract Tryz.prog 238 ⟨[(I,false),(I,false)],[I],true,F_q54q N⟩:=
  have E:Env Tryz.prog Γ_q54q:=env_of tab trivial
  con_of (body:=bodyOf Tryz.f238) (Pc:=[]) E rfl mixed Tryz.func238 (by kernel_rfl) (by kernel_rfl) (by kernel_rfl) (by kernel_rfl) (fun A hA=>trivial) (fun _=>by kernel_rfl)
theorem C_q54q:Contract Tryz.prog 238 S_q54q:=Contract.less (fun N:Nat=>F_q54q N) C_q54q_raw (fun d r h=>⟨0,(F_q54q_tot 0 d).trans h⟩)
theorem C_q68q_raw (N:Nat):Contract Tryz.prog 185 ⟨[(I,false)],[K_PiSPiiqq],true,F_q68q N⟩:=
  have E:Env Tryz.prog Γ_q68q:=env_of tab trivial
  con_of (body:=bodyOf Tryz.f185) (Pc:=[(0,⟨q68q_l0_h,q68q_l0_o,q68q_l0 N N⟩)]) E rfl mixed Tryz.func185 (by kernel_rfl) (by kernel_rfl) (by kernel_rfl) (by kernel_rfl) (fun A hA=>⟨pc_of (body:=loopOf Tryz.f185 0) (inner:=[]) E mixed hA (by kernel_rfl) (by kernel_rfl) (by kernel_rfl) trivial (fun _=>rfl) (fun _ _=>by kernel_rfl) N,trivial⟩) (fun _=>by kernel_rfl)
theorem C_q68q:Contract Tryz.prog 185 S_q68q:=Contract.less (fun N:Nat=>F_q68q N) C_q68q_raw pickF_lim
theorem C_q45q_raw (N:Nat):Contract Tryz.prog 200 ⟨[(K_Piiq,false),(K_Piiq,false)],[.bool],true,F_q45q N⟩:=
  have E:Env Tryz.prog Γ_q45q:=env_of tab trivial
  con_of (body:=bodyOf Tryz.f200) (Pc:=[]) E rfl mixed Tryz.func200 (by kernel_rfl) (by kernel_rfl) (by kernel_rfl) (by kernel_rfl) (fun A hA=>trivial) (fun _=>by kernel_rfl)
theorem C_q45q:Contract Tryz.prog 200 S_q45q:=Contract.less (fun N:Nat=>F_q45q N) C_q45q_raw (fun d r h=>⟨0,(F_q45q_tot 0 d).trans h⟩)
theorem C_spec_l2Put_raw (N:Nat):Contract Tryz.prog 186 ⟨[(K_SPiiq,false),(K_Piiq,false)],[K_SPiiq],true,F_spec_l2Put N⟩:=
  have E:Env Tryz.prog Γ_spec_l2Put:=env_of tab ⟨C_q45q,trivial⟩
  con_of (body:=bodyOf Tryz.f186) (Pc:=[(0,⟨spec_l2Put_l0_h,spec_l2Put_l0_o,spec_l2Put_l0 N N⟩)]) E rfl mixed Tryz.func186 (by kernel_rfl) (by kernel_rfl) (by kernel_rfl) (by kernel_rfl) (fun A hA=>⟨pc_of (body:=loopOf Tryz.f186 0) (inner:=[]) E mixed hA (by kernel_rfl) (by kernel_rfl) (by kernel_rfl) trivial (fun _=>rfl) (fun _ _=>by kernel_rfl) N,trivial⟩) (fun _=>by kernel_rfl)
theorem C_spec_l2Put:Contract Tryz.prog 186 S_spec_l2Put:=Contract.less (fun N:Nat=>F_spec_l2Put N) C_spec_l2Put_raw l2Put_lim
theorem C_q55q_raw (N:Nat):Contract Tryz.prog 90 ⟨[(I,false)],[K_PiSPiiqq],true,F_q55q N⟩:=
  have E:Env Tryz.prog Γ_q55q:=env_of tab ⟨C_q68q,⟨C_spec_l2Put,trivial⟩⟩
  con_of (body:=bodyOf Tryz.f90) (Pc:=[]) E rfl mixed Tryz.func90 (by kernel_rfl) (by kernel_rfl) (by kernel_rfl) (by kernel_rfl) (fun A hA=>trivial) (fun _=>by kernel_rfl)
theorem C_q55q:Contract Tryz.prog 90 S_q55q:=C_q55q_raw 0
theorem C_q29q_raw (N:Nat):Contract Tryz.prog 239 ⟨[(I,false)],[K_PiSPiiqq],true,F_q29q N⟩:=
  have E:Env Tryz.prog Γ_q29q:=env_of tab trivial
  con_of (body:=bodyOf Tryz.f239) (Pc:=[(0,⟨q29q_l0_h,q29q_l0_o,q29q_l0 N N⟩)]) E rfl mixed Tryz.func239 (by kernel_rfl) (by kernel_rfl) (by kernel_rfl) (by kernel_rfl) (fun A hA=>⟨pc_of (body:=loopOf Tryz.f239 0) (inner:=[(2,⟨q29q_l2_h,q29q_l2_o,q29q_l2 N N⟩)]) E mixed hA (by kernel_rfl) (by kernel_rfl) (by kernel_rfl) ⟨pc_of (body:=loopOf Tryz.f239 2) (inner:=[]) E mixed hA (by kernel_rfl) (by kernel_rfl) (by kernel_rfl) trivial (fun _=>rfl) (fun _ _=>by kernel_rfl) N,trivial⟩ (fun _=>rfl) (fun _ _=>by kernel_rfl) N,trivial⟩) (fun _=>by kernel_rfl)
theorem C_q29q:Contract Tryz.prog 239 S_q29q:=Contract.less (fun N:Nat=>F_q29q N) C_q29q_raw pickF_lim
theorem C_q69q_raw (N:Nat):Contract Tryz.prog 201 ⟨[(I,false),(I,false)],[I],true,F_q69q N⟩:=
  have E:Env Tryz.prog Γ_q69q:=env_of tab trivial
  con_of (body:=bodyOf Tryz.f201) (Pc:=[]) E rfl mixed Tryz.func201 (by kernel_rfl) (by kernel_rfl) (by kernel_rfl) (by kernel_rfl) (fun A hA=>trivial) (fun _=>by kernel_rfl)
theorem C_q69q:Contract Tryz.prog 201 S_q69q:=Contract.less (fun N:Nat=>F_q69q N) C_q69q_raw (fun d r h=>⟨0,(F_q69q_tot 0 d).trans h⟩)
theorem C_q60q_raw (N:Nat):Contract Tryz.prog 240 ⟨[(K_PiSPiiqq,false),(I,false),(I,false)],[.bool],true,F_q60q N⟩:=
  have E:Env Tryz.prog Γ_q60q:=env_of tab trivial
  con_of (body:=bodyOf Tryz.f240) (Pc:=[(0,⟨q60q_l0_h,q60q_l0_o,q60q_l0 N N⟩)]) E rfl mixed Tryz.func240 (by kernel_rfl) (by kernel_rfl) (by kernel_rfl) (by kernel_rfl) (fun A hA=>⟨pc_of (body:=loopOf Tryz.f240 0) (inner:=[]) E mixed hA (by kernel_rfl) (by kernel_rfl) (by kernel_rfl) trivial (fun _=>rfl) (fun _ _=>by kernel_rfl) N,trivial⟩) (fun _=>by kernel_rfl)
theorem C_q60q:Contract Tryz.prog 240 S_q60q:=Contract.less (fun N:Nat=>F_q60q N) C_q60q_raw l2Near_lim
theorem C_q21q_raw (N:Nat):ContractG Tryz.prog 241 (⟨[(K_BPSu8iu64q,true),(K_PiSPiiqq,true)],[K_PiSPiiqq],true,F_q21q N⟩,{ gone:=[1],deep:=[] }):=
  have E:Env Tryz.prog Γ_q21q:=env_ofG tab ⟨C_q34q,⟨C_q23q,trivial⟩⟩ trivial (fun _ h=>by cases h) trivial (by kernel_rfl)
  con_ofG (body:=bodyOf Tryz.f241) (Pc:=[]) E mixed Tryz.func241 (by kernel_rfl) (by kernel_rfl) (by kernel_rfl) (by kernel_rfl) (fun A hA=>trivial) (fun _=>by kernel_rfl)
theorem C_q21q:ContractG Tryz.prog 241 (S_q21q,{ gone:=[1],deep:=[] }):=C_q21q_raw 0
theorem C_q12q_raw (N:Nat):Contract Tryz.prog 183 ⟨[(K_BPSu8iu64q,true),(I,false)],[K_PiSPiiqq],true,F_q12q N⟩:=
  have E:Env Tryz.prog Γ_q12q:=env_ofG tab ⟨C_q38q,⟨C_q55q,⟨C_q34q,⟨C_q23q,⟨C_q68q,⟨C_spec_l2Put,⟨C_q69q,⟨C_q54q,⟨C_q29q,⟨C_q60q,trivial⟩⟩⟩⟩⟩⟩⟩⟩⟩⟩ trivial (fun _ h=>by cases h) ⟨C_q21q,trivial⟩ (by kernel_rfl)
  con_of (body:=bodyOf Tryz.f183) (Pc:=[(1,⟨q12q_l1_h,q12q_l1_o,q12q_l1 N N⟩)]) E rfl mixed Tryz.func183 (by kernel_rfl) (by kernel_rfl) (by kernel_rfl) (by kernel_rfl) (fun A hA=>⟨pc_of (body:=loopOf Tryz.f183 1) (inner:=[(3,⟨q12q_l3_h,q12q_l3_o,q12q_l3 N N⟩)]) E mixed hA (by kernel_rfl) (by kernel_rfl) (by kernel_rfl) ⟨pc_of (body:=loopOf Tryz.f183 3) (inner:=[]) E mixed hA (by kernel_rfl) (by kernel_rfl) (by kernel_rfl) trivial (fun _=>rfl) (fun _ _=>by kernel_rfl) N,trivial⟩ (fun _=>rfl) (fun _ _=>by kernel_rfl) N,trivial⟩) (fun _=>by kernel_rfl)
theorem C_q12q:Contract Tryz.prog 183 S_q12q:=Contract.less (fun N:Nat=>F_q12q N) C_q12q_raw pickF_lim
theorem C_q13q_raw (N:Nat):Contract Tryz.prog 182 ⟨[(K_BPSu8iu64q,true)],[K_PiSPiiqq],true,F_q13q N⟩:=
  have E:Env Tryz.prog Γ_q13q:=env_of tab ⟨C_q12q,trivial⟩
  con_of (body:=bodyOf Tryz.f182) (Pc:=[]) E rfl mixed Tryz.func182 (by kernel_rfl) (by kernel_rfl) (by kernel_rfl) (by kernel_rfl) (fun A hA=>trivial) (fun _=>by kernel_rfl)
theorem C_q13q:Contract Tryz.prog 182 S_q13q:=C_q13q_raw 0
theorem C_q33q_raw (N:Nat):Contract Tryz.prog 184 ⟨[(K_BPSu8iu64q,true)],[I],true,F_q33q N⟩:=
  have E:Env Tryz.prog Γ_q33q:=env_of tab ⟨C_q38q,⟨C_q23q,trivial⟩⟩
  con_of (body:=bodyOf Tryz.f184) (Pc:=[]) E rfl mixed Tryz.func184 (by kernel_rfl) (by kernel_rfl) (by kernel_rfl) (by kernel_rfl) (fun A hA=>trivial) (fun _=>by kernel_rfl)
theorem C_q33q:Contract Tryz.prog 184 S_q33q:=C_q33q_raw 0
theorem C_q26q_raw (N:Nat):Contract Tryz.prog 88 ⟨[(K_BPSu8iu64q,true)],[K_PiSPiiqq,I],true,F_q26q N⟩:=
  have E:Env Tryz.prog Γ_q26q:=env_of tab ⟨C_q38q,⟨C_q13q,⟨C_q12q,⟨C_q33q,trivial⟩⟩⟩⟩
  con_of (body:=bodyOf Tryz.f88) (Pc:=[]) E rfl mixed Tryz.func88 (by kernel_rfl) (by kernel_rfl) (by kernel_rfl) (by kernel_rfl) (fun A hA=>trivial) (fun _=>by kernel_rfl)
theorem C_q26q:Contract Tryz.prog 88 S_q26q:=C_q26q_raw 0
theorem C_spec_l1In_raw (N:Nat):Contract Tryz.prog 148 ⟨[(I,false),(I,false),(I,false)],[.bool],true,F_spec_l1In N⟩:=
  have E:Env Tryz.prog Γ_spec_l1In:=env_of tab trivial
  con_of (body:=bodyOf Tryz.f148) (Pc:=[]) E rfl mixed Tryz.func148 (by kernel_rfl) (by kernel_rfl) (by kernel_rfl) (by kernel_rfl) (fun A hA=>trivial) (fun _=>by kernel_rfl)
theorem C_spec_l1In:Contract Tryz.prog 148 S_spec_l1In:=Contract.less (fun N:Nat=>F_spec_l1In N) C_spec_l1In_raw (fun d r h=>⟨0,(F_spec_l1In_tot 0 d).trans h⟩)
theorem C_q70q_raw (N:Nat):Contract Tryz.prog 115 ⟨[(K_PiSPiiqq,false)],[.bool],true,F_q70q N⟩:=
  have E:Env Tryz.prog Γ_q70q:=env_of tab ⟨C_spec_l1In,⟨C_q45q,trivial⟩⟩
  con_of (body:=bodyOf Tryz.f115) (Pc:=[(0,⟨q70q_l0_h,q70q_l0_o,q70q_l0 N N⟩)]) E rfl mixed Tryz.func115 (by kernel_rfl) (by kernel_rfl) (by kernel_rfl) (by kernel_rfl) (fun A hA=>⟨pc_of (body:=loopOf Tryz.f115 0) (inner:=[]) E mixed hA (by kernel_rfl) (by kernel_rfl) (by kernel_rfl) trivial (fun _=>rfl) (fun _ _=>by kernel_rfl) N,trivial⟩) (fun _=>by kernel_rfl)
theorem C_q70q:Contract Tryz.prog 115 S_q70q:=Contract.less (fun N:Nat=>F_q70q N) C_q70q_raw l2Good_lim
theorem C_q53q_raw (N:Nat):Contract Tryz.prog 98 ⟨[(K_PiSPiiqq,false),(I,false)],[.bool],true,F_q53q N⟩:=
  have E:Env Tryz.prog Γ_q53q:=env_of tab ⟨C_q70q,⟨C_spec_l1In,trivial⟩⟩
  con_of (body:=bodyOf Tryz.f98) (Pc:=[]) E rfl mixed Tryz.func98 (by kernel_rfl) (by kernel_rfl) (by kernel_rfl) (by kernel_rfl) (fun A hA=>trivial) (fun _=>by kernel_rfl)
theorem C_q53q:Contract Tryz.prog 98 S_q53q:=C_q53q_raw 0
theorem C_spec_l1Own_raw (N:Nat):Contract Tryz.prog 151 ⟨[(K_Si,false)],[K_Si],true,F_spec_l1Own N⟩:=
  have E:Env Tryz.prog Γ_spec_l1Own:=env_of tab trivial
  con_of (body:=bodyOf Tryz.f151) (Pc:=[]) E rfl mixed Tryz.func151 (by kernel_rfl) (by kernel_rfl) (by kernel_rfl) (by kernel_rfl) (fun A hA=>trivial) (fun _=>by kernel_rfl)
theorem C_spec_l1Own:Contract Tryz.prog 151 S_spec_l1Own:=C_spec_l1Own_raw 0
theorem C_q36q_raw (N:Nat):Contract Tryz.prog 159 ⟨[(I,false),(I,false)],[K_SSi],true,F_q36q N⟩:=
  have E:Env Tryz.prog Γ_q36q:=env_of tab ⟨C_spec_l1Own,trivial⟩
  con_of (body:=bodyOf Tryz.f159) (Pc:=[(0,⟨q36q_l0_h,q36q_l0_o,q36q_l0 N N⟩)]) E rfl mixed Tryz.func159 (by kernel_rfl) (by kernel_rfl) (by kernel_rfl) (by kernel_rfl) (fun A hA=>⟨pc_of (body:=loopOf Tryz.f159 0) (inner:=[(2,⟨q36q_l2_h,q36q_l2_o,q36q_l2 N N⟩)]) E mixed hA (by kernel_rfl) (by kernel_rfl) (by kernel_rfl) ⟨pc_of (body:=loopOf Tryz.f159 2) (inner:=[(4,⟨q36q_l4_h,q36q_l4_o,q36q_l4 N N⟩)]) E mixed hA (by kernel_rfl) (by kernel_rfl) (by kernel_rfl) ⟨pc_of (body:=loopOf Tryz.f159 4) (inner:=[]) E mixed hA (by kernel_rfl) (by kernel_rfl) (by kernel_rfl) trivial (fun _=>rfl) (fun _ _=>by kernel_rfl) N,trivial⟩ (fun _=>rfl) (fun _ _=>by kernel_rfl) N,trivial⟩ (fun _=>rfl) (fun _ _=>by kernel_rfl) N,trivial⟩) (fun _=>by kernel_rfl)
theorem C_q36q:Contract Tryz.prog 159 S_q36q:=Contract.less (fun N:Nat=>F_q36q N) C_q36q_raw l4Configs_lim
theorem C_q24q_raw (N:Nat):Contract Tryz.prog 208 ⟨[(K_PiSPiiqq,false),(I,false)],[K_Si],true,F_q24q N⟩:=
  have E:Env Tryz.prog Γ_q24q:=env_of tab ⟨C_q60q,trivial⟩
  con_of (body:=bodyOf Tryz.f208) (Pc:=[(0,⟨q24q_l0_h,q24q_l0_o,q24q_l0 N N⟩)]) E rfl mixed Tryz.func208 (by kernel_rfl) (by kernel_rfl) (by kernel_rfl) (by kernel_rfl) (fun A hA=>⟨pc_of (body:=loopOf Tryz.f208 0) (inner:=[]) E mixed hA (by kernel_rfl) (by kernel_rfl) (by kernel_rfl) trivial (fun _=>rfl) (fun _ _=>by kernel_rfl) N,trivial⟩) (fun _=>by kernel_rfl)
theorem C_q24q:Contract Tryz.prog 208 S_q24q:=Contract.less (fun N:Nat=>F_q24q N) C_q24q_raw l2Neighbors_lim
theorem C_spec_l1Put_raw (N:Nat):Contract Tryz.prog 92 ⟨[(K_Si,false),(I,false)],[K_Si],false,F_spec_l1Put N⟩:=
  have E:Env Tryz.prog Γ_spec_l1Put:=env_of tab trivial
  con_of (body:=bodyOf Tryz.f92) (Pc:=[(0,⟨spec_l1Put_l0_h,spec_l1Put_l0_o,spec_l1Put_l0 N N⟩)]) E rfl mixed Tryz.func92 (by kernel_rfl) (by kernel_rfl) (by kernel_rfl) (by kernel_rfl) (fun A hA=>⟨pc_of (body:=loopOf Tryz.f92 0) (inner:=[]) E mixed hA (by kernel_rfl) (by kernel_rfl) (by kernel_rfl) trivial (fun _=>rfl) (fun _ _=>by kernel_rfl) N,trivial⟩) (fun _=>by kernel_rfl)
theorem C_spec_l1Put:Contract Tryz.prog 92 S_spec_l1Put:=Contract.less (fun N:Nat=>F_spec_l1Put N) C_spec_l1Put_raw l1Put_lim
theorem C_q65q_raw (N:Nat):Contract Tryz.prog 124 ⟨[(K_PiSPiiqq,false),(I,false)],[K_Si],false,F_q65q N⟩:=
  have E:Env Tryz.prog Γ_q65q:=env_of tab ⟨C_spec_l1Put,⟨C_q24q,trivial⟩⟩
  con_of (body:=bodyOf Tryz.f124) (Pc:=[]) E rfl mixed Tryz.func124 (by kernel_rfl) (by kernel_rfl) (by kernel_rfl) (by kernel_rfl) (fun A hA=>trivial) (fun _=>by kernel_rfl)
theorem C_q65q:Contract Tryz.prog 124 S_q65q:=C_q65q_raw 0
theorem C_q52q_raw (N:Nat):Contract Tryz.prog 225 ⟨[(K_Si,false)],[K_Si],false,F_q52q N⟩:=
  have E:Env Tryz.prog Γ_q52q:=env_ofV tab trivial trivial (fun _ h=>by cases h)
  con_of (body:=bodyOf Tryz.f225) (Pc:=[(0,⟨q52q_l0_h,q52q_l0_o,q52q_l0 N N⟩)]) E rfl mixed Tryz.func225 (by kernel_rfl) (by kernel_rfl) (by kernel_rfl) (by kernel_rfl) (fun A hA=>⟨pc_of (body:=loopOf Tryz.f225 0) (inner:=[(2,⟨q52q_l2_h,q52q_l2_o,q52q_l2 N N⟩)]) E mixed hA (by kernel_rfl) (by kernel_rfl) (by kernel_rfl) ⟨pc_of (body:=loopOf Tryz.f225 2) (inner:=[]) E mixed hA (by kernel_rfl) (by kernel_rfl) (by kernel_rfl) trivial (fun _=>rfl) (fun _ _=>by kernel_rfl) N,trivial⟩ (fun _=>rfl) (fun _ _=>by kernel_rfl) N,trivial⟩) (fun _=>by kernel_rfl)
theorem C_q52q:Contract Tryz.prog 225 S_q52q:=Contract.less (fun N:Nat=>F_q52q N) C_q52q_raw l4Sorted_lim
theorem C_q61q_raw (N:Nat):Contract Tryz.prog 254 ⟨[(K_Si,false),(K_Si,false)],[.bool],true,F_q61q N⟩:=
  have E:Env Tryz.prog Γ_q61q:=env_of tab trivial
  con_of (body:=bodyOf Tryz.f254) (Pc:=[(0,⟨q61q_l0_h,q61q_l0_o,q61q_l0 N N⟩)]) E rfl mixed Tryz.func254 (by kernel_rfl) (by kernel_rfl) (by kernel_rfl) (by kernel_rfl) (fun A hA=>⟨pc_of (body:=loopOf Tryz.f254 0) (inner:=[]) E mixed hA (by kernel_rfl) (by kernel_rfl) (by kernel_rfl) trivial (fun _=>rfl) (fun _ _=>by kernel_rfl) N,trivial⟩) (fun _=>by kernel_rfl)
theorem C_q61q:Contract Tryz.prog 254 S_q61q:=Contract.less (fun N:Nat=>F_q61q N) C_q61q_raw l4Less_lim
theorem C_q63q_raw (N:Nat):Contract Tryz.prog 220 ⟨[(K_Si,false),(K_Si,false)],[.bool],true,F_q63q N⟩:=
  have E:Env Tryz.prog Γ_q63q:=env_of tab trivial
  con_of (body:=bodyOf Tryz.f220) (Pc:=[(0,⟨q63q_l0_h,q63q_l0_o,q63q_l0 N N⟩)]) E rfl mixed Tryz.func220 (by kernel_rfl) (by kernel_rfl) (by kernel_rfl) (by kernel_rfl) (fun A hA=>⟨pc_of (body:=loopOf Tryz.f220 0) (inner:=[]) E mixed hA (by kernel_rfl) (by kernel_rfl) (by kernel_rfl) trivial (fun _=>rfl) (fun _ _=>by kernel_rfl) N,trivial⟩) (fun _=>by kernel_rfl)
theorem C_q63q:Contract Tryz.prog 220 S_q63q:=Contract.less (fun N:Nat=>F_q63q N) C_q63q_raw l1Same_lim
theorem C_spec_l4Put_raw (N:Nat):Contract Tryz.prog 224 ⟨[(K_SSi,false),(K_Si,false)],[K_SSi],false,F_spec_l4Put N⟩:=
  have E:Env Tryz.prog Γ_spec_l4Put:=env_of tab ⟨C_q63q,⟨C_q61q,trivial⟩⟩
  con_of (body:=bodyOf Tryz.f224) (Pc:=[(0,⟨spec_l4Put_l0_h,spec_l4Put_l0_o,spec_l4Put_l0 N N⟩)]) E rfl mixed Tryz.func224 (by kernel_rfl) (by kernel_rfl) (by kernel_rfl) (by kernel_rfl) (fun A hA=>⟨pc_of (body:=loopOf Tryz.f224 0) (inner:=[]) E mixed hA (by kernel_rfl) (by kernel_rfl) (by kernel_rfl) trivial (fun _=>rfl) (fun _ _=>by kernel_rfl) N,trivial⟩) (fun _=>by kernel_rfl)
theorem C_spec_l4Put:Contract Tryz.prog 224 S_spec_l4Put:=Contract.less (fun N:Nat=>F_spec_l4Put N) C_spec_l4Put_raw l4Put_lim
theorem C_q57q_raw (N:Nat):Contract Tryz.prog 155 ⟨[(K_PiSPiiqq,false),(K_Si,false)],[K_SSi],false,F_q57q N⟩:=
  have E:Env Tryz.prog Γ_q57q:=env_ofV tab ⟨C_q65q,⟨C_spec_l1Own,⟨C_spec_l4Put,⟨C_q52q,trivial⟩⟩⟩⟩ trivial (fun _ h=>by cases h)
  con_of (body:=bodyOf Tryz.f155) (Pc:=[(0,⟨q57q_l0_h,q57q_l0_o,q57q_l0 N N⟩),(6,⟨q57q_l6_h,q57q_l6_o,q57q_l6 N N⟩)]) E rfl mixed Tryz.func155 (by kernel_rfl) (by kernel_rfl) (by kernel_rfl) (by kernel_rfl) (fun A hA=>⟨pc_of (body:=loopOf Tryz.f155 0) (inner:=[(2,⟨q57q_l2_h,q57q_l2_o,q57q_l2 N N⟩)]) E mixed hA (by kernel_rfl) (by kernel_rfl) (by kernel_rfl) ⟨pc_of (body:=loopOf Tryz.f155 2) (inner:=[(4,⟨q57q_l4_h,q57q_l4_o,q57q_l4 N N⟩)]) E mixed hA (by kernel_rfl) (by kernel_rfl) (by kernel_rfl) ⟨pc_of (body:=loopOf Tryz.f155 4) (inner:=[]) E mixed hA (by kernel_rfl) (by kernel_rfl) (by kernel_rfl) trivial (fun _=>rfl) (fun _ _=>by kernel_rfl) N,trivial⟩ (fun _=>rfl) (fun _ _=>by kernel_rfl) N,trivial⟩ (fun _=>rfl) (fun _ _=>by kernel_rfl) N,⟨pc_of (body:=loopOf Tryz.f155 6) (inner:=[]) E mixed hA (by kernel_rfl) (by kernel_rfl) (by kernel_rfl) trivial (fun _=>rfl) (fun _ _=>by kernel_rfl) N,trivial⟩⟩) (fun _=>by kernel_rfl)
theorem C_q57q:Contract Tryz.prog 155 S_q57q:=Contract.less (fun N:Nat=>F_q57q N) C_q57q_raw l4Moves_lim
theorem C_spec_l4At_raw (N:Nat):Contract Tryz.prog 149 ⟨[(K_SSi,false),(K_Si,false)],[I],true,F_spec_l4At N⟩:=
  have E:Env Tryz.prog Γ_spec_l4At:=env_of tab ⟨C_q63q,trivial⟩
  con_of (body:=bodyOf Tryz.f149) (Pc:=[(0,⟨spec_l4At_l0_h,spec_l4At_l0_o,spec_l4At_l0 N N⟩)]) E rfl mixed Tryz.func149 (by kernel_rfl) (by kernel_rfl) (by kernel_rfl) (by kernel_rfl) (fun A hA=>⟨pc_of (body:=loopOf Tryz.f149 0) (inner:=[]) E mixed hA (by kernel_rfl) (by kernel_rfl) (by kernel_rfl) trivial (fun _=>rfl) (fun _ _=>by kernel_rfl) N,trivial⟩) (fun _=>by kernel_rfl)
theorem C_spec_l4At:Contract Tryz.prog 149 S_spec_l4At:=Contract.less (fun N:Nat=>F_spec_l4At N) C_spec_l4At_raw l4At_lim
theorem C_q64q_raw (N:Nat):Contract Tryz.prog 99 ⟨[(K_PiSPiiqq,false),(I,false)],[K_PZSiSSiSSiq],false,F_q64q N⟩:=
  have E:Env Tryz.prog Γ_q64q:=env_ofG tab ⟨C_q65q,⟨C_spec_l4At,⟨C_q57q,⟨C_q36q,trivial⟩⟩⟩⟩ trivial (fun _ h=>by cases h) trivial (by kernel_rfl)
  con_of (body:=bodyOf Tryz.f99) (Pc:=[(0,⟨q64q_l0_h,q64q_l0_o,q64q_l0 N N⟩),(4,⟨q64q_l4_h,q64q_l4_o,q64q_l4 N N⟩)]) E rfl mixed Tryz.func99 (by kernel_rfl) (by kernel_rfl) (by kernel_rfl) (by kernel_rfl) (fun A hA=>⟨pc_of (body:=loopOf Tryz.f99 0) (inner:=[(2,⟨q64q_l2_h,q64q_l2_o,q64q_l2 N N⟩)]) E mixed hA (by kernel_rfl) (by kernel_rfl) (by kernel_rfl) ⟨pc_of (body:=loopOf Tryz.f99 2) (inner:=[]) E mixed hA (by kernel_rfl) (by kernel_rfl) (by kernel_rfl) trivial (fun _=>rfl) (fun _ _=>by kernel_rfl) N,trivial⟩ (fun _=>rfl) (fun _ _=>by kernel_rfl) N,⟨pc_of (body:=loopOf Tryz.f99 4) (inner:=[]) E mixed hA (by kernel_rfl) (by kernel_rfl) (by kernel_rfl) trivial (fun _=>rfl) (fun _ _=>by kernel_rfl) N,trivial⟩⟩) (fun _=>by kernel_rfl)
theorem C_q64q:Contract Tryz.prog 99 S_q64q:=Contract.less (fun N:Nat=>F_q64q N) C_q64q_raw l4Make_lim
theorem C_spec_l1Has_raw (N:Nat):Contract Tryz.prog 101 ⟨[(K_Si,false),(I,false)],[.bool],true,F_spec_l1Has N⟩:=
  have E:Env Tryz.prog Γ_spec_l1Has:=env_of tab trivial
  con_of (body:=bodyOf Tryz.f101) (Pc:=[(0,⟨spec_l1Has_l0_h,spec_l1Has_l0_o,spec_l1Has_l0 N N⟩)]) E rfl mixed Tryz.func101 (by kernel_rfl) (by kernel_rfl) (by kernel_rfl) (by kernel_rfl) (fun A hA=>⟨pc_of (body:=loopOf Tryz.f101 0) (inner:=[]) E mixed hA (by kernel_rfl) (by kernel_rfl) (by kernel_rfl) trivial (fun _=>rfl) (fun _ _=>by kernel_rfl) N,trivial⟩) (fun _=>by kernel_rfl)
theorem C_spec_l1Has:Contract Tryz.prog 101 S_spec_l1Has:=Contract.less (fun N:Nat=>F_spec_l1Has N) C_spec_l1Has_raw l1Has_lim
theorem C_q56q_raw (N:Nat):Contract Tryz.prog 217 ⟨[(K_PZSiSSiSSiq,false),(K_SSi,false),(I,false),(I,false)],[I],true,F_q56q N⟩:=
  have E:Env Tryz.prog Γ_q56q:=env_of tab ⟨C_spec_l1Has,⟨C_q69q,trivial⟩⟩
  con_of (body:=bodyOf Tryz.f217) (Pc:=[(0,⟨q56q_l0_h,q56q_l0_o,q56q_l0 N N⟩)]) E rfl mixed Tryz.func217 (by kernel_rfl) (by kernel_rfl) (by kernel_rfl) (by kernel_rfl) (fun A hA=>⟨pc_of (body:=loopOf Tryz.f217 0) (inner:=[]) E mixed hA (by kernel_rfl) (by kernel_rfl) (by kernel_rfl) trivial (fun _=>rfl) (fun _ _=>by kernel_rfl) N,trivial⟩) (fun _=>by kernel_rfl)
theorem C_q56q:Contract Tryz.prog 217 S_q56q:=Contract.less (fun N:Nat=>F_q56q N) C_q56q_raw l4After_lim
theorem C_q58q_raw (N:Nat):Contract Tryz.prog 138 ⟨[(K_PZSiSSiSSiq,false)],[K_SSi],true,F_q58q N⟩:=
  have E:Env Tryz.prog Γ_q58q:=env_of tab ⟨C_spec_l1Has,⟨C_spec_l1Own,⟨C_q56q,trivial⟩⟩⟩
  con_of (body:=bodyOf Tryz.f138) (Pc:=[(0,⟨q58q_l0_h,q58q_l0_o,q58q_l0 N N⟩),(4,⟨q58q_l4_h,q58q_l4_o,q58q_l4 N N⟩)]) E rfl mixed Tryz.func138 (by kernel_rfl) (by kernel_rfl) (by kernel_rfl) (by kernel_rfl) (fun A hA=>⟨pc_of (body:=loopOf Tryz.f138 0) (inner:=[(2,⟨q58q_l2_h,q58q_l2_o,q58q_l2 N N⟩)]) E mixed hA (by kernel_rfl) (by kernel_rfl) (by kernel_rfl) ⟨pc_of (body:=loopOf Tryz.f138 2) (inner:=[]) E mixed hA (by kernel_rfl) (by kernel_rfl) (by kernel_rfl) trivial (fun _=>rfl) (fun _ _=>by kernel_rfl) N,trivial⟩ (fun _=>rfl) (fun _ _=>by kernel_rfl) N,⟨pc_of (body:=loopOf Tryz.f138 4) (inner:=[(6,⟨q58q_l6_h,q58q_l6_o,q58q_l6 N N⟩)]) E mixed hA (by kernel_rfl) (by kernel_rfl) (by kernel_rfl) ⟨pc_of (body:=loopOf Tryz.f138 6) (inner:=[(8,⟨q58q_l8_h,q58q_l8_o,q58q_l8 N N⟩)]) E mixed hA (by kernel_rfl) (by kernel_rfl) (by kernel_rfl) ⟨pc_of (body:=loopOf Tryz.f138 8) (inner:=[(10,⟨q58q_l10_h,q58q_l10_o,q58q_l10 N N⟩)]) E mixed hA (by kernel_rfl) (by kernel_rfl) (by kernel_rfl) ⟨pc_of (body:=loopOf Tryz.f138 10) (inner:=[]) E mixed hA (by kernel_rfl) (by kernel_rfl) (by kernel_rfl) trivial (fun _=>rfl) (fun _ _=>by kernel_rfl) N,trivial⟩ (fun _=>rfl) (fun _ _=>by kernel_rfl) N,trivial⟩ (fun _=>rfl) (fun _ _=>by kernel_rfl) N,trivial⟩ (fun _=>rfl) (fun _ _=>by kernel_rfl) N,trivial⟩⟩) (fun _=>by kernel_rfl)
theorem C_q58q:Contract Tryz.prog 138 S_q58q:=Contract.less (fun N:Nat=>F_q58q N) C_q58q_raw l4Times_lim
theorem C_q66q_raw (N:Nat):Contract Tryz.prog 139 ⟨[(K_SSi,false)],[K_SSi],true,F_q66q N⟩:=
  have E:Env Tryz.prog Γ_q66q:=env_of tab trivial
  con_of (body:=bodyOf Tryz.f139) (Pc:=[(0,⟨q66q_l0_h,q66q_l0_o,q66q_l0 N N⟩)]) E rfl mixed Tryz.func139 (by kernel_rfl) (by kernel_rfl) (by kernel_rfl) (by kernel_rfl) (fun A hA=>⟨pc_of (body:=loopOf Tryz.f139 0) (inner:=[(2,⟨q66q_l2_h,q66q_l2_o,q66q_l2 N N⟩)]) E mixed hA (by kernel_rfl) (by kernel_rfl) (by kernel_rfl) ⟨pc_of (body:=loopOf Tryz.f139 2) (inner:=[]) E mixed hA (by kernel_rfl) (by kernel_rfl) (by kernel_rfl) trivial (fun _=>rfl) (fun _ _=>by kernel_rfl) N,trivial⟩ (fun _=>rfl) (fun _ _=>by kernel_rfl) N,trivial⟩) (fun _=>by kernel_rfl)
theorem C_q66q:Contract Tryz.prog 139 S_q66q:=Contract.less (fun N:Nat=>F_q66q N) C_q66q_raw l4Safe_lim
theorem C_q46q_raw (N:Nat):Contract Tryz.prog 54 ⟨[(K_PiSPiiqq,false),(I,false)],[K_SSi,.bool],true,F_q46q N⟩:=
  have E:Env Tryz.prog Γ_q46q:=env_of tab ⟨C_q53q,⟨C_q64q,⟨C_q58q,⟨C_q66q,trivial⟩⟩⟩⟩
  con_of (body:=bodyOf Tryz.f54) (Pc:=[]) E rfl mixed Tryz.func54 (by kernel_rfl) (by kernel_rfl) (by kernel_rfl) (by kernel_rfl) (fun A hA=>trivial) (fun _=>by kernel_rfl)
theorem C_q46q:Contract Tryz.prog 54 S_q46q:=C_q46q_raw 0
theorem C_q30q_raw (N:Nat):Contract Tryz.prog 93 ⟨[(K_BPSu8iu64q,true),(K_PiSPiiqq,false)],[I],true,F_q30q N⟩:=
  have E:Env Tryz.prog Γ_q30q:=env_of tab ⟨C_q38q,⟨C_q34q,⟨C_q23q,trivial⟩⟩⟩
  con_of (body:=bodyOf Tryz.f93) (Pc:=[]) E rfl mixed Tryz.func93 (by kernel_rfl) (by kernel_rfl) (by kernel_rfl) (by kernel_rfl) (fun A hA=>trivial) (fun _=>by kernel_rfl)
theorem C_q30q:Contract Tryz.prog 93 S_q30q:=C_q30q_raw 0
theorem C_q16q_raw (N:Nat):Contract Tryz.prog 10 ⟨[(K_Su8,false)],[K_PiSPiiqq,I,K_SSi],false,F_q16q N⟩:=
  have E:Env Tryz.prog Γ_q16q:=env_ofG tab ⟨C_q46q,⟨C_q26q,⟨C_q38q,⟨C_q55q,⟨C_q34q,⟨C_spec_l1Put,⟨C_q30q,trivial⟩⟩⟩⟩⟩⟩⟩ trivial (fun _ h=>by cases h) trivial (by kernel_rfl)
  con_of (body:=bodyOf Tryz.f10) (Pc:=[]) E rfl mixed Tryz.func10 (by kernel_rfl) (by kernel_rfl) (by kernel_rfl) (by kernel_rfl) (fun A hA=>trivial) (fun _=>by kernel_rfl)
theorem C_q16q:Contract Tryz.prog 10 S_q16q:=Contract.less (fun N:Nat=>F_q16q N) C_q16q_raw pickF_lim
theorem C_q67q_raw (N:Nat):Contract Tryz.prog 143 ⟨[(I,false),(I,false),(I,false)],[.bool],true,F_q67q N⟩:=
  have E:Env Tryz.prog Γ_q67q:=env_of tab trivial
  con_of (body:=bodyOf Tryz.f143) (Pc:=[]) E rfl mixed Tryz.func143 (by kernel_rfl) (by kernel_rfl) (by kernel_rfl) (by kernel_rfl) (fun A hA=>trivial) (fun _=>by kernel_rfl)
theorem C_q67q:Contract Tryz.prog 143 S_q67q:=Contract.less (fun N:Nat=>F_q67q N) C_q67q_raw (fun d r h=>⟨0,(F_q67q_tot 0 d).trans h⟩)
theorem C_q44q_raw (N:Nat):Contract Tryz.prog 258 ⟨[(I,false)],[.bool],true,F_q44q N⟩:=
  have E:Env Tryz.prog Γ_q44q:=env_of tab trivial
  con_of (body:=bodyOf Tryz.f258) (Pc:=[]) E rfl mixed Tryz.func258 (by kernel_rfl) (by kernel_rfl) (by kernel_rfl) (by kernel_rfl) (fun A hA=>trivial) (fun _=>by kernel_rfl)
theorem C_q44q:Contract Tryz.prog 258 S_q44q:=Contract.less (fun N:Nat=>F_q44q N) C_q44q_raw (fun d r h=>⟨0,(F_q44q_tot 0 d).trans h⟩)
theorem C_q32q_raw (N:Nat):Contract Tryz.prog 246 ⟨[(I,false),(I,false)],[I],true,F_q32q N⟩:=
  have E:Env Tryz.prog Γ_q32q:=env_of tab ⟨C_q44q,trivial⟩
  con_of (body:=bodyOf Tryz.f246) (Pc:=[]) E rfl mixed Tryz.func246 (by kernel_rfl) (by kernel_rfl) (by kernel_rfl) (by kernel_rfl) (fun A hA=>trivial) (fun _=>by kernel_rfl)
theorem C_q32q:Contract Tryz.prog 246 S_q32q:=Contract.less (fun N:Nat=>F_q32q N) C_q32q_raw (fun d r h=>⟨0,(F_q32q_tot 0 d).trans h⟩)
theorem C_q6q_raw (N:Nat):Contract Tryz.prog 199 ⟨[(K_Si,false),(K_Si,false)],[I],true,F_q6q N⟩:=
  have E:Env Tryz.prog Γ_q6q:=env_of tab ⟨C_q32q,trivial⟩
  con_of (body:=bodyOf Tryz.f199) (Pc:=[(0,⟨q6q_l0_h,q6q_l0_o,q6q_l0 N N⟩)]) E rfl mixed Tryz.func199 (by kernel_rfl) (by kernel_rfl) (by kernel_rfl) (by kernel_rfl) (fun A hA=>⟨pc_of (body:=loopOf Tryz.f199 0) (inner:=[]) E mixed hA (by kernel_rfl) (by kernel_rfl) (by kernel_rfl) trivial (fun _=>rfl) (fun _ _=>by kernel_rfl) N,trivial⟩) (fun _=>by kernel_rfl)
theorem C_q6q:Contract Tryz.prog 199 S_q6q:=Contract.less (fun N:Nat=>F_q6q N) C_q6q_raw compare_lim
theorem C_q59q_raw (N:Nat):Contract Tryz.prog 114 ⟨[(K_PiSPiiqq,false)],[.bool],true,F_q59q N⟩:=
  have E:Env Tryz.prog Γ_q59q:=env_of tab ⟨C_q67q,⟨C_q6q,trivial⟩⟩
  con_of (body:=bodyOf Tryz.f114) (Pc:=[(0,⟨q59q_l0_h,q59q_l0_o,q59q_l0 N N⟩)]) E rfl mixed Tryz.func114 (by kernel_rfl) (by kernel_rfl) (by kernel_rfl) (by kernel_rfl) (fun A hA=>⟨pc_of (body:=loopOf Tryz.f114 0) (inner:=[]) E mixed hA (by kernel_rfl) (by kernel_rfl) (by kernel_rfl) trivial (fun _=>rfl) (fun _ _=>by kernel_rfl) N,trivial⟩) (fun _=>by kernel_rfl)
theorem C_q59q:Contract Tryz.prog 114 S_q59q:=Contract.less (fun N:Nat=>F_q59q N) C_q59q_raw IsGraph_lim
theorem C_q39q_raw (N:Nat):Contract Tryz.prog 94 ⟨[(K_PiSPiiqq,false),(I,false)],[.bool],true,F_q39q N⟩:=
  have E:Env Tryz.prog Γ_q39q:=env_of tab ⟨C_q59q,⟨C_q67q,trivial⟩⟩
  con_of (body:=bodyOf Tryz.f94) (Pc:=[]) E rfl mixed Tryz.func94 (by kernel_rfl) (by kernel_rfl) (by kernel_rfl) (by kernel_rfl) (fun A hA=>trivial) (fun _=>by kernel_rfl)
theorem C_q39q:Contract Tryz.prog 94 S_q39q:=C_q39q_raw 0
theorem C_impl_netOf_raw (N:Nat):Contract Tryz.prog 95 ⟨[(K_PiSPiiqq,false)],[K_PSiq],true,F_impl_netOf N⟩:=
  have E:Env Tryz.prog Γ_impl_netOf:=env_of tab trivial
  con_of (body:=bodyOf Tryz.f95) (Pc:=[(0,⟨impl_netOf_l0_h,impl_netOf_l0_o,impl_netOf_l0 N N⟩)]) E rfl mixed Tryz.func95 (by kernel_rfl) (by kernel_rfl) (by kernel_rfl) (by kernel_rfl) (fun A hA=>⟨pc_of (body:=loopOf Tryz.f95 0) (inner:=[]) E mixed hA (by kernel_rfl) (by kernel_rfl) (by kernel_rfl) trivial (fun _=>rfl) (fun _ _=>by kernel_rfl) N,trivial⟩) (fun _=>by kernel_rfl)
theorem C_impl_netOf:Contract Tryz.prog 95 S_impl_netOf:=Contract.less (fun N:Nat=>F_impl_netOf N) C_impl_netOf_raw netOf_lim
theorem C_q43q_raw (N:Nat):Contract Tryz.prog 188 ⟨[(K_PSiq,false)],[I],true,F_q43q N⟩:=
  have E:Env Tryz.prog Γ_q43q:=env_of tab trivial
  con_of (body:=bodyOf Tryz.f188) (Pc:=[]) E rfl mixed Tryz.func188 (by kernel_rfl) (by kernel_rfl) (by kernel_rfl) (by kernel_rfl) (fun A hA=>trivial) (fun _=>by kernel_rfl)
theorem C_q43q:Contract Tryz.prog 188 S_q43q:=Contract.less (fun N:Nat=>F_q43q N) C_q43q_raw (fun d r h=>⟨0,(F_q43q_tot 0 d).trans h⟩)
theorem C_q10q_raw (N:Nat):Contract Tryz.prog 146 ⟨[(K_Si,false)],[K_Si],true,F_q10q N⟩:=
  have E:Env Tryz.prog Γ_q10q:=env_of tab trivial
  con_of (body:=bodyOf Tryz.f146) (Pc:=[]) E rfl mixed Tryz.func146 (by kernel_rfl) (by kernel_rfl) (by kernel_rfl) (by kernel_rfl) (fun A hA=>trivial) (fun _=>by kernel_rfl)
theorem C_q10q:Contract Tryz.prog 146 S_q10q:=Contract.less (fun N:Nat=>F_q10q N) C_q10q_raw cloneI_lim
theorem C_q51q_raw (N:Nat):Contract Tryz.prog 158 ⟨[(I,false),(I,false)],[K_SSi],true,F_q51q N⟩:=
  have E:Env Tryz.prog Γ_q51q:=env_ofV tab ⟨C_q10q,trivial⟩ trivial (fun _ h=>by cases h)
  con_of (body:=bodyOf Tryz.f158) (Pc:=[(0,⟨q51q_l0_h,q51q_l0_o,q51q_l0 N N⟩)]) E rfl mixed Tryz.func158 (by kernel_rfl) (by kernel_rfl) (by kernel_rfl) (by kernel_rfl) (fun A hA=>⟨pc_of (body:=loopOf Tryz.f158 0) (inner:=[(2,⟨q51q_l2_h,q51q_l2_o,q51q_l2 N N⟩)]) E mixed hA (by kernel_rfl) (by kernel_rfl) (by kernel_rfl) ⟨pc_of (body:=loopOf Tryz.f158 2) (inner:=[(4,⟨q51q_l4_h,q51q_l4_o,q51q_l4 N N⟩)]) E mixed hA (by kernel_rfl) (by kernel_rfl) (by kernel_rfl) ⟨pc_of (body:=loopOf Tryz.f158 4) (inner:=[]) E mixed hA (by kernel_rfl) (by kernel_rfl) (by kernel_rfl) trivial (fun _=>rfl) (fun _ _=>by kernel_rfl) N,trivial⟩ (fun _=>rfl) (fun _ _=>by kernel_rfl) N,trivial⟩ (fun _=>rfl) (fun _ _=>by kernel_rfl) N,trivial⟩) (fun _=>by kernel_rfl)
theorem C_q51q:Contract Tryz.prog 158 S_q51q:=Contract.less (fun N:Nat=>F_q51q N) C_q51q_raw copLists_lim
theorem C_q28q_raw (N:Nat):Contract Tryz.prog 130 ⟨[(K_PSiq,false),(I,false)],[I],true,F_q28q N⟩:=
  have E:Env Tryz.prog Γ_q28q:=env_of tab trivial
  con_of (body:=bodyOf Tryz.f130) (Pc:=[]) E rfl mixed Tryz.func130 (by kernel_rfl) (by kernel_rfl) (by kernel_rfl) (by kernel_rfl) (fun A hA=>trivial) (fun _=>by kernel_rfl)
theorem C_q28q:Contract Tryz.prog 130 S_q28q:=C_q28q_raw 0
theorem C_impl_setOf_raw (N:Nat):Contract Tryz.prog 127 ⟨[(I,false)],[K_Si],true,F_impl_setOf N⟩:=
  have E:Env Tryz.prog Γ_impl_setOf:=env_of tab trivial
  con_of (body:=bodyOf Tryz.f127) (Pc:=[(0,⟨impl_setOf_l0_h,impl_setOf_l0_o,impl_setOf_l0 N N⟩)]) E rfl mixed Tryz.func127 (by kernel_rfl) (by kernel_rfl) (by kernel_rfl) (by kernel_rfl) (fun A hA=>⟨pc_of (body:=loopOf Tryz.f127 0) (inner:=[]) E mixed hA (by kernel_rfl) (by kernel_rfl) (by kernel_rfl) trivial (fun _=>rfl) (fun _ _=>by kernel_rfl) N,trivial⟩) (fun _=>by kernel_rfl)
theorem C_impl_setOf:Contract Tryz.prog 127 S_impl_setOf:=Contract.less (fun N:Nat=>F_impl_setOf N) C_impl_setOf_raw setOf_lim
theorem C_q1q:ContractG Tryz.prog 223 (S_q1q,{ gone:=[0],deep:=[] }):=con_compactF (enters_of Tryz.func223 (by kernel_rfl) rfl) (fun w v1 v2 xs ys h1 h2 l1 l2=>eqH h1 h2 l1 l2) compact74 compact74_small
theorem C_q22q_raw (N:Nat):Contract Tryz.prog 153 ⟨[(K_PSiq,false),(K_Si,false)],[K_SSi],true,F_q22q N⟩:=
  have E:Env Tryz.prog Γ_q22q:=env_ofG tab ⟨C_impl_setOf,⟨C_q28q,⟨C_q10q,⟨C_q11q,⟨C_q2q,trivial⟩⟩⟩⟩⟩ trivial (fun _ h=>by cases h) ⟨C_q1q,trivial⟩ (by kernel_rfl)
  con_of (body:=bodyOf Tryz.f153) (Pc:=[(0,⟨q22q_l0_h,q22q_l0_o,q22q_l0 N N⟩),(6,⟨q22q_l6_h,q22q_l6_o,q22q_l6 N N⟩)]) E rfl mixed Tryz.func153 (by kernel_rfl) (by kernel_rfl) (by kernel_rfl) (by kernel_rfl) (fun A hA=>⟨pc_of (body:=loopOf Tryz.f153 0) (inner:=[(2,⟨q22q_l2_h,q22q_l2_o,q22q_l2 N N⟩)]) E mixed hA (by kernel_rfl) (by kernel_rfl) (by kernel_rfl) ⟨pc_of (body:=loopOf Tryz.f153 2) (inner:=[(4,⟨q22q_l4_h,q22q_l4_o,q22q_l4 N N⟩)]) E mixed hA (by kernel_rfl) (by kernel_rfl) (by kernel_rfl) ⟨pc_of (body:=loopOf Tryz.f153 4) (inner:=[]) E mixed hA (by kernel_rfl) (by kernel_rfl) (by kernel_rfl) trivial (fun _=>rfl) (fun _ _=>by kernel_rfl) N,trivial⟩ (fun _=>rfl) (fun _ _=>by kernel_rfl) N,trivial⟩ (fun _=>rfl) (fun _ _=>by kernel_rfl) N,⟨pc_of (body:=loopOf Tryz.f153 6) (inner:=[]) E mixed hA (by kernel_rfl) (by kernel_rfl) (by kernel_rfl) trivial (fun _=>rfl) (fun _ _=>by kernel_rfl) N,trivial⟩⟩) (fun _=>by kernel_rfl)
theorem C_q22q:Contract Tryz.prog 153 S_q22q:=Contract.less (fun N:Nat=>F_q22q N) C_q22q_raw copMoves47_lim
theorem CV_q6q:ContractV Tryz.prog SV_q6q:=conV_0_2_0 C_q6q
theorem C_q0q_raw (N:Nat):Contract Tryz.prog 219 ⟨[(K_SSi,false),(K_Si,false),(K_F_q6q_qq,false)],[I,.bool],true,F_q0q N⟩:=
  have E:Env Tryz.prog Γ_q0q:=env_ofV tab trivial ⟨CV_q6q,trivial⟩ (fun _ h=>by cases h)
  con_of (body:=bodyOf Tryz.f219) (Pc:=[(0,⟨q0q_l0_h,q0q_l0_o,q0q_l0 N N⟩)]) E rfl mixed Tryz.func219 (by kernel_rfl) (by kernel_rfl) (by kernel_rfl) (by kernel_rfl) (fun A hA=>⟨pc_of (body:=loopOf Tryz.f219 0) (inner:=[]) E mixed hA (by kernel_rfl) (by kernel_rfl) (by kernel_rfl) trivial (fun _=>rfl) (fun _ _=>by kernel_rfl) N,trivial⟩) (fun _=>by kernel_rfl)
theorem C_q0q:Contract Tryz.prog 219 S_q0q:=Contract.less (fun N:Nat=>F_q0q N) C_q0q_raw binSearch_lim
theorem C_q18q_raw (N:Nat):Contract Tryz.prog 144 ⟨[(K_BPPZiqZSiSSiSSiq,false),(K_Si,false)],[I],true,F_q18q N⟩:=
  have E:Env Tryz.prog Γ_q18q:=env_of tab ⟨C_q0q,trivial⟩
  con_of (body:=bodyOf Tryz.f144) (Pc:=[]) E rfl mixed Tryz.func144 (by kernel_rfl) (by kernel_rfl) (by kernel_rfl) (by kernel_rfl) (fun A hA=>trivial) (fun _=>by kernel_rfl)
theorem C_q18q:Contract Tryz.prog 144 S_q18q:=C_q18q_raw 0
theorem C_q20q_raw (N:Nat):ContractG Tryz.prog 96 (⟨[(K_PSiq,false),(I,false)],[K_BPPZiqZSiSSiSSiq],true,F_q20q N⟩,md0):=
  have E:Env Tryz.prog Γ_q20q:=env_of tab ⟨C_q18q,⟨C_q22q,⟨C_q51q,⟨C_q43q,trivial⟩⟩⟩⟩
  con_ofG (body:=bodyOf Tryz.f96) (Pc:=[(0,⟨q20q_l0_h,q20q_l0_o,q20q_l0 N N⟩)]) E mixed Tryz.func96 (by kernel_rfl) (by kernel_rfl) (by kernel_rfl) (by kernel_rfl) (fun A hA=>⟨pc_of (body:=loopOf Tryz.f96 0) (inner:=[(2,⟨q20q_l2_h,q20q_l2_o,q20q_l2 N N⟩)]) E mixed hA (by kernel_rfl) (by kernel_rfl) (by kernel_rfl) ⟨pc_of (body:=loopOf Tryz.f96 2) (inner:=[]) E mixed hA (by kernel_rfl) (by kernel_rfl) (by kernel_rfl) trivial (fun _=>rfl) (fun _ _=>by kernel_rfl) N,trivial⟩ (fun _=>rfl) (fun _ _=>by kernel_rfl) N,trivial⟩) (fun _=>by kernel_rfl)
theorem C_q20q:ContractG Tryz.prog 96 (S_q20q,md0):=ContractG.less (fun N:Nat=>F_q20q N) C_q20q_raw copBoard_lim
theorem C_q40q_raw (N:Nat):Contract Tryz.prog 128 ⟨[(K_Si,false),(I,false),(I,false)],[.bool],true,F_q40q N⟩:=
  have E:Env Tryz.prog Γ_q40q:=env_of tab ⟨C_q67q,trivial⟩
  con_of (body:=bodyOf Tryz.f128) (Pc:=[(0,⟨q40q_l0_h,q40q_l0_o,q40q_l0 N N⟩)]) E rfl mixed Tryz.func128 (by kernel_rfl) (by kernel_rfl) (by kernel_rfl) (by kernel_rfl) (fun A hA=>⟨pc_of (body:=loopOf Tryz.f128 0) (inner:=[]) E mixed hA (by kernel_rfl) (by kernel_rfl) (by kernel_rfl) trivial (fun _=>rfl) (fun _ _=>by kernel_rfl) N,trivial⟩) (fun _=>by kernel_rfl)
theorem C_q40q:Contract Tryz.prog 128 S_q40q:=Contract.less (fun N:Nat=>F_q40q N) C_q40q_raw allWithin_lim
theorem C_q48q_raw (N:Nat):Contract Tryz.prog 106 ⟨[(K_PiSPiiqq,false),(K_Si,false)],[.bool],true,F_q48q N⟩:=
  have E:Env Tryz.prog Γ_q48q:=env_of tab ⟨C_q59q,⟨C_q40q,trivial⟩⟩
  con_of (body:=bodyOf Tryz.f106) (Pc:=[]) E rfl mixed Tryz.func106 (by kernel_rfl) (by kernel_rfl) (by kernel_rfl) (by kernel_rfl) (fun A hA=>trivial) (fun _=>by kernel_rfl)
theorem C_q48q:Contract Tryz.prog 106 S_q48q:=C_q48q_raw 0
theorem C_q31q_raw (N:Nat):Contract Tryz.prog 169 ⟨[(K_Si,false)],[.bool],true,F_q31q N⟩:=
  have E:Env Tryz.prog Γ_q31q:=env_of tab trivial
  con_of (body:=bodyOf Tryz.f169) (Pc:=[(0,⟨q31q_l0_h,q31q_l0_o,q31q_l0 N N⟩)]) E rfl mixed Tryz.func169 (by kernel_rfl) (by kernel_rfl) (by kernel_rfl) (by kernel_rfl) (fun A hA=>⟨pc_of (body:=loopOf Tryz.f169 0) (inner:=[]) E mixed hA (by kernel_rfl) (by kernel_rfl) (by kernel_rfl) trivial (fun _=>rfl) (fun _ _=>by kernel_rfl) N,trivial⟩) (fun _=>by kernel_rfl)
theorem C_q31q:Contract Tryz.prog 169 S_q31q:=Contract.less (fun N:Nat=>F_q31q N) C_q31q_raw increasing_lim
theorem C_impl_isSet_raw (N:Nat):Contract Tryz.prog 189 ⟨[(K_PiSPiiqq,false),(K_Si,false)],[.bool],true,F_impl_isSet N⟩:=
  have E:Env Tryz.prog Γ_impl_isSet:=env_of tab ⟨C_q48q,⟨C_q31q,trivial⟩⟩
  con_of (body:=bodyOf Tryz.f189) (Pc:=[]) E rfl mixed Tryz.func189 (by kernel_rfl) (by kernel_rfl) (by kernel_rfl) (by kernel_rfl) (fun A hA=>trivial) (fun _=>by kernel_rfl)
theorem C_impl_isSet:Contract Tryz.prog 189 S_impl_isSet:=C_impl_isSet_raw 0
theorem C_q62q_raw (N:Nat):Contract Tryz.prog 157 ⟨[(K_Si,false)],[I],true,F_q62q N⟩:=
  have E:Env Tryz.prog Γ_q62q:=env_of tab trivial
  con_of (body:=bodyOf Tryz.f157) (Pc:=[(0,⟨q62q_l0_h,q62q_l0_o,q62q_l0 N N⟩)]) E rfl mixed Tryz.func157 (by kernel_rfl) (by kernel_rfl) (by kernel_rfl) (by kernel_rfl) (fun A hA=>⟨pc_of (body:=loopOf Tryz.f157 0) (inner:=[]) E mixed hA (by kernel_rfl) (by kernel_rfl) (by kernel_rfl) trivial (fun _=>rfl) (fun _ _=>by kernel_rfl) N,trivial⟩) (fun _=>by kernel_rfl)
theorem C_q62q:Contract Tryz.prog 157 S_q62q:=Contract.less (fun N:Nat=>F_q62q N) C_q62q_raw maskOf_lim
theorem C_q9q_raw (N:Nat):Contract Tryz.prog 211 ⟨[(K_Si,false),(I,false)],[I],true,F_q9q N⟩:=
  have E:Env Tryz.prog Γ_q9q:=env_of tab trivial
  con_of (body:=bodyOf Tryz.f211) (Pc:=[(0,⟨q9q_l0_h,q9q_l0_o,q9q_l0 N N⟩)]) E rfl mixed Tryz.func211 (by kernel_rfl) (by kernel_rfl) (by kernel_rfl) (by kernel_rfl) (fun A hA=>⟨pc_of (body:=loopOf Tryz.f211 0) (inner:=[]) E mixed hA (by kernel_rfl) (by kernel_rfl) (by kernel_rfl) trivial (fun _=>rfl) (fun _ _=>by kernel_rfl) N,trivial⟩) (fun _=>by kernel_rfl)
theorem C_q9q:Contract Tryz.prog 211 S_q9q:=Contract.less (fun N:Nat=>F_q9q N) C_q9q_raw index_lim
theorem C_q5q_raw (N:Nat):Contract Tryz.prog 129 ⟨[(K_Si,false),(I,false)],[.bool],true,F_q5q N⟩:=
  have E:Env Tryz.prog Γ_q5q:=env_of tab ⟨C_q9q,trivial⟩
  con_of (body:=bodyOf Tryz.f129) (Pc:=[]) E rfl mixed Tryz.func129 (by kernel_rfl) (by kernel_rfl) (by kernel_rfl) (by kernel_rfl) (fun A hA=>trivial) (fun _=>by kernel_rfl)
theorem C_q5q:Contract Tryz.prog 129 S_q5q:=C_q5q_raw 0
theorem C_q8q_raw (N:Nat):Contract Tryz.prog 97 ⟨[(K_BPPZiqZSiSSiSSiq,false),(K_PiSPiiqq,false),(K_SSi,false)],[.bool],true,F_q8q N⟩:=
  have E:Env Tryz.prog Γ_q8q:=env_of tab ⟨C_q5q,⟨C_q28q,⟨C_q62q,⟨C_impl_isSet,trivial⟩⟩⟩⟩
  con_of (body:=bodyOf Tryz.f97) (Pc:=[(0,⟨q8q_l0_h,q8q_l0_o,q8q_l0 N N⟩),(2,⟨q8q_l2_h,q8q_l2_o,q8q_l2 N N⟩)]) E rfl mixed Tryz.func97 (by kernel_rfl) (by kernel_rfl) (by kernel_rfl) (by kernel_rfl) (fun A hA=>⟨pc_of (body:=loopOf Tryz.f97 0) (inner:=[]) E mixed hA (by kernel_rfl) (by kernel_rfl) (by kernel_rfl) trivial (fun _=>rfl) (fun _ _=>by kernel_rfl) N,⟨pc_of (body:=loopOf Tryz.f97 2) (inner:=[(4,⟨q8q_l4_h,q8q_l4_o,q8q_l4 N N⟩)]) E mixed hA (by kernel_rfl) (by kernel_rfl) (by kernel_rfl) ⟨pc_of (body:=loopOf Tryz.f97 4) (inner:=[(6,⟨q8q_l6_h,q8q_l6_o,q8q_l6 N N⟩)]) E mixed hA (by kernel_rfl) (by kernel_rfl) (by kernel_rfl) ⟨pc_of (body:=loopOf Tryz.f97 6) (inner:=[]) E mixed hA (by kernel_rfl) (by kernel_rfl) (by kernel_rfl) trivial (fun _=>rfl) (fun _ _=>by kernel_rfl) N,trivial⟩ (fun _=>rfl) (fun _ _=>by kernel_rfl) N,trivial⟩ (fun _=>rfl) (fun _ _=>by kernel_rfl) N,trivial⟩⟩) (fun _=>by kernel_rfl)
theorem C_q8q:Contract Tryz.prog 97 S_q8q:=Contract.less (fun N:Nat=>F_q8q N) C_q8q_raw gameEvas_lim
theorem C_q41q_raw (N:Nat):Contract Tryz.prog 11 ⟨[(K_PiSPiiqq,false),(I,false),(K_SSi,false)],[.bool,.bool],true,F_q41q N⟩:=
  have E:Env Tryz.prog Γ_q41q:=env_ofG tab ⟨C_q39q,⟨C_impl_netOf,⟨C_q8q,trivial⟩⟩⟩ trivial (fun _ h=>by cases h) ⟨C_q20q,trivial⟩ (by kernel_rfl)
  con_of (body:=bodyOf Tryz.f11) (Pc:=[]) E rfl mixed Tryz.func11 (by kernel_rfl) (by kernel_rfl) (by kernel_rfl) (by kernel_rfl) (fun A hA=>trivial) (fun _=>by kernel_rfl)
theorem C_q41q:Contract Tryz.prog 11 S_q41q:=C_q41q_raw 0
theorem C_q42q_raw (N:Nat):Contract Tryz.prog 190 ⟨[(K_Si,false),(I,false),(I,false)],[.bool],true,F_q42q N⟩:=
  have E:Env Tryz.prog Γ_q42q:=env_of tab ⟨C_spec_l1In,trivial⟩
  con_of (body:=bodyOf Tryz.f190) (Pc:=[(0,⟨q42q_l0_h,q42q_l0_o,q42q_l0 N N⟩)]) E rfl mixed Tryz.func190 (by kernel_rfl) (by kernel_rfl) (by kernel_rfl) (by kernel_rfl) (fun A hA=>⟨pc_of (body:=loopOf Tryz.f190 0) (inner:=[]) E mixed hA (by kernel_rfl) (by kernel_rfl) (by kernel_rfl) trivial (fun _=>rfl) (fun _ _=>by kernel_rfl) N,trivial⟩) (fun _=>by kernel_rfl)
theorem C_q42q:Contract Tryz.prog 190 S_q42q:=Contract.less (fun N:Nat=>F_q42q N) C_q42q_raw l1Rising_lim
theorem C_spec_l2Set_raw (N:Nat):Contract Tryz.prog 100 ⟨[(K_PiSPiiqq,false),(K_Si,false)],[.bool],true,F_spec_l2Set N⟩:=
  have E:Env Tryz.prog Γ_spec_l2Set:=env_of tab ⟨C_q42q,trivial⟩
  con_of (body:=bodyOf Tryz.f100) (Pc:=[]) E rfl mixed Tryz.func100 (by kernel_rfl) (by kernel_rfl) (by kernel_rfl) (by kernel_rfl) (fun A hA=>trivial) (fun _=>by kernel_rfl)
theorem C_spec_l2Set:Contract Tryz.prog 100 S_spec_l2Set:=C_spec_l2Set_raw 0
theorem C_q47q_raw (N:Nat):Contract Tryz.prog 102 ⟨[(K_PZSiSSiSSiq,false),(K_SSi,false),(I,false),(I,false)],[.bool],true,F_q47q N⟩:=
  have E:Env Tryz.prog Γ_q47q:=env_of tab ⟨C_spec_l1Has,trivial⟩
  con_of (body:=bodyOf Tryz.f102) (Pc:=[(0,⟨q47q_l0_h,q47q_l0_o,q47q_l0 N N⟩)]) E rfl mixed Tryz.func102 (by kernel_rfl) (by kernel_rfl) (by kernel_rfl) (by kernel_rfl) (fun A hA=>⟨pc_of (body:=loopOf Tryz.f102 0) (inner:=[(2,⟨q47q_l2_h,q47q_l2_o,q47q_l2 N N⟩)]) E mixed hA (by kernel_rfl) (by kernel_rfl) (by kernel_rfl) ⟨pc_of (body:=loopOf Tryz.f102 2) (inner:=[]) E mixed hA (by kernel_rfl) (by kernel_rfl) (by kernel_rfl) trivial (fun _=>rfl) (fun _ _=>by kernel_rfl) N,trivial⟩ (fun _=>rfl) (fun _ _=>by kernel_rfl) N,trivial⟩) (fun _=>by kernel_rfl)
theorem C_q47q:Contract Tryz.prog 102 S_q47q:=Contract.less (fun N:Nat=>F_q47q N) C_q47q_raw l4Evades_lim
theorem C_q37q_raw (N:Nat):Contract Tryz.prog 12 ⟨[(K_PiSPiiqq,false),(I,false),(K_SSi,false)],[.bool,.bool],true,F_q37q N⟩:=
  have E:Env Tryz.prog Γ_q37q:=env_of tab ⟨C_q53q,⟨C_q64q,⟨C_spec_l2Set,⟨C_spec_l1Has,⟨C_q47q,trivial⟩⟩⟩⟩⟩
  con_of (body:=bodyOf Tryz.f12) (Pc:=[(0,⟨q37q_l0_h,q37q_l0_o,q37q_l0 N N⟩)]) E rfl mixed Tryz.func12 (by kernel_rfl) (by kernel_rfl) (by kernel_rfl) (by kernel_rfl) (fun A hA=>⟨pc_of (body:=loopOf Tryz.f12 0) (inner:=[(2,⟨q37q_l2_h,q37q_l2_o,q37q_l2 N N⟩)]) E mixed hA (by kernel_rfl) (by kernel_rfl) (by kernel_rfl) ⟨pc_of (body:=loopOf Tryz.f12 2) (inner:=[]) E mixed hA (by kernel_rfl) (by kernel_rfl) (by kernel_rfl) trivial (fun _=>rfl) (fun _ _=>by kernel_rfl) N,trivial⟩ (fun _=>rfl) (fun _ _=>by kernel_rfl) N,trivial⟩) (fun _=>by kernel_rfl)
theorem C_q37q:Contract Tryz.prog 12 S_q37q:=Contract.less (fun N:Nat=>F_q37q N) C_q37q_raw specEv_lim
theorem C_q15q_raw (N:Nat):Contract Tryz.prog 179 ⟨[(K_PSiq,false),(K_Si,false),(I,false)],[I],true,F_q15q N⟩:=
  have E:Env Tryz.prog Γ_q15q:=env_of tab ⟨C_impl_setOf,⟨C_q28q,trivial⟩⟩
  con_of (body:=bodyOf Tryz.f179) (Pc:=[(0,⟨q15q_l0_h,q15q_l0_o,q15q_l0 N N⟩)]) E rfl mixed Tryz.func179 (by kernel_rfl) (by kernel_rfl) (by kernel_rfl) (by kernel_rfl) (fun A hA=>⟨pc_of (body:=loopOf Tryz.f179 0) (inner:=[]) E mixed hA (by kernel_rfl) (by kernel_rfl) (by kernel_rfl) trivial (fun _=>rfl) (fun _ _=>by kernel_rfl) N,trivial⟩) (fun _=>by kernel_rfl)
theorem C_q15q:Contract Tryz.prog 179 S_q15q:=Contract.less (fun N:Nat=>F_q15q N) C_q15q_raw timeAfter_lim
theorem C_q17q_raw (N:Nat):Contract Tryz.prog 243 ⟨[(I,false),(K_BBPPZiqZSiSSiSSiq,false),(K_Bi,false)],[.bool],true,F_q17q N⟩:=
  have E:Env Tryz.prog Γ_q17q:=env_ofV tab ⟨C_q5q,⟨C_q15q,trivial⟩⟩ trivial (w1_of (by kernel_rfl))
  con_of (body:=bodyOf Tryz.f243) (Pc:=[]) E rfl mixed Tryz.func243 (by kernel_rfl) (by kernel_rfl) (by kernel_rfl) (by kernel_rfl) (fun A hA=>trivial) (fun _=>by kernel_rfl)
theorem C_q17q:Contract Tryz.prog 243 S_q17q:=C_q17q_raw 0
theorem CV_q17q:ContractV Tryz.prog SV_q17q:=conV_0_1_2 C_q17q
theorem C_q4q_raw (N:Nat):Contract Tryz.prog 248 ⟨[(K_Si,false),(K_F_q17q_qPBBPPZiqZSiSSiSSiqBiq,false)],[I],true,F_q4q N⟩:=
  have E:Env Tryz.prog Γ_q4q:=env_ofV tab trivial ⟨CV_q17q,trivial⟩ (fun _ h=>by cases h)
  con_of (body:=bodyOf Tryz.f248) (Pc:=[(0,⟨q4q_l0_h,q4q_l0_o,q4q_l0 N N⟩)]) E rfl mixed Tryz.func248 (by kernel_rfl) (by kernel_rfl) (by kernel_rfl) (by kernel_rfl) (fun A hA=>⟨pc_of (body:=loopOf Tryz.f248 0) (inner:=[]) E mixed hA (by kernel_rfl) (by kernel_rfl) (by kernel_rfl) trivial (fun _=>rfl) (fun _ _=>by kernel_rfl) N,trivial⟩) (fun _=>by kernel_rfl)
theorem C_q4q:Contract Tryz.prog 248 S_q4q:=Contract.less (fun N:Nat=>F_q4q N) C_q4q_raw gameCan_lim
theorem C_q3q_raw (N:Nat):Contract Tryz.prog 214 ⟨[(K_Si,false),(K_F_q17q_qPBBPPZiqZSiSSiSSiqBiq,false)],[.bool],true,F_q3q N⟩:=
  have E:Env Tryz.prog Γ_q3q:=env_of tab ⟨C_q4q,trivial⟩
  con_of (body:=bodyOf Tryz.f214) (Pc:=[]) E rfl mixed Tryz.func214 (by kernel_rfl) (by kernel_rfl) (by kernel_rfl) (by kernel_rfl) (fun A hA=>trivial) (fun _=>by kernel_rfl)
theorem C_q3q:Contract Tryz.prog 214 S_q3q:=C_q3q_raw 0
theorem C_q27q_raw (N:Nat):Contract Tryz.prog 192 ⟨[(K_BPPZiqZSiSSiSSiq,false),(I,false),(I,false)],[.bool],true,F_q27q N⟩:=
  have E:Env Tryz.prog Γ_q27q:=env_ofV tab ⟨C_q3q,trivial⟩ trivial (w1_of (by kernel_rfl))
  con_of (body:=bodyOf Tryz.f192) (Pc:=[]) E rfl mixed Tryz.func192 (by kernel_rfl) (by kernel_rfl) (by kernel_rfl) (by kernel_rfl) (fun A hA=>trivial) (fun _=>by kernel_rfl)
theorem C_q27q:Contract Tryz.prog 192 S_q27q:=C_q27q_raw 0
theorem C_q25q_raw (N:Nat):ContractG Tryz.prog 103 (⟨[(K_PSiq,false),(I,false)],[K_BPPZiqZSiSSiSSiq],true,F_q25q N⟩,md0):=
  have E:Env Tryz.prog Γ_q25q:=env_ofG tab ⟨C_q43q,⟨C_q7q,⟨C_q27q,trivial⟩⟩⟩ trivial (fun _ h=>by cases h) ⟨C_q20q,trivial⟩ (by kernel_rfl)
  con_ofG (body:=bodyOf Tryz.f103) (Pc:=[(0,⟨q25q_l0_h,q25q_l0_o,q25q_l0 N N⟩),(4,⟨q25q_l4_h,q25q_l4_o,q25q_l4 N N⟩)]) E mixed Tryz.func103 (by kernel_rfl) (by kernel_rfl) (by kernel_rfl) (by kernel_rfl) (fun A hA=>⟨pc_of (body:=loopOf Tryz.f103 0) (inner:=[(2,⟨q25q_l2_h,q25q_l2_o,q25q_l2 N N⟩)]) E mixed hA (by kernel_rfl) (by kernel_rfl) (by kernel_rfl) ⟨pc_of (body:=loopOf Tryz.f103 2) (inner:=[]) E mixed hA (by kernel_rfl) (by kernel_rfl) (by kernel_rfl) trivial (fun _=>rfl) (fun _ _=>by kernel_rfl) N,trivial⟩ (fun _=>rfl) (fun _ _=>by kernel_rfl) N,⟨pc_of (body:=loopOf Tryz.f103 4) (inner:=[(6,⟨q25q_l6_h,q25q_l6_o,q25q_l6 N N⟩),(10,⟨q25q_l10_h,q25q_l10_o,q25q_l10 N N⟩)]) E mixed hA (by kernel_rfl) (by kernel_rfl) (by kernel_rfl) ⟨pc_of (body:=loopOf Tryz.f103 6) (inner:=[(8,⟨q25q_l8_h,q25q_l8_o,q25q_l8 N N⟩)]) E mixed hA (by kernel_rfl) (by kernel_rfl) (by kernel_rfl) ⟨pc_of (body:=loopOf Tryz.f103 8) (inner:=[]) E mixed hA (by kernel_rfl) (by kernel_rfl) (by kernel_rfl) trivial (fun _=>rfl) (fun _ _=>by kernel_rfl) N,trivial⟩ (fun _=>rfl) (fun _ _=>by kernel_rfl) N,⟨pc_of (body:=loopOf Tryz.f103 10) (inner:=[]) E mixed hA (by kernel_rfl) (by kernel_rfl) (by kernel_rfl) trivial (fun _=>rfl) (fun _ _=>by kernel_rfl) N,trivial⟩⟩ (fun _=>rfl) (fun _ _=>by kernel_rfl) N,trivial⟩⟩) (fun _=>by kernel_rfl)
theorem C_q25q:ContractG Tryz.prog 103 (S_q25q,md0):=ContractG.less (fun N:Nat=>F_q25q N) C_q25q_raw copGame_lim
theorem C_q14q_raw (N:Nat):Contract Tryz.prog 175 ⟨[(K_Si,false)],[I],true,F_q14q N⟩:=
  have E:Env Tryz.prog Γ_q14q:=env_of tab trivial
  con_of (body:=bodyOf Tryz.f175) (Pc:=[(0,⟨q14q_l0_h,q14q_l0_o,q14q_l0 N N⟩)]) E rfl mixed Tryz.func175 (by kernel_rfl) (by kernel_rfl) (by kernel_rfl) (by kernel_rfl) (fun A hA=>⟨pc_of (body:=loopOf Tryz.f175 0) (inner:=[]) E mixed hA (by kernel_rfl) (by kernel_rfl) (by kernel_rfl) trivial (fun _=>rfl) (fun _ _=>by kernel_rfl) N,trivial⟩) (fun _=>by kernel_rfl)
theorem C_q14q:Contract Tryz.prog 175 S_q14q:=Contract.less (fun N:Nat=>F_q14q N) C_q14q_raw max_lim
theorem C_q19q_raw (N:Nat):Contract Tryz.prog 104 ⟨[(K_BPPZiqZSiSSiSSiq,false)],[K_Si,I,.bool],true,F_q19q N⟩:=
  have E:Env Tryz.prog Γ_q19q:=env_of tab ⟨C_q5q,⟨C_q10q,⟨C_q14q,trivial⟩⟩⟩
  con_of (body:=bodyOf Tryz.f104) (Pc:=[(0,⟨q19q_l0_h,q19q_l0_o,q19q_l0 N N⟩)]) E rfl mixed Tryz.func104 (by kernel_rfl) (by kernel_rfl) (by kernel_rfl) (by kernel_rfl) (fun A hA=>⟨pc_of (body:=loopOf Tryz.f104 0) (inner:=[]) E mixed hA (by kernel_rfl) (by kernel_rfl) (by kernel_rfl) trivial (fun _=>rfl) (fun _ _=>by kernel_rfl) N,trivial⟩) (fun _=>by kernel_rfl)
theorem C_q19q:Contract Tryz.prog 104 S_q19q:=Contract.less (fun N:Nat=>F_q19q N) C_q19q_raw gameBest_lim
theorem C_q49q_raw (N:Nat):Contract Tryz.prog 13 ⟨[(K_PiSPiiqq,false),(I,false)],[.bool,.bool],true,F_q49q N⟩:=
  have E:Env Tryz.prog Γ_q49q:=env_ofG tab ⟨C_q39q,⟨C_impl_netOf,⟨C_q19q,trivial⟩⟩⟩ trivial (fun _ h=>by cases h) ⟨C_q25q,trivial⟩ (by kernel_rfl)
  con_of (body:=bodyOf Tryz.f13) (Pc:=[]) E rfl mixed Tryz.func13 (by kernel_rfl) (by kernel_rfl) (by kernel_rfl) (by kernel_rfl) (fun A hA=>trivial) (fun _=>by kernel_rfl)
theorem C_q49q:Contract Tryz.prog 13 S_q49q:=C_q49q_raw 0
theorem C_q50q_raw (N:Nat):Contract Tryz.prog 14 ⟨[(K_PiSPiiqq,false),(I,false)],[K_SSi,.bool],true,F_q50q N⟩:=
  have E:Env Tryz.prog Γ_q50q:=env_ofG tab ⟨C_q39q,⟨C_impl_netOf,trivial⟩⟩ trivial (fun _ h=>by cases h) ⟨C_q25q,trivial⟩ (by kernel_rfl)
  con_of (body:=bodyOf Tryz.f14) (Pc:=[(0,⟨q50q_l0_h,q50q_l0_o,q50q_l0 N N⟩)]) E rfl mixed Tryz.func14 (by kernel_rfl) (by kernel_rfl) (by kernel_rfl) (by kernel_rfl) (fun A hA=>⟨pc_of (body:=loopOf Tryz.f14 0) (inner:=[(2,⟨q50q_l2_h,q50q_l2_o,q50q_l2 N N⟩)]) E mixed hA (by kernel_rfl) (by kernel_rfl) (by kernel_rfl) ⟨pc_of (body:=loopOf Tryz.f14 2) (inner:=[]) E mixed hA (by kernel_rfl) (by kernel_rfl) (by kernel_rfl) trivial (fun _=>rfl) (fun _ _=>by kernel_rfl) N,trivial⟩ (fun _=>rfl) (fun _ _=>by kernel_rfl) N,trivial⟩) (fun _=>by kernel_rfl)
theorem C_q50q:Contract Tryz.prog 14 S_q50q:=Contract.less (fun N:Nat=>F_q50q N) C_q50q_raw implSafe_lim
theorem C_laws_rHas_raw (N:Nat):Contract Tryz.prog 47 ⟨[(K_Si,false),(I,false)],[.bool],true,F_laws_rHas N⟩:=
  have E:Env Tryz.prog Γ_laws_rHas:=env_of tab trivial
  con_of (body:=bodyOf Tryz.f47) (Pc:=[(0,⟨laws_rHas_l0_h,laws_rHas_l0_o,laws_rHas_l0 N N⟩)]) E rfl mixed Tryz.func47 (by kernel_rfl) (by kernel_rfl) (by kernel_rfl) (by kernel_rfl) (fun A hA=>⟨pc_of (body:=loopOf Tryz.f47 0) (inner:=[]) E mixed hA (by kernel_rfl) (by kernel_rfl) (by kernel_rfl) trivial (fun _=>rfl) (fun _ _=>by kernel_rfl) N,trivial⟩) (fun _=>by kernel_rfl)
theorem C_laws_rHas:Contract Tryz.prog 47 S_laws_rHas:=Contract.less (fun N:Nat=>F_laws_rHas N) C_laws_rHas_raw rHas_lim
theorem C_laws_rPart_raw (N:Nat):Contract Tryz.prog 15 ⟨[(K_Si,false),(K_Si,false)],[.bool],true,F_laws_rPart N⟩:=
  have E:Env Tryz.prog Γ_laws_rPart:=env_of tab ⟨C_laws_rHas,trivial⟩
  con_of (body:=bodyOf Tryz.f15) (Pc:=[(0,⟨laws_rPart_l0_h,laws_rPart_l0_o,laws_rPart_l0 N N⟩)]) E rfl mixed Tryz.func15 (by kernel_rfl) (by kernel_rfl) (by kernel_rfl) (by kernel_rfl) (fun A hA=>⟨pc_of (body:=loopOf Tryz.f15 0) (inner:=[]) E mixed hA (by kernel_rfl) (by kernel_rfl) (by kernel_rfl) trivial (fun _=>rfl) (fun _ _=>by kernel_rfl) N,trivial⟩) (fun _=>by kernel_rfl)
theorem C_laws_rPart:Contract Tryz.prog 15 S_laws_rPart:=Contract.less (fun N:Nat=>F_laws_rPart N) C_laws_rPart_raw rPart_lim
theorem C_laws_FnEvasions_raw (N:Nat):Contract Tryz.prog 3 ⟨[(K_Su8,false)],[.bool],true,F_laws_FnEvasions N⟩:=
  have E:Env Tryz.prog Γ_laws_FnEvasions:=env_of tab ⟨C_laws_rBig,⟨C_q16q,⟨C_q41q,⟨C_q37q,⟨C_q49q,⟨C_q50q,⟨C_laws_rPart,trivial⟩⟩⟩⟩⟩⟩⟩
  con_of (body:=bodyOf Tryz.f3) (Pc:=[(0,⟨laws_FnEvasions_l0_h,laws_FnEvasions_l0_o,laws_FnEvasions_l0 N N⟩)]) E rfl mixed Tryz.func3 (by kernel_rfl) (by kernel_rfl) (by kernel_rfl) (by kernel_rfl) (fun A hA=>⟨pc_of (body:=loopOf Tryz.f3 0) (inner:=[]) E mixed hA (by kernel_rfl) (by kernel_rfl) (by kernel_rfl) trivial (fun _=>rfl) (fun _ _=>by kernel_rfl) N,trivial⟩) (fun _=>by kernel_rfl)
theorem C_laws_FnEvasions:Contract Tryz.prog 3 S_laws_FnEvasions:=Contract.less (fun N:Nat=>F_laws_FnEvasions N) C_laws_FnEvasions_raw lawEvasions_lim
end Go.V.W
