/- What the law FnCopNumbers leans on, part 7: an interpreter of the model as plain data, its soundness, the functions as it tells them, and their laws. -/
import Derived.Test.YtjniohefdfbeoaaGreatVF
set_option linter.unusedVariables false
set_option linter.unusedSimpArgs false
set_option maxRecDepth 100000
namespace Go.V.W
open Go.Proofs
theorem tabM_len (m n:Nat) (f:Nat->Nat->Int):(tabM m n f).length=m:=by simp [tabM]
theorem tabM_row {m n c:Nat} (f:Nat->Nat->Int) (h:c<m):(tabM m n f)[c]? = some ((List.range n).map fun x=>f c x):=by
 unfold tabM
 rw [List.getElem?_map,List.getElem?_range h]
 rfl
theorem tab2_tabM {m n c x:Nat} (f:Nat->Nat->Int) (hc:c<m) (hx:x<n):tab2 (tabM m n f) (c:Int) (x:Int)=f c x:=by
 unfold tab2
 simp only [Int.toNat_natCast,List.getD_eq_getElem?_getD,tabM_row f hc,Option.getD_some,rowR_get _ hx]
theorem tabM_congr {m n:Nat} {f g:Nat->Nat->Int} (h:∀c x,c<m->x<n->f c x=g c x):tabM m n f=tabM m n g:=by
 unfold tabM
 refine List.map_congr_left fun c hc=>List.map_congr_left fun x hx=>h c x (List.mem_range.1 hc) (List.mem_range.1 hx)
theorem rcB_parts {m n:Nat} {T:Tab} (h:rcB m n T=true):T.length=m /\ ∀c,c<m->(at_ K_Si T c).length=n:=by
 unfold rcB at h
 simp only [Bool.and_eq_true,decide_eq_true_eq,List.all_eq_true] at h
 refine ⟨h.1,fun c hc => ?_⟩
 have hlt:c<T.length:=by omega
 have e:at_ K_Si T c=T[c]:=at_get (e:=K_Si) hlt
 rw [e]
 exact h.2 _ (List.getElem_mem hlt)
theorem tab2_rc {m n:Nat} {T:Tab} (h:rcB m n T=true) {c x:Nat} (hc:c<m) (hx:x<n):at_ I (at_ K_Si T c) x=tab2 T (c:Int) (x:Int):=by
 obtain ⟨h1,h2⟩:=rcB_parts h
 have hlt:c<T.length:=by omega
 have e:at_ K_Si T c=T[c]:=at_get (e:=K_Si) hlt
 have h3:=h2 c hc
 rw [e] at h3 |-
 have e2:at_ I T[c] x=T[c][x]:=at_get (e:=I) (by omega)
 rw [e2]
 unfold tab2
 simp only [Int.toNat_natCast,List.getD_eq_getElem?_getD,List.getElem?_eq_getElem hlt,Option.getD_some]
 rw [List.getElem?_eq_getElem (by omega)]
 rfl
theorem rc_tabM (m n:Nat) (f:Nat->Nat->Int):rcB m n (tabM m n f)=true:=by
 unfold rcB tabM
 simp
theorem row_rc {m n:Nat} {T:Tab} (h:rcB m n T=true) {c:Nat} (hc:c<m):at_ K_Si T c=(List.range n).map fun (x:Nat)=>tab2 T (c:Int) (x:Int):=by
 obtain ⟨h1,h2⟩:=rcB_parts h
 have h3:=h2 c hc
 apply List.ext_getElem
 ·simp [h3]
 ·intro i i1 i2
  have hi:i<n:=by omega
  rw [List.getElem_map,List.getElem_range,<- tab2_rc h hc hi]
  exact (at_get (e:=I) i1).symm
theorem tabM_self {m n:Nat} {T:Tab} (h:rcB m n T=true):tabM m n (fun c x=>tab2 T (c:Int) (x:Int))=T:=by
 obtain ⟨h1,h2⟩:=rcB_parts h
 apply List.ext_getElem
 ·rw [tabM_len,h1]
 ·intro c c1 c2
  have hc:c<m:=by omega
  have e:at_ K_Si T c=T[c]:=at_get (e:=K_Si) c2
  rw [<- e,row_rc h hc]
  simp [tabM]
def rowU (n:Nat) (f g:Nat->Int) (x:Nat):List Int:=(List.range n).map fun j=>if j<x then g j else f j
theorem rowU_len (n:Nat) (f g:Nat->Int) (x:Nat):(rowU n f g x).length=n:=by simp [rowU]
theorem rowU_at {n:Nat} {f g:Nat->Int} {x:Nat} (h:x<n):at_ I (rowU n f g x) x=f x:=by
 have:(rowU n f g x)[x]? = some (f x):=by
  unfold rowU
  rw [rowR_get _ h,if_neg (by omega)]
 exact (at_some this).1
theorem rowU_set {n:Nat} {f g:Nat->Int} {x:Nat} {v:Int} (h:x<n) (hv:g x=v):(rowU n f g x).set x v=rowU n f g (x+1):=by
 unfold rowU
 rw [map_set]
 refine List.map_congr_left fun j _ => ?_
 by_cases e:j=x
 ·subst e
  have:j<j+1:=by omega
  simp [this,hv]
 ·by_cases e2:j<x
  ·have:j<x+1:=by omega
   simp [e,e2,this]
  ·have:¬j<x+1:=by omega
   simp [e,e2,this]
theorem rowU_keep {n:Nat} {f g:Nat->Int} {x:Nat} (hv:g x=f x):rowU n f g x=rowU n f g (x+1):=by
 unfold rowU
 refine List.map_congr_left fun j _ => ?_
 by_cases e:j=x
 ·subst e
  have:j<j+1:=by omega
  simp [this,hv]
 ·by_cases e2:j<x
  ·have:j<x+1:=by omega
   simp [e2,this]
  ·have:¬j<x+1:=by omega
   simp [e2,this]
theorem rowU_zero (n:Nat) (f g:Nat->Int):rowU n f g 0=(List.range n).map f:=List.map_congr_left fun j _=>if_neg (by omega)
theorem rowU_full (n:Nat) (f g:Nat->Int):rowU n f g n=(List.range n).map g:=List.map_congr_left fun j hj=>if_pos (List.mem_range.1 hj)
def negsM (m n:Nat) (T:Tab):Nat:=(List.range (m*n)).countP fun i=>decide (tab2 T ((i / n:Nat):Int) ((i % n:Nat):Int)<0)
theorem anyG_spec {cf mv:List (List Int)} {ball:Int->List Int} {n:Nat} {T:Tab}:anyG cf mv ball n T=true ↔ ∃c x,c<cf.length/\x<n/\canG cf mv ball T c x=true:=by
 unfold anyG
 simp only [List.any_eq_true,List.mem_range]
 constructor
 ·rintro ⟨c,hc,r,hr,h⟩
  exact ⟨c,r,hc,hr,h⟩
 ·rintro ⟨c,r,hc,hr,h⟩
  exact ⟨c,hc,r,hr,h⟩
theorem stepG_at {cf mv:List (List Int)} {ball:Int->List Int} {n:Nat} {t:Int} {T:Tab} {c x:Nat} (hc:c<cf.length) (hx:x<n):tab2 (stepG cf mv ball n t T) (c:Int) (x:Int)=if canG cf mv ball T c x=true then t else tab2 T (c:Int) (x:Int):=tab2_tabM _ hc hx
theorem negsM_step {cf mv:List (List Int)} {ball:Int->List Int} {n:Nat} {t:Int} (ht:0<=t) {T:Tab} (h:anyG cf mv ball n T=true):negsM cf.length n (stepG cf mv ball n t T)<negsM cf.length n T:=by
 obtain ⟨c,x,hc,hx,hcan⟩:=anyG_spec.1 h
 have hdiv:∀i,i<cf.length*n->i / n<cf.length/\i % n<n:=fun i hi=>by
  have hn:0<n:=by omega
  exact ⟨(Nat.div_lt_iff_lt_mul hn).2 hi,Nat.mod_lt _ hn⟩
 have hsub:=countP_lt (p:=fun i=>decide (tab2 T ((i / n:Nat):Int) ((i % n:Nat):Int)<0)) (q:=fun i=>decide (tab2 (stepG cf mv ball n t T) ((i / n:Nat):Int) ((i % n:Nat):Int)<0)) (l:=List.range (cf.length*n)) (fun i hi h=>by
  obtain ⟨d1,d2⟩:=hdiv i (List.mem_range.1 hi)
  have h:=of_decide_eq_true h
  rw [stepG_at d1 d2] at h
  split at h
  ·omega
  ·exact decide_eq_true h)
 refine hsub.2 ⟨c*n+x,?_,?_,?_⟩
 ·rw [List.mem_range]
  have:(c+1)*n<=cf.length*n:=Nat.mul_le_mul_right _ hc
  rw [Nat.succ_mul] at this
  omega
 all_goals
  have e1:(c*n+x) / n=c:=by
   rw [Nat.mul_comm,Nat.mul_add_div (by omega),Nat.div_eq_of_lt hx]
   omega
  have e2:(c*n+x) % n=x:=by
   rw [Nat.mul_comm,Nat.mul_add_mod,Nat.mod_eq_of_lt hx]
  simp only [e1,e2]
 ·unfold canG at hcan
  simp only [Bool.and_eq_true] at hcan
  exact hcan.1
 ·rw [stepG_at hc hx,if_pos hcan]
  simpa using ht
theorem negsM_le (m n:Nat) (T:Tab):negsM m n T<=m*n:=by
 unfold negsM
 have:=List.countP_le_length (p:=fun i=>decide (tab2 T ((i / n:Nat):Int) ((i % n:Nat):Int)<0)) (l:=List.range (m*n))
 simpa using this
theorem stepG_none {cf mv:List (List Int)} {ball:Int->List Int} {n:Nat} {t:Int} {T:Tab} (hT:rcB cf.length n T=true) (h:anyG cf mv ball n T=false):stepG cf mv ball n t T=T:=by
 refine Eq.trans (tabM_congr fun c x hc hx=>if_neg fun hh => ?_) (tabM_self hT)
 have:=anyG_spec.2 ⟨c,x,hc,hx,hh⟩
 rw [h] at this
 cases this
theorem gmB_parts {n:Nat} {cf mv:List (List Int)} (h:gmB n cf mv=true):cf.length<=120/\mv.length=cf.length/\(∀c,c<cf.length->(at_ K_Si cf c).length<=3/\cf.getD c []=at_ K_Si cf c /\ ∀x∈at_ K_Si cf c,inB 0 ((n:Int)-1) x=true) /\
  (∀c,c<cf.length->(at_ K_Si mv c).length<=1000/\mv.getD c []=at_ K_Si mv c /\ ∀d∈at_ K_Si mv c,inB 0 ((cf.length:Int)-1) d=true):=by
 unfold gmB at h
 simp only [Bool.and_eq_true,decide_eq_true_eq,List.all_eq_true] at h
 obtain ⟨⟨⟨h1,h2⟩,h3⟩,h4⟩:=h
 refine ⟨h1,h2,fun c hc => ?_,fun c hc => ?_⟩
 ·have e:at_ K_Si cf c=cf[c]:=at_get (e:=K_Si) hc
  have:=h3 _ (List.getElem_mem hc)
  rw [e]
  refine ⟨this.1,?_,this.2⟩
  rw [List.getD_eq_getElem?_getD,List.getElem?_eq_getElem hc]
  rfl
 ·have hc2:c<mv.length:=by omega
  have e:at_ K_Si mv c=mv[c]:=at_get (e:=K_Si) hc2
  have:=h4 _ (List.getElem_mem hc2)
  rw [e]
  refine ⟨this.1,?_,this.2⟩
  rw [List.getD_eq_getElem?_getD,List.getElem?_eq_getElem hc2]
  rfl
theorem blB_parts {bl:List (List Int)} (h:blB bl=true):bl.length<=8 /\ ∀x:Nat,x<bl.length->at_ K_Si bl x=ballA bl (x:Int)/\(ballA bl (x:Int)).length<=8 /\ ∀z∈ballA bl (x:Int),∃y:Nat,y<bl.length/\z=(y:Int):=by
 unfold blB at h
 simp only [Bool.and_eq_true,decide_eq_true_eq,List.all_eq_true] at h
 refine ⟨h.1,fun x hx => ?_⟩
 have e:at_ K_Si bl x=bl[x]:=at_get (e:=K_Si) hx
 have e2:ballA bl (x:Int)=bl[x]:=by
  unfold ballA
  rw [Int.toNat_natCast,List.getD_eq_getElem?_getD,List.getElem?_eq_getElem hx]
  rfl
 have:=h.2 _ (List.getElem_mem hx)
 rw [e,e2]
 refine ⟨rfl,this.1,fun z hz => ?_⟩
 obtain ⟨y,hy,h2⟩:=nodeX (this.2 z hz)
 exact ⟨y,h2,hy⟩
theorem af_l0 (N m n:Nat) (T:Tab) (hT:rcB m n T=true) (c:Nat) (hc:c<m) (ball:List Int) (hb:∀z∈ball,∃y:Nat,y<n/\z=(y:Int)) (hl:ball.length<=1000):∀(k i f:Nat) (s:Int),i+k=ball.length->k<f ->
  q66q_l0 N f (T,(c:Int),s,ball,(i:Int),())=some (.inl (worstL (tab2 T c) (ball.drop i) s,()))\/q66q_l0 N f (T,(c:Int),s,ball,(i:Int),())=some (.inr (.inl (worstL (tab2 T c) (ball.drop i) s,()))):=by
 have hmx:ball.length<=maxLen:=by unfold maxLen;omega
 obtain ⟨t1,t2⟩:=rcB_parts hT
 intro k
 induction k with
 | zero=>
  intro i f m h1 h2
  obtain ⟨f,rfl⟩:∃m,f=m+1:=⟨f-1,by omega⟩
  have e:i=ball.length:=by omega
  subst e
  rw [List.drop_of_length_le (Nat.le_refl _)]
  right
  simp [q66q_l0,q66q_l0_r,worstL]
 | succ k ih=>
  intro i f s h1 h2
  obtain ⟨f,rfl⟩:∃m,f=m+1:=⟨f-1,by omega⟩
  have hi:i<ball.length:=by omega
  obtain ⟨y,hy,ey⟩:=hb ball[i] (List.getElem_mem hi)
  have e:at_ I ball i=(y:Int):=(at_get (e:=I) hi).trans ey
  have i1:idxIn (c:Int) T.length=true:=idxIn_nat (by omega)
  have i2:idxIn (y:Int) (at_ K_Si T c).length=true:=idxIn_nat (by rw [t2 c hc];exact hy)
  have hv:=tab2_rc hT hc hy
  have hd:ball.drop i=(y:Int)::ball.drop (i+1):=by rw [List.drop_eq_getElem_cons hi,ey]
  have step:q66q_l0 N (f+1) (T,(c:Int),s,ball,(i:Int),())=if tab2 T c y<0 then some (.inl (-1,())) else q66q_l0 N f (T,(c:Int),(if s<tab2 T c y then tab2 T c y else s),ball,((i+1:Nat):Int),()):=by
   show q66q_l0_r N (q66q_l0 N f) (T,(c:Int),s,ball,(i:Int),())=_
   unfold q66q_l0_r
   simp only [lt_dec hi,if_true,i1,idxIn_nat hi,Int.toNat_natCast,e,i2,hv,most_eq,wrap_up hi hmx]
   by_cases h:tab2 T c y<0
   ·simp only [h,decide_true,if_true]
   ·simp only [h,decide_false,Bool.false_eq_true,if_false]
  rw [step,hd]
  simp only [worstL]
  by_cases h:tab2 T c y<0
  ·rw [if_pos h,if_pos h]
   exact .inl rfl
  ·rw [if_neg h,if_neg h]
   exact ih (i+1) f _ (by omega) (by omega)
theorem l4After_lim (d) (r) (h:G_l4After d=some r):∃N,F_q66q N d=some r:=by
 obtain ⟨⟨cf,mv,bl,v⟩,T,c,x,_⟩:=d
 unfold G_l4After at h
 split at h
 ·rename_i hc
  simp only [Bool.and_eq_true] at hc
  obtain ⟨⟨⟨⟨hg,hb⟩,hT⟩,hc'⟩,hx'⟩:=hc
  obtain ⟨g1,g2,g3,g4⟩:=gmB_parts hg
  obtain ⟨b1,b2⟩:=blB_parts hb
  obtain ⟨c,rfl,hc⟩:=nodeX hc'
  obtain ⟨x,rfl,hx⟩:=nodeX hx'
  have h:=Option.some.inj h
  subst h
  obtain ⟨x1,x2,x3⟩:=b2 x hx
  obtain ⟨y1,y2,y3⟩:=g3 c hc
  refine ⟨20,?_⟩
  have hl:=af_l0 20 cf.length bl.length T hT c hc (ballA bl (x:Int)) x3 (by omega) (ballA bl (x:Int)).length 0 20 0 (by omega) (by omega)
  simp only [Int.natCast_zero,List.drop_zero] at hl
  unfold F_q66q afterG
  simp only [idxIn_nat hc,idxIn_nat hx,if_true,Int.toNat_natCast,has1 (okL_of (show (at_ K_Si cf c).length<=1048576 by omega)),Option.bind_some,x1,y2]
  by_cases hh:hasL (at_ K_Si cf c) (x:Int)=true
  ·simp only [hh,if_true]
  ·simp only [hh,Bool.false_eq_true,if_false]
   rcases hl with h | h
   ·simp only [h,Option.bind_some]
   ·simp only [h,Option.bind_some]
 ·cases h
theorem afterG_some {cf mv bl:List (List Int)} (hg:gmB bl.length cf mv=true) (hb:blB bl=true) {T:Tab} (hT:rcB cf.length bl.length T=true) {d x:Int} (hd:inB 0 ((cf.length:Int)-1) d=true) (hx:inB 0 ((bl.length:Int)-1) x=true) (v u:Unit):G_l4After ((cf,mv,bl,v),T,d,x,u)=some (afterG cf (ballA bl) T d x,()):=by
 unfold G_l4After
 simp only [hg,hb,hT,hd,hx,Bool.and_self,if_true]
theorem ts_l2 (N:Nat) (cf mv bl:List (List Int)) (hg:gmB bl.length cf mv=true) (hb:blB bl=true) (v:Unit) (T:Tab) (c:Nat) (hc:c<cf.length):∀(k x f:Nat),x+k=bl.length->k<f ->
  q64q_l2 N f ((cf,mv,bl,v),T,(c:Int),(List.range x).map (fun (x:Nat)=>if hasL (cf.getD c []) (x:Int)=true then 0 else -1),(x:Int),())=some (.inl ((cf,mv,bl,v),T,(c:Int),(List.range bl.length).map (fun (x:Nat)=>if hasL (cf.getD c []) (x:Int)=true then 0 else -1),())):=by
 obtain ⟨g1,g2,g3,g4⟩:=gmB_parts hg
 obtain ⟨b1,b2⟩:=blB_parts hb
 obtain ⟨y1,y2,y3⟩:=g3 c hc
 intro k
 induction k with
 | zero=>
  intro x f h1 h2
  obtain ⟨f,rfl⟩:∃m,f=m+1:=⟨f-1,by omega⟩
  have e:x=bl.length:=by omega
  subst e
  show q64q_l2_r _ _ _=_
  unfold q64q_l2_r
  simp only [lt_not,Bool.false_eq_true,if_false]
 | succ k ih=>
  intro x f h1 h2
  obtain ⟨f,rfl⟩:∃m,f=m+1:=⟨f-1,by omega⟩
  have hx:x<bl.length:=by omega
  have hle:∀w:Int,decide (((List.range x).map (fun (x:Nat)=>if hasL (cf.getD c []) (x:Int)=true then (0:Int) else -1)).length+List.length [w]<=lim)=true:=fun w=>by
   unfold lim
   simp
   omega
  have fin:=ih (x+1) f (by omega) (by omega)
  rw [<- range_snoc x (fun (x:Nat)=>if hasL (cf.getD c []) (x:Int)=true then 0 else -1)] at fin
  show q64q_l2_r _ _ _=_
  unfold q64q_l2_r
  simp only [lt_dec hx,if_true,idxIn_nat hc,Int.toNat_natCast,has1 (okL_of (show (at_ K_Si cf c).length<=1048576 by omega)),Option.bind_some,hle,small_wrap (show x<=100000 by omega)]
  by_cases hh:hasL (at_ K_Si cf c) (x:Int)=true
  ·rw [y2,if_pos hh] at fin
   simp only [hh,if_true,y2]
   exact fin
  ·rw [y2,if_neg hh] at fin
   simp only [hh,Bool.false_eq_true,if_false,y2]
   exact fin
theorem ts_l0 (N:Nat) (hN:200<=N) (cf mv bl:List (List Int)) (hg:gmB bl.length cf mv=true) (hb:blB bl=true) (v:Unit):∀(k c f:Nat),c+k=cf.length->k<f ->
  q64q_l0 N f ((cf,mv,bl,v),(List.range c).map (fun c=>(List.range bl.length).map (fun (x:Nat)=>if hasL (cf.getD c []) (x:Int)=true then (0:Int) else -1)),(c:Int),())=some (.inl ((cf,mv,bl,v),startG cf bl.length,())):=by
 obtain ⟨g1,g2,g3,g4⟩:=gmB_parts hg
 obtain ⟨b1,b2⟩:=blB_parts hb
 intro k
 induction k with
 | zero=>
  intro c f h1 h2
  obtain ⟨f,rfl⟩:∃m,f=m+1:=⟨f-1,by omega⟩
  have e:c=cf.length:=by omega
  subst e
  show q64q_l0_r _ _ _=_
  unfold q64q_l0_r
  simp only [lt_not,Bool.false_eq_true,if_false]
  rfl
 | succ k ih=>
  intro c f h1 h2
  obtain ⟨f,rfl⟩:∃m,f=m+1:=⟨f-1,by omega⟩
  have hc:c<cf.length:=by omega
  have hin:=ts_l2 N cf mv bl hg hb v ((List.range c).map (fun c=>(List.range bl.length).map (fun (x:Nat)=>if hasL (cf.getD c []) (x:Int)=true then (0:Int) else -1))) c hc bl.length 0 N (by omega) (by omega)
  simp only [List.range_zero,List.map_nil,Int.natCast_zero] at hin
  have hle:∀w:List Int,decide (((List.range c).map (fun c=>(List.range bl.length).map (fun (x:Nat)=>if hasL (cf.getD c []) (x:Int)=true then (0:Int) else -1))).length+List.length [w]<=lim)=true:=fun w=>by
   unfold lim
   simp
   omega
  have fin:=ih (c+1) f (by omega) (by omega)
  rw [<- range_snocT c (fun c=>(List.range bl.length).map (fun (x:Nat)=>if hasL (cf.getD c []) (x:Int)=true then (0:Int) else -1))] at fin
  show q64q_l0_r _ _ _=_
  unfold q64q_l0_r
  simp only [lt_dec hc,if_true,hin,Option.bind_some,hle,small_wrap (show c<=100000 by omega)]
  exact fin
theorem ts_l10 (N:Nat) (cf mv bl:List (List Int)) (hg:gmB bl.length cf mv=true) (hb:blB bl=true) (v:Unit) (T:Tab) (hT:rcB cf.length bl.length T=true) (t:Nat) (ht:1<=t) (next:Tab) (c:Nat) (hc:c<cf.length) (x:Nat) (hx:x<bl.length) (row:List Int) (hr:row.length=bl.length) (hneg:at_ I row x<0) :
  ∀(k i f:Nat) (ch:Bool),i+k=(at_ K_Si mv c).length->k+1<f ->
  q64q_l10 N f ((cf,mv,bl,v),T,(t:Int),next,ch,(c:Int),row,(x:Int),(i:Int),()) =
   some (.inl ((cf,mv,bl,v),T,(t:Int),next,ch||((at_ K_Si mv c).drop i).any (fun d=>decide (0<=afterG cf (ballA bl) T d (x:Int))),(c:Int),(if ((at_ K_Si mv c).drop i).any (fun d=>decide (0<=afterG cf (ballA bl) T d (x:Int)))=true then row.set x (t:Int) else row),(x:Int),())):=by
 obtain ⟨g1,g2,g3,g4⟩:=gmB_parts hg
 obtain ⟨b1,b2⟩:=blB_parts hb
 obtain ⟨m1,m2,m3⟩:=g4 c hc
 have i1:idxIn (c:Int) mv.length=true:=idxIn_nat (by omega)
 have i2:idxIn (x:Int) row.length=true:=idxIn_nat (by omega)
 have hxi:inB 0 ((bl.length:Int)-1) (x:Int)=true:=inB_iff.2 (by omega)
 intro k
 induction k with
 | zero=>
  intro i f ch h1 h2
  obtain ⟨f,rfl⟩:∃m,f=m+1:=⟨f-1,by omega⟩
  have e:i=(at_ K_Si mv c).length:=by omega
  rw [List.drop_of_length_le (by omega)]
  subst e
  show q64q_l10_r _ _ _=_
  unfold q64q_l10_r
  simp only [i1,if_true,Int.toNat_natCast,lt_not,Bool.false_eq_true,if_false,List.any_nil,Bool.or_false]
 | succ k ih=>
  intro i f ch h1 h2
  obtain ⟨f,rfl⟩:∃m,f=m+1:=⟨f-1,by omega⟩
  have hi:i<(at_ K_Si mv c).length:=by omega
  have ei:at_ I (at_ K_Si mv c) i=(at_ K_Si mv c)[i]:=at_get (e:=I) hi
  have haf:=afterG_some hg hb hT (m3 _ (List.getElem_mem hi)) hxi v ()
  rw [List.drop_eq_getElem_cons hi,List.any_cons]
  show q64q_l10_r _ _ _=_
  unfold q64q_l10_r
  simp only [i1,if_true,Int.toNat_natCast,lt_dec hi,i2,hneg,decide_true,idxIn_nat hi,ei,haf,Option.bind_some,small_wrap (show i<=100000 by omega)]
  by_cases h0:0<=afterG cf (ballA bl) T (at_ K_Si mv c)[i] (x:Int)
  ·have h0':decide (afterG cf (ballA bl) T (at_ K_Si mv c)[i] (x:Int)>=0)=true:=decide_eq_true h0
   simp only [h0',h0,decide_true,if_true,Bool.true_or,Bool.or_true]
   obtain ⟨f,rfl⟩:∃m,f=m+1:=⟨f-1,by omega⟩
   have es:at_ I (row.set x (t:Int)) x=(t:Int):=by
    have e1:at_ I (row.set x (t:Int)) x=(row.set x (t:Int))[x]'(by rw [List.length_set];omega):=at_get (e:=I) (by rw [List.length_set];omega)
    rw [e1,List.getElem_set_self]
   have i3:idxIn (x:Int) (row.set x (t:Int)).length=true:=idxIn_nat (by rw [List.length_set];omega)
   have hpos:decide ((t:Int)<0)=false:=decide_eq_false (by omega)
   show q64q_l10_r _ _ _=_
   unfold q64q_l10_r
   by_cases hi2:i+1<(at_ K_Si mv c).length
   ·simp only [i1,if_true,Int.toNat_natCast,lt_dec hi2,i3,es,hpos,Bool.false_eq_true,if_false]
   ·have e:decide (((i+1:Nat):Int)<((at_ K_Si mv c).length:Int))=false:=decide_eq_false (by omega)
    simp only [i1,if_true,Int.toNat_natCast,e,Bool.false_eq_true,if_false]
  ·have h0':decide (afterG cf (ballA bl) T (at_ K_Si mv c)[i] (x:Int)>=0)=false:=decide_eq_false h0
   simp only [h0',h0,decide_false,Bool.false_eq_true,if_false,Bool.false_or]
   exact ih (i+1) f ch (by omega) (by omega)
theorem ts_l8 (N:Nat) (hN:2000<=N) (cf mv bl:List (List Int)) (hg:gmB bl.length cf mv=true) (hb:blB bl=true) (v:Unit) (T:Tab) (hT:rcB cf.length bl.length T=true) (t:Nat) (ht:1<=t) (next:Tab) (c:Nat) (hc:c<cf.length):∀(k x f:Nat) (ch:Bool),x+k=bl.length->k<f ->
  q64q_l8 N f ((cf,mv,bl,v),T,(t:Int),next,ch,(c:Int),rowU bl.length (fun x=>tab2 T (c:Int) (x:Int)) (fun x=>if canG cf mv (ballA bl) T c x=true then (t:Int) else tab2 T (c:Int) (x:Int)) x,(x:Int),()) =
   some (.inl ((cf,mv,bl,v),T,(t:Int),next,ch||(List.range' x k).any (fun x=>canG cf mv (ballA bl) T c x),(c:Int),(List.range bl.length).map (fun x=>if canG cf mv (ballA bl) T c x=true then (t:Int) else tab2 T (c:Int) (x:Int)),())):=by
 obtain ⟨g1,g2,g3,g4⟩:=gmB_parts hg
 obtain ⟨b1,b2⟩:=blB_parts hb
 obtain ⟨m1,m2,m3⟩:=g4 c hc
 have i1:idxIn (c:Int) mv.length=true:=idxIn_nat (by omega)
 intro k
 induction k with
 | zero=>
  intro x f ch h1 h2
  obtain ⟨f,rfl⟩:∃m,f=m+1:=⟨f-1,by omega⟩
  have e:x=bl.length:=by omega
  subst e
  show q64q_l8_r _ _ _=_
  unfold q64q_l8_r
  simp only [rowU_full,List.length_map,List.length_range,lt_not,Bool.false_eq_true,if_false,List.range'_zero,List.any_nil,Bool.or_false]
 | succ k ih=>
  intro x f ch h1 h2
  obtain ⟨f,rfl⟩:∃m,f=m+1:=⟨f-1,by omega⟩
  have hx:x<bl.length:=by omega
  have hlt:∀g h:Nat->Int,decide (((x:Nat):Int)<((rowU bl.length g h x).length:Int))=true:=fun g h=>by rw [rowU_len];exact lt_dec hx
  rw [List.range'_succ,List.any_cons,<- Bool.or_assoc]
  show q64q_l8_r _ _ _=_
  unfold q64q_l8_r
  by_cases hn:tab2 T (c:Int) (x:Int)<0
  ·have hin:=ts_l10 N cf mv bl hg hb v T hT t ht next c hc x hx (rowU bl.length (fun x=>tab2 T (c:Int) (x:Int)) (fun x=>if canG cf mv (ballA bl) T c x=true then (t:Int) else tab2 T (c:Int) (x:Int)) x) (rowU_len _ _ _ _) (by rw [rowU_at hx];exact hn) (at_ K_Si mv c).length 0 N ch (by omega) (by omega)
   simp only [Int.natCast_zero,List.drop_zero] at hin
   have hcan:canG cf mv (ballA bl) T c x=(at_ K_Si mv c).any (fun d=>decide (0<=afterG cf (ballA bl) T d (x:Int))):=by
    unfold canG
    rw [m2]
    simp [hn]
   rw [<- hcan] at hin
   simp only [hlt,if_true,hin,Option.bind_some,small_wrap (show x<=100000 by omega)]
   by_cases hcc:canG cf mv (ballA bl) T c x=true
   ·have e1:=rowU_set (n:=bl.length) (f:=fun x=>tab2 T (c:Int) (x:Int)) (g:=fun x=>if canG cf mv (ballA bl) T c x=true then (t:Int) else tab2 T (c:Int) (x:Int)) (v:=(t:Int)) hx (if_pos hcc)
    simp only [hcc,if_true,e1]
    exact ih (x+1) f _ (by omega) (by omega)
   ·have e1:=rowU_keep (n:=bl.length) (f:=fun x=>tab2 T (c:Int) (x:Int)) (g:=fun x=>if canG cf mv (ballA bl) T c x=true then (t:Int) else tab2 T (c:Int) (x:Int)) (x:=x) (if_neg hcc)
    rw [if_neg hcc,e1]
    exact ih (x+1) f _ (by omega) (by omega)
  ·have hcan:canG cf mv (ballA bl) T c x=false:=by
    unfold canG
    simp [hn]
   have e1:=rowU_keep (n:=bl.length) (f:=fun x=>tab2 T (c:Int) (x:Int)) (g:=fun x=>if canG cf mv (ballA bl) T c x=true then (t:Int) else tab2 T (c:Int) (x:Int)) (x:=x) (if_neg (by rw [hcan];simp))
   have i2:∀g h:Nat->Int,idxIn (x:Int) (rowU bl.length g h x).length=true:=fun g h=>by rw [rowU_len];exact idxIn_nat hx
   have hin:q64q_l10 N N ((cf,mv,bl,v),T,(t:Int),next,ch,(c:Int),rowU bl.length (fun x=>tab2 T (c:Int) (x:Int)) (fun x=>if canG cf mv (ballA bl) T c x=true then (t:Int) else tab2 T (c:Int) (x:Int)) x,(x:Int),0,())=some (.inl ((cf,mv,bl,v),T,(t:Int),next,ch,(c:Int),rowU bl.length (fun x=>tab2 T (c:Int) (x:Int)) (fun x=>if canG cf mv (ballA bl) T c x=true then (t:Int) else tab2 T (c:Int) (x:Int)) x,(x:Int),())):=by
    obtain ⟨M,rfl⟩:∃m,N=m+1:=⟨N-1,by omega⟩
    show q64q_l10_r _ _ _=_
    unfold q64q_l10_r
    simp only [i1,if_true,Int.toNat_natCast,i2,rowU_at hx,hn,decide_false,Bool.false_eq_true,if_false]
    split<;>rfl
   simp only [hlt,if_true,hin,Option.bind_some,small_wrap (show x<=100000 by omega),hcan,Bool.or_false]
   rw [e1]
   exact ih (x+1) f _ (by omega) (by omega)
theorem ts_l6 (N:Nat) (hN:2000<=N) (cf mv bl:List (List Int)) (hg:gmB bl.length cf mv=true) (hb:blB bl=true) (v:Unit) (T:Tab) (hT:rcB cf.length bl.length T=true) (t:Nat) (ht:1<=t):∀(k c f:Nat) (ch:Bool),c+k=cf.length->k<f ->
  q64q_l6 N f ((cf,mv,bl,v),T,(t:Int),(List.range c).map (fun c=>(List.range bl.length).map (fun x=>if canG cf mv (ballA bl) T c x=true then (t:Int) else tab2 T (c:Int) (x:Int))),ch,(c:Int),()) =
   some (.inl ((cf,mv,bl,v),(t:Int),stepG cf mv (ballA bl) bl.length (t:Int) T,ch||(List.range' c k).any (fun c=>(List.range bl.length).any fun x=>canG cf mv (ballA bl) T c x),())):=by
 obtain ⟨g1,g2,g3,g4⟩:=gmB_parts hg
 obtain ⟨b1,b2⟩:=blB_parts hb
 obtain ⟨t1,t2⟩:=rcB_parts hT
 intro k
 induction k with
 | zero=>
  intro c f ch h1 h2
  obtain ⟨f,rfl⟩:∃m,f=m+1:=⟨f-1,by omega⟩
  have e:c=cf.length:=by omega
  subst e
  have hlt:decide (((cf.length:Nat):Int)<(T.length:Int))=false:=by rw [t1];exact lt_not _
  show q64q_l6_r _ _ _=_
  unfold q64q_l6_r
  simp only [hlt,Bool.false_eq_true,if_false,List.range'_zero,List.any_nil,Bool.or_false]
  rfl
 | succ k ih=>
  intro c f ch h1 h2
  obtain ⟨f,rfl⟩:∃m,f=m+1:=⟨f-1,by omega⟩
  have hc:c<cf.length:=by omega
  have hlt:decide (((c:Nat):Int)<(T.length:Int))=true:=by rw [t1];exact lt_dec hc
  have i1:idxIn (c:Int) T.length=true:=by rw [t1];exact idxIn_nat hc
  have hin:=ts_l8 N hN cf mv bl hg hb v T hT t ht ((List.range c).map (fun c=>(List.range bl.length).map (fun x=>if canG cf mv (ballA bl) T c x=true then (t:Int) else tab2 T (c:Int) (x:Int)))) c hc bl.length 0 N ch (by omega) (by omega)
  rw [rowU_zero] at hin
  simp only [Int.natCast_zero,<- List.range_eq_range'] at hin
  have hle:∀w:List Int,decide (((List.range c).map (fun c=>(List.range bl.length).map (fun x=>if canG cf mv (ballA bl) T c x=true then (t:Int) else tab2 T (c:Int) (x:Int)))).length+List.length [w]<=lim)=true:=fun w=>by
   unfold lim
   simp
   omega
  have fin:=ih (c+1) f (ch||(List.range bl.length).any (fun x=>canG cf mv (ballA bl) T c x)) (by omega) (by omega)
  rw [<- range_snocT c (fun c=>(List.range bl.length).map (fun x=>if canG cf mv (ballA bl) T c x=true then (t:Int) else tab2 T (c:Int) (x:Int)))] at fin
  have hown:=own_some (at_ K_Si T c) (by rw [t2 c hc];omega)
  rw [row_rc hT hc] at hown
  rw [List.range'_succ,List.any_cons,<- Bool.or_assoc]
  show q64q_l6_r _ _ _=_
  unfold q64q_l6_r
  simp only [hlt,if_true,i1,Int.toNat_natCast,row_rc hT hc,hown,Option.bind_some,hin,hle,small_wrap (show c<=100000 by omega)]
  exact fin
theorem ts_l4 (N:Nat) (hN:2000<=N) (cf mv bl:List (List Int)) (hg:gmB bl.length cf mv=true) (hb:blB bl=true) (v:Unit):∀(k t:Nat) (T:Tab),rcB cf.length bl.length T=true->1<=t->t+k<=2000->negsM cf.length bl.length T<k -> ∀f,k+1<=f ->
  q64q_l4 N f ((cf,mv,bl,v),T,(t:Int),())=some (.inl (gameT cf mv (ballA bl) bl.length k (t:Int) T,())):=by
 obtain ⟨g1,g2,g3,g4⟩:=gmB_parts hg
 intro k
 induction k with
 | zero=>intro t T _ _ _ h;omega
 | succ k ih=>
  intro t T hT ht h2000 hneg f hf
  obtain ⟨f,rfl⟩:∃m,f=m+1:=⟨f-1,by omega⟩
  have hin:=ts_l6 N hN cf mv bl hg hb v T hT t ht cf.length 0 N false (by omega) (by omega)
  simp only [List.range_zero,List.map_nil,Int.natCast_zero,Bool.false_or,<- List.range_eq_range'] at hin
  have hany:((List.range cf.length).any (fun c=>(List.range bl.length).any fun x=>canG cf mv (ballA bl) T c x))=anyG cf mv (ballA bl) bl.length T:=rfl
  rw [hany] at hin
  show q64q_l4_r _ _ _=_
  unfold q64q_l4_r gameT
  simp only [hin,Option.bind_some]
  cases ha:anyG cf mv (ballA bl) bl.length T with
  | true=>
   have:=negsM_step (t:=(t:Int)) (by omega) ha
   simp only [Bool.not_true,Bool.false_eq_true,if_false,if_true,small_wrap (show t<=100000 by omega)]
   have:=ih (t+1) (stepG cf mv (ballA bl) bl.length (t:Int) T) (rc_tabM _ _ _) (by omega) (by omega) (by omega) f (by omega)
   exact this
  | false=>
   simp only [Bool.not_false,if_true,Bool.false_eq_true,if_false,stepG_none hT ha]
theorem l4Times_lim (d) (r) (h:G_l4Times d=some r):∃N,F_q64q N d=some r:=by
 obtain ⟨⟨cf,mv,bl,v⟩,_⟩:=d
 unfold G_l4Times at h
 split at h
 ·rename_i hc
  simp only [Bool.and_eq_true] at hc
  obtain ⟨hg,hb⟩:=hc
  obtain ⟨g1,g2,g3,g4⟩:=gmB_parts hg
  obtain ⟨b1,b2⟩:=blB_parts hb
  have h:=Option.some.inj h
  subst h
  refine ⟨2000,?_⟩
  have h0:=ts_l0 2000 (by omega) cf mv bl hg hb v cf.length 0 2000 (by omega) (by omega)
  simp only [List.range_zero,List.map_nil,Int.natCast_zero] at h0
  have hneg:=negsM_le cf.length bl.length (startG cf bl.length)
  have hmul:cf.length*bl.length<=120*8:=Nat.mul_le_mul g1 b1
  have h4:=ts_l4 2000 (by omega) cf mv bl hg hb v 1000 1 (startG cf bl.length) (rc_tabM _ _ _) (by omega) (by omega) (by omega) 2000 (by omega)
  unfold F_q64q
  simp only [h0,Option.bind_some]
  have e1:((1:Nat):Int)=1:=rfl
  rw [e1] at h4
  simp only [h4,Option.bind_some]
  rfl
 ·cases h
end Go.V.W
namespace Go.V.W
open Go.Proofs
theorem cgB_parts {l:List Int} {v u:Unit} {cf mv:List (List Int)} {T:Tab} (h:cgB ((l,v),cf,mv,T,u)=true):netB l=true/\1<=l.length/\gmB l.length cf mv=true/\rcB cf.length l.length T=true:=by
 unfold cgB at h
 simp only [Bool.and_eq_true,decide_eq_true_eq] at h
 exact ⟨h.1.1.1,h.1.1.2,h.1.2,h.2⟩
theorem timeAfter_some {l:List Int} (hl:netB l=true) {cf:List (List Int)} {T:Tab} (hT:rcB cf.length l.length T=true) {d x:Nat} (hd:d<cf.length) (hx:x<l.length) (v u:Unit):G_timeAfter ((l,v),at_ K_Si T d,(x:Int),u)=some (worstL (tab2 T (d:Int)) (ballM l (x:Int)) 0,()):=by
 obtain ⟨t1,t2⟩:=rcB_parts hT
 have hlen:decide ((at_ K_Si T d).length=l.length)=true:=decide_eq_true (t2 d hd)
 have i2:inB 0 ((l.length:Int)-1) (x:Int)=true:=inB_iff.2 (by omega)
 have hlt:d<T.length:=by omega
 have ea:at_ K_Si T d=T.getD d []:=by
  have:at_ K_Si T d=T[d]:=at_get (e:=K_Si) hlt
  rw [this,List.getD_eq_getElem?_getD,List.getElem?_eq_getElem hlt]
  rfl
 unfold G_timeAfter
 simp only [hl,hlen,i2,Bool.and_self,if_true]
 rw [ea]
 rfl
theorem can1g_some {l:List Int} {v u:Unit} {cf mv:List (List Int)} {T:Tab} (h:cgB ((l,v),cf,mv,T,u)=true) {d x:Nat} (hd:d<cf.length) (hx:x<l.length) (a b e:Unit):FV_q16q ((d:Int),(a,((l,v),cf,mv,T,u),(x:Int),b),e)=some (decide (0<=afterG cf (ballM l) T (d:Int) (x:Int)),()):=by
 obtain ⟨h1,h2,h3,h4⟩:=cgB_parts h
 obtain ⟨g1,g2,g3,g4⟩:=gmB_parts h3
 obtain ⟨y1,y2,y3⟩:=g3 d hd
 obtain ⟨t1,t2⟩:=rcB_parts h4
 have i1:idxIn (d:Int) T.length=true:=idxIn_nat (by omega)
 unfold FV_q16q F_q16q afterG
 simp only [idxIn_nat hd,if_true,Int.toNat_natCast,has2 (okL_of (show (at_ K_Si cf d).length<=1048576 by omega)),Option.bind_some,y2,i1,timeAfter_some h1 h4 hd hx]
 by_cases hh:hasL (at_ K_Si cf d) (x:Int)=true
 ·simp only [hh,if_true]
  rfl
 ·simp only [hh,Bool.false_eq_true,if_false]
theorem gameCan_lim (d) (r) (h:G_gameCan d=some r):∃N,F_q4q N d=some r:=by
 obtain ⟨xs,⟨a,⟨⟨l,v⟩,cf,mv,T,u⟩,q,b⟩,_⟩:=d
 unfold G_gameCan at h
 split at h
 ·rename_i hc
  simp only [Bool.and_eq_true,decide_eq_true_eq] at hc
  obtain ⟨⟨⟨hg,hq'⟩,hlen⟩,hxs⟩:=hc
  obtain ⟨q,rfl,hq⟩:=nodeX hq'
  have h:=Option.some.inj h
  subst h
  have hlen:xs.length<=1000:=hlen
  have hmx:xs.length<=maxLen:=by unfold maxLen;omega
  refine ⟨xs.length+1,?_⟩
  unfold F_q4q
  have:=loop_idx (L:=q4q_l0 (xs.length+1)) (r:=q4q_l0_r (xs.length+1)) (fun _ _=>rfl) (e:=I) xs (mk:=fun i=>(xs,(a,((l,v),cf,mv,T,u),(q:Int),b),(xs.length:Int),(i:Int),())) (q:=fun b=>decide (0<=afterG cf (ballM l) T b (q:Int))) (o:=fun i=>.inl ((i:Int),())) (f:=.inr (.inl ()))
   (by
    intro back i hi
    have hx:at_ I xs i=xs[i]:=at_get (e:=I) hi
    obtain ⟨y,b1,b2⟩:=nodeX (List.all_eq_true.1 hxs xs[i] (List.getElem_mem hi))
    have hcan:=can1g_some hg b2 hq a b ()
    rw [<- b1] at hcan
    unfold q4q_l0_r
    simp only [lt_dec hi,if_true,idxIn_nat hi,Int.toNat_natCast,wrap_up hi hmx,hx,hcan,Option.bind_some])
   (by intro back;unfold q4q_l0_r;simp only [lt_not,Bool.false_eq_true,if_false]) xs.length 0 (by omega) (by omega)
  simp only [Int.natCast_zero,List.drop_zero] at this
  simp only [this,Option.bind_some]
  cases idxN (fun b=>decide (0<=afterG cf (ballM l) T b (q:Int))) xs 0<;>rfl
 ·cases h
theorem gcan_some {l:List Int} {v u:Unit} {cf mv:List (List Int)} {T:Tab} (h:cgB ((l,v),cf,mv,T,u)=true) {c x:Nat} (hc:c<cf.length) (hx:x<l.length) (b:Unit):F_q32q 0 (((l,v),cf,mv,T,u),(c:Int),(x:Int),b)=some ((at_ K_Si mv c).any (fun d=>decide (0<=afterG cf (ballM l) T d (x:Int))),()):=by
 obtain ⟨h1,h2,h3,h4⟩:=cgB_parts h
 obtain ⟨g1,g2,g3,g4⟩:=gmB_parts h3
 obtain ⟨m1,m2,m3⟩:=g4 c hc
 have i1:idxIn (c:Int) mv.length=true:=idxIn_nat (by omega)
 have i2:inB 0 ((l.length:Int)-1) (x:Int)=true:=inB_iff.2 (by omega)
 have hall:(at_ K_Si mv c).all (inB 0 ((cf.length:Int)-1))=true:=List.all_eq_true.2 m3
 have hlen:decide ((at_ K_Si mv c).length<=1000)=true:=decide_eq_true m1
 unfold F_q32q F_q3q
 simp only [i1,if_true,Int.toNat_natCast,G_gameCan,h,i2,hlen,hall,Bool.and_self,Option.bind_some,idxI_ge]
theorem has_take {c:List Int} {j:Nat} (hj:j<c.length) (x:Int):hasL (c.take (j+1)) x=(hasL (c.take j) x||c[j]==x):=by
 unfold hasL
 rw [List.take_add_one,List.any_append,List.getElem?_eq_getElem hj]
 simp
theorem cg_l2 (N:Nat) (w:Nt) (y:Cg) (a:List (List Int)) (b e:Int) (n:Nat) (c:List Int) (hc3:c.length<=3) (hc:∀x∈c,inB 0 ((n:Int)-1) x=true):∀q j f,j+q=c.length->q<f ->
  q26q_l2 N f (w,y,(List.range n).map (fun (x:Nat)=>if hasL (c.take j) (x:Int)=true then (0:Int) else -1),a,b,e,c,(c.length:Int),(j:Int),())=some (.inl (w,y,(List.range n).map (fun (x:Nat)=>if hasL c (x:Int)=true then (0:Int) else -1),a,b,e,())):=by
 intro q
 induction q with
 | zero=>
  intro j f e1 e2
  obtain ⟨f,rfl⟩:∃m,f=m+1:=⟨f-1,by omega⟩
  have e:j=c.length:=by omega
  subst e
  rw [List.take_of_length_le (Nat.le_refl _)]
  show q26q_l2_r _ _ _=_
  unfold q26q_l2_r
  simp only [lt_not,Bool.false_eq_true,if_false]
 | succ q ih=>
  intro j f e1 e2
  obtain ⟨f,rfl⟩:∃m,f=m+1:=⟨f-1,by omega⟩
  have hj:j<c.length:=by omega
  obtain ⟨z,hz,hzn⟩:=nodeX (hc c[j] (List.getElem_mem hj))
  have ej:at_ I c j=(z:Int):=(at_get (e:=I) hj).trans hz
  have i1:∀g:Nat->Int,idxIn (z:Int) ((List.range n).map g).length=true:=fun g=>idxIn_nat (by simpa using hzn)
  have fin:=ih (j+1) f (by omega) (by omega)
  have er:(List.range n).map (fun (x:Nat)=>if hasL (c.take (j+1)) (x:Int)=true then (0:Int) else -1)=((List.range n).map (fun (x:Nat)=>if hasL (c.take j) (x:Int)=true then (0:Int) else -1)).set z 0:=by
   rw [map_set]
   refine List.map_congr_left fun x _ => ?_
   rw [has_take hj,hz]
   by_cases exz:x=z
   ·subst exz;simp
   ·have:((z:Int)==(x:Int))=false:=by simp;omega
    rw [this,Bool.or_false,if_neg exz]
  rw [er] at fin
  show q26q_l2_r _ _ _=_
  unfold q26q_l2_r
  simp only [lt_dec hj,if_true,idxIn_nat hj,Int.toNat_natCast,ej,i1,small_wrap (show j<=100000 by omega)]
  exact fin
theorem cg_l0 (N:Nat) (hN:10<=N) (l:List Int) (v:Unit) (h1:1<=l.length) (h8:l.length<=8) (net:Nt) (cf mv:List (List Int)) (u:Unit) (hg:gmB l.length cf mv=true):∀q i f (acc:Tab),i+q=cf.length->q<f->acc.length+q<=1000 ->
  q26q_l0 N f ((l,v),(net,cf,mv,acc,u),cf,(cf.length:Int),(i:Int),())=some (.inl ((net,cf,mv,acc++(List.range' i q).map (fun c=>(List.range l.length).map (fun (x:Nat)=>if hasL (cf.getD c []) (x:Int)=true then (0:Int) else -1)),u),())):=by
 obtain ⟨g1,g2,g3,g4⟩:=gmB_parts hg
 intro q
 induction q with
 | zero=>
  intro i f acc e1 e2 e3
  obtain ⟨f,rfl⟩:∃m,f=m+1:=⟨f-1,by omega⟩
  have e:i=cf.length:=by omega
  subst e
  show q26q_l0_r _ _ _=_
  unfold q26q_l0_r
  simp only [lt_not,Bool.false_eq_true,if_false,List.range'_zero,List.map_nil,List.append_nil]
 | succ q ih=>
  intro i f acc e1 e2 e3
  obtain ⟨f,rfl⟩:∃m,f=m+1:=⟨f-1,by omega⟩
  have hi:i<cf.length:=by omega
  obtain ⟨y1,y2,y3⟩:=g3 i hi
  have hr:G_repeat ([-1],(l.length:Int),())=some ((List.range l.length).map (fun (x:Nat)=>if hasL ((at_ K_Si cf i).take 0) (x:Int)=true then (0:Int) else -1),()):=by
   unfold G_repeat
   have e1:decide (1<=(l.length:Int))=true:=by simp;omega
   have e2:decide ((l.length:Int)<=8)=true:=by simp;omega
   simp only [List.length_singleton,decide_true,e1,e2,Bool.and_self,if_true,Int.toNat_natCast,List.headD_cons]
   congr 2
   apply List.ext_getElem
   ·simp
   ·intro i h1 h2
    simp [hasL]
  have hin:=cg_l2 N (l,v) (net,cf,mv,acc,u) cf (cf.length:Int) (i:Int) l.length (at_ K_Si cf i) y1 y3 (at_ K_Si cf i).length 0 N (by omega) (by omega)
  simp only [Int.natCast_zero] at hin
  have c1:∀x:List Int,decide (acc.length+List.length [x]<=lim)=true:=fun x=>by unfold lim;simp;omega
  show q26q_l0_r _ _ _=_
  unfold q26q_l0_r g_q54q
  simp only [lt_dec hi,if_true,idxIn_nat hi,Int.toNat_natCast,hr,Option.bind_some,hin,c1,small_wrap (show i<=100000 by omega)]
  rw [ih (i+1) f _ (by omega) (by omega) (by simp;omega),List.range'_succ,List.map_cons,List.append_assoc,List.singleton_append,y2]
theorem cg_l8 (N:Nat) {l:List Int} {v u:Unit} {cf mv:List (List Int)} {T:Tab} (h:cgB ((l,v),cf,mv,T,u)=true) (t:Int) (fd:Bool) (c:Nat) (hc:c<cf.length) (a b:Int):∀(k x f:Nat) (fresh:List E),x+k=l.length->k<f->fresh.length+k<=2000 ->
  q26q_l8 N f (((l,v),cf,mv,T,u),t,fd,fresh,(c:Int),a,b,(l.length:Int),(x:Int),(),(c:Int),()) =
   some (.inl (((l,v),cf,mv,T,u),t,fd,fresh++rowE (canG cf mv (ballM l) T) c k x,a,b,(),())):=by
 obtain ⟨h1,h2,h3,h4⟩:=cgB_parts h
 obtain ⟨g1,g2,g3,g4⟩:=gmB_parts h3
 obtain ⟨m1,m2,m3⟩:=g4 c hc
 obtain ⟨t1,t2⟩:=rcB_parts h4
 obtain ⟨p1,p2,p3,p4⟩:=netB_parts h1
 intro k
 induction k with
 | zero=>
  intro x f fresh e1 e2 e3
  obtain ⟨f,rfl⟩:∃m,f=m+1:=⟨f-1,by omega⟩
  have e:x=l.length:=by omega
  subst e
  show q26q_l8_r _ _ _=_
  unfold q26q_l8_r
  simp only [lt_not,Bool.false_eq_true,if_false,rowE,List.append_nil]
 | succ k ih=>
  intro x f fresh e1 e2 e3
  obtain ⟨f,rfl⟩:∃m,f=m+1:=⟨f-1,by omega⟩
  have hx:x<l.length:=by omega
  have i2:idxIn (x:Int) (at_ K_Si T c).length=true:=idxIn_nat (by rw [t2 c hc];exact hx)
  have hv:=tab2_rc h4 hc hx
  have hle:decide (fresh.length+List.length [(((c:Int),(x:Int),()):E)]<=lim)=true:=by
   unfold lim
   simp
   omega
  show q26q_l8_r _ _ _=_
  unfold q26q_l8_r
  simp only [lt_dec hx,if_true,Int.toNat_natCast,i2,hv,gcan_some h hc hx,Option.bind_some,hle,small_wrap (show x<=100000 by omega),rowE]
  have hcan:canG cf mv (ballM l) T c x=(decide (tab2 T (c:Int) (x:Int)<0)&&(at_ K_Si mv c).any (fun d=>decide (0<=afterG cf (ballM l) T d (x:Int)))):=by
   unfold canG
   rw [m2]
  by_cases hf:tab2 T (c:Int) (x:Int)<0
  ·cases hany:(at_ K_Si mv c).any (fun d=>decide (0<=afterG cf (ballM l) T d (x:Int))) with
   | true=>
    rw [hany] at hcan
    simp only [hf,decide_true,Bool.and_self] at hcan
    simp only [hf,decide_true,if_true,hcan]
    rw [ih (x+1) f _ (by omega) (by omega) (by simp;omega)]
    simp
   | false=>
    rw [hany,Bool.and_false] at hcan
    simp only [hf,decide_true,if_true,hcan,Bool.false_eq_true,if_false]
    exact ih (x+1) f fresh (by omega) (by omega) (by omega)
  ·simp only [hf,decide_false,Bool.false_and] at hcan
   simp only [hf,decide_false,Bool.false_eq_true,if_false,hcan]
   exact ih (x+1) f fresh (by omega) (by omega) (by omega)
theorem cg_l6 (N:Nat) (hN:10<=N) {l:List Int} {v u:Unit} {cf mv:List (List Int)} {T:Tab} (h:cgB ((l,v),cf,mv,T,u)=true) (t:Int) (fd:Bool):∀(k c f:Nat) (fresh:List E),c+k=cf.length->k<f->fresh.length+8*k<=1000 ->
  q26q_l6 N f (((l,v),cf,mv,T,u),t,fd,fresh,(cf.length:Int),(c:Int),(),()) =
   some (.inl (((l,v),cf,mv,T,u),t,fd,fresh++allP (canG cf mv (ballM l) T) l.length k c,())):=by
 obtain ⟨h1,h2,h3,h4⟩:=cgB_parts h
 obtain ⟨g1,g2,g3,g4⟩:=gmB_parts h3
 obtain ⟨t1,t2⟩:=rcB_parts h4
 obtain ⟨p1,p2,p3,p4⟩:=netB_parts h1
 intro k
 induction k with
 | zero=>
  intro c f fresh e1 e2 e3
  obtain ⟨f,rfl⟩:∃m,f=m+1:=⟨f-1,by omega⟩
  have e:c=cf.length:=by omega
  subst e
  show q26q_l6_r _ _ _=_
  unfold q26q_l6_r
  simp only [lt_not,Bool.false_eq_true,if_false,allP,List.append_nil]
 | succ k ih=>
  intro c f fresh e1 e2 e3
  obtain ⟨f,rfl⟩:∃m,f=m+1:=⟨f-1,by omega⟩
  have hc:c<cf.length:=by omega
  have i1:idxIn (c:Int) T.length=true:=idxIn_nat (by omega)
  have hin:=cg_l8 N h t fd c hc (cf.length:Int) (c:Int) l.length 0 N fresh (by omega) (by omega) (by omega)
  simp only [Int.natCast_zero] at hin
  have hrl:=rowE_len (p:=canG cf mv (ballM l) T) (x:=c) (m:=l.length) (y:=0)
  show q26q_l6_r _ _ _=_
  unfold q26q_l6_r
  simp only [lt_dec hc,if_true,i1,Int.toNat_natCast,t2 c hc,hin,Option.bind_some,small_wrap (show c<=100000 by omega),allP]
  rw [ih (c+1) f _ (by omega) (by omega) (by simp;omega),List.append_assoc]
theorem tabM_set {m n:Nat} {g:Nat->Nat->Int} {x z:Nat} (hx:x<m) (hz:z<n) (t:Int):List.set (tabM m n g) x (List.set (at_ K_Si (tabM m n g) x) z t)=tabM m n fun c r=>if c=x/\r=z then t else g c r:=by
 have hl:x<(tabM m n g).length:=by rw [tabM_len];exact hx
 have e:at_ K_Si (tabM m n g) x=(tabM m n g)[x]:=at_get (e:=K_Si) hl
 have hrow:=tabM_row (n:=n) g hx
 rw [List.getElem?_eq_getElem hl] at hrow
 rw [e,Option.some.inj hrow,map_set]
 apply List.ext_getElem
 ·simp [tabM]
 ·intro i h1 h2
  rw [List.getElem_set]
  by_cases ei:x=i
  ·subst ei
   simp only [if_true,tabM,List.getElem_map,List.getElem_range,true_and]
  ·have ei':¬i=x:=fun h=>ei h.symm
   simp only [ei,if_false,tabM,List.getElem_map,List.getElem_range,ei',false_and]
theorem cg_l10 (N:Nat) (w:Nt) (cf mv:List (List Int)) (u:Unit) (m n:Nat) (t:Int) (fresh:List E) (hfr:∀e∈fresh,∃x z:Nat,x<m/\z<n/\e=((x:Int),(z:Int),())) (hl:fresh.length<=1000):∀(k i f:Nat) (g:Nat->Nat->Int) (fd:Bool),i+k=fresh.length->k<f ->
  q26q_l10 N f ((w,cf,mv,tabM m n g,u),t,fd,fresh,(fresh.length:Int),(i:Int),()) =
   some (.inl ((w,cf,mv,tabM m n (fun c r=>if (fresh.drop i).any (isP c r)=true then t else g c r),u),t,fd||decide (0<k),())):=by
 intro k
 induction k with
 | zero=>
  intro i f g fd h1 h2
  obtain ⟨f,rfl⟩:∃m,f=m+1:=⟨f-1,by omega⟩
  have e:i=fresh.length:=by omega
  subst e
  show q26q_l10_r _ _ _=_
  unfold q26q_l10_r
  rw [List.drop_of_length_le (Nat.le_refl _)]
  simp only [lt_not,Bool.false_eq_true,if_false,List.any_nil,Nat.lt_irrefl,decide_false,Bool.or_false]
 | succ k ih=>
  intro i f g fd h1 h2
  obtain ⟨f,rfl⟩:∃m,f=m+1:=⟨f-1,by omega⟩
  have hi:i<fresh.length:=by omega
  obtain ⟨x,z,hx,hz,ee⟩:=hfr fresh[i] (List.getElem_mem hi)
  have e:at_ K_Piiq fresh i=((x:Int),(z:Int),()):=(at_get (e:=K_Piiq) hi).trans ee
  obtain ⟨t1,t2⟩:=rcB_parts (rc_tabM m n g)
  have i1:idxIn (x:Int) (tabM m n g).length=true:=idxIn_nat (by omega)
  have i2:idxIn (z:Int) (at_ K_Si (tabM m n g) x).length=true:=idxIn_nat (by rw [t2 x hx];exact hz)
  show q26q_l10_r _ _ _=_
  unfold q26q_l10_r
  simp only [lt_dec hi,if_true,idxIn_nat hi,Int.toNat_natCast,e,i1,i2,small_wrap (show i<=100000 by omega),tabM_set hx hz]
  rw [ih (i+1) f _ true (by omega) (by omega),List.drop_eq_getElem_cons hi,ee]
  have et:tabM m n (fun c r=>if (fresh.drop (i+1)).any (isP c r)=true then t else if c=x/\r=z then t else g c r)=tabM m n fun c r=>if (((x:Int),(z:Int),())::fresh.drop (i+1)).any (isP c r)=true then t else g c r:=tabM_congr fun c r _ _=>by
   rw [List.any_cons]
   by_cases h3:(fresh.drop (i+1)).any (isP c r)=true
   ·simp [h3]
   ·have h3':(fresh.drop (i+1)).any (isP c r)=false:=by simpa using h3
    by_cases h4:c=x/\r=z
    ·have:isP c r ((x:Int),(z:Int),())=true:=by
      unfold isP
      simp [h4.1,h4.2]
     rw [if_neg h3,if_pos h4,this,Bool.true_or,if_pos rfl]
    ·have:isP c r ((x:Int),(z:Int),())=false:=by
      unfold isP
      simp only [Bool.and_eq_false_iff,beq_eq_false_iff_ne,ne_eq]
      by_cases h5:c=x
      ·exact .inr fun h=>h4 ⟨h5,by omega⟩
      ·exact .inl fun h=>h5 (by omega)
     simp [h3',h4,this]
  rw [et]
  simp
theorem allP_anyM {p:Nat->Nat->Bool} {m n c r:Nat} (hc:c<m) (hr:r<n):(allP p n m 0).any (isP c r)=p c r:=by
 apply Bool.eq_iff_iff.2
 rw [List.any_eq_true]
 constructor
 ·rintro ⟨e,he,h⟩
  obtain ⟨x,z,h1,h2,h3,h4,rfl⟩:=allP_mem.1 he
  unfold isP at h
  simp only [Bool.and_eq_true,beq_iff_eq] at h
  have e1:x=c:=by omega
  have e2:z=r:=by omega
  subst e1 e2
  exact h4
 ·intro h
  exact ⟨((c:Int),(r:Int),()),allP_mem.2 ⟨c,r,Nat.zero_le _,by omega,hr,h,rfl⟩,by unfold isP;simp⟩
theorem allP_posM {cf mv:List (List Int)} {ball:Int->List Int} {n:Nat} {T:Tab}:decide (0<(allP (canG cf mv ball T) n cf.length 0).length)=anyG cf mv ball n T:=by
 apply Bool.eq_iff_iff.2
 rw [decide_eq_true_eq,anyG_spec]
 constructor
 ·intro h
  obtain ⟨x,z,h1,h2,h3,h4,_⟩:=allP_mem.1 (List.getElem_mem h)
  exact ⟨x,z,by omega,h3,h4⟩
 ·rintro ⟨c,r,hc,hr,h⟩
  exact List.length_pos_of_mem (allP_mem.2 ⟨c,r,Nat.zero_le _,by omega,hr,h,rfl⟩)
theorem cg_l4 (N:Nat) (hN:2000<=N) {l:List Int} {v u:Unit} {cf mv:List (List Int)} (hl:netB l=true) (h1:1<=l.length) (hg:gmB l.length cf mv=true):∀(k t:Nat) (T:Tab),rcB cf.length l.length T=true->t+k<=2000->negsM cf.length l.length T<k -> ∀f,k+1<=f ->
  q26q_l4 N f (((l,v),cf,mv,T,u),(t:Int),true,())=some (.inl (((l,v),cf,mv,gameT cf mv (ballM l) l.length k (t:Int) T,u),())):=by
 obtain ⟨g1,g2,g3,g4⟩:=gmB_parts hg
 obtain ⟨p1,p2,p3,p4⟩:=netB_parts hl
 intro k
 induction k with
 | zero=>intro t T _ _ h;omega
 | succ k ih=>
  intro t T hT ht hng f hf
  obtain ⟨f,rfl⟩:∃m,f=m+1:=⟨f-1,by omega⟩
  have h:cgB ((l,v),cf,mv,T,u)=true:=by
   unfold cgB
   simp only [hl,hg,hT,h1,decide_true,Bool.and_self]
  obtain ⟨t1,t2⟩:=rcB_parts hT
  have h6:=cg_l6 N (by omega) h (t:Int) false cf.length 0 N [] (by omega) (by omega) (by simp;omega)
  simp only [Int.natCast_zero,List.nil_append] at h6
  have hlen:=allP_len (p:=canG cf mv (ballM l) T) (n:=l.length) (k:=cf.length) (c:=0)
  have hnn:l.length*cf.length<=8*120:=Nat.mul_le_mul p3 g1
  have h10:=cg_l10 N (l,v) cf mv u cf.length l.length (t:Int) (allP (canG cf mv (ballM l) T) l.length cf.length 0) (fun e he=>by
   obtain ⟨x,z,_,h2,h3,_,h5⟩:=allP_mem.1 he
   exact ⟨x,z,by omega,h3,h5⟩) (by omega) (allP (canG cf mv (ballM l) T) l.length cf.length 0).length 0 N (fun c x=>tab2 T (c:Int) (x:Int)) false (by omega) (by omega)
  rw [tabM_self hT] at h10
  simp only [Int.natCast_zero,List.drop_zero,Bool.false_or,allP_posM] at h10
  have et:tabM cf.length l.length (fun c r=>if (allP (canG cf mv (ballM l) T) l.length cf.length 0).any (isP c r)=true then (t:Int) else tab2 T (c:Int) (r:Int))=stepG cf mv (ballM l) l.length (t:Int) T:=tabM_congr fun c r hc hr=>by
   rw [allP_anyM hc hr]
  rw [et] at h10
  show q26q_l4_r _ _ _=_
  unfold q26q_l4_r
  simp only [if_true,t1,h6,Option.bind_some,h10,small_wrap (show t<=100000 by omega),gameT]
  by_cases ha:anyG cf mv (ballM l) l.length T=true
  ·rw [if_pos ha,ha]
   have:=negsM_step (t:=(t:Int)) (by omega) ha
   exact ih (t+1) (stepG cf mv (ballM l) l.length (t:Int) T) (rc_tabM _ _ _) (by omega) (by omega) f (by omega)
  ·have ha':anyG cf mv (ballM l) l.length T=false:=(Bool.not_eq_true _).mp ha
   rw [if_neg ha,ha',stepG_none hT ha']
   obtain ⟨f,rfl⟩:∃m,f=m+1:=⟨f-1,by omega⟩
   rfl
theorem copGame_lim (d) (r) (h:G_copGame d=some r):∃N,F_q26q N d=some r:=by
 obtain ⟨⟨l,v⟩,k,_⟩:=d
 unfold G_copGame at h
 split at h
 ·rename_i hc
  simp only [Bool.and_eq_true,decide_eq_true_eq] at hc
  obtain ⟨⟨hl,h1⟩,hk⟩:=hc
  have hl:netB l=true:=hl
  have h1:1<=l.length:=h1
  have hk2:=inB_iff.1 hk
  obtain ⟨p1,p2,p3,p4⟩:=netB_parts hl
  have h:=Option.some.inj h
  subst h
  refine ⟨2000,?_⟩
  have hg:=board_ok (n:=l.length) p3 (k:=k.toNat) (by omega) (ball:=ballM l) (fun x _=>ballM_len l _) (fun x hx=>ballM_in hl hx)
  obtain ⟨g1,g2,g3,g4⟩:=gmB_parts hg
  have hb:G_copBoard ((l,v),k,())=some (((l,v),confL l.length k.toNat,movesI (ballM l) (confL l.length k.toNat),[],()),()):=by
   unfold G_copBoard
   simp only [hl,hk,Bool.and_self,if_true]
  have h0:=cg_l0 2000 (by omega) l v h1 p3 (l,v) (confL l.length k.toNat) (movesI (ballM l) (confL l.length k.toNat)) () hg (confL l.length k.toNat).length 0 2000 [] (by omega) (by omega) (by simp;omega)
  simp only [Int.natCast_zero,List.nil_append,<- List.range_eq_range'] at h0
  have e0:(List.range (confL l.length k.toNat).length).map (fun c=>(List.range l.length).map (fun (x:Nat)=>if hasL ((confL l.length k.toNat).getD c []) (x:Int)=true then (0:Int) else -1))=startG (confL l.length k.toNat) l.length:=rfl
  rw [e0] at h0
  have hneg:=negsM_le (confL l.length k.toNat).length l.length (startG (confL l.length k.toNat) l.length)
  have hmul:(confL l.length k.toNat).length*l.length<=120*8:=Nat.mul_le_mul g1 p3
  have h4:=cg_l4 2000 (by omega) (v:=v) (u:=()) hl h1 hg 1000 1 (startG (confL l.length k.toNat) l.length) (rc_tabM _ _ _) (by omega) (by omega) 2000 (by omega)
  have e1:((1:Nat):Int)=1:=rfl
  rw [e1] at h4
  unfold F_q26q
  simp only [hb,Option.bind_some,h0,h4]
  rfl
 ·cases h
end Go.V.W
namespace Go.V.W
open Go.Proofs
theorem after_congr {cf:List (List Int)} {b1 b2:Int->List Int} {T:Tab} {d x:Int} (h:b1 x=b2 x):afterG cf b1 T d x=afterG cf b2 T d x:=by
 unfold afterG
 rw [h]
theorem canG_congr {cf mv:List (List Int)} {b1 b2:Int->List Int} {T:Tab} {c x:Nat} (h:b1 (x:Int)=b2 (x:Int)):canG cf mv b1 T c x=canG cf mv b2 T c x:=by
 unfold canG
 simp only [after_congr (cf:=cf) (T:=T) h]
theorem anyG_congr {cf mv:List (List Int)} {b1 b2:Int->List Int} {n:Nat} (h:∀x:Nat,x<n->b1 (x:Int)=b2 (x:Int)) (T:Tab):anyG cf mv b1 n T=anyG cf mv b2 n T:=by
 apply bool_eq_iff
 rw [anyG_spec,anyG_spec]
 constructor
 ·rintro ⟨c,x,hc,hx,h2⟩
  exact ⟨c,x,hc,hx,by rw [<- canG_congr (h x hx)];exact h2⟩
 ·rintro ⟨c,x,hc,hx,h2⟩
  exact ⟨c,x,hc,hx,by rw [canG_congr (h x hx)];exact h2⟩
theorem gameT_congr {cf mv:List (List Int)} {b1 b2:Int->List Int} {n:Nat} (h:∀x:Nat,x<n->b1 (x:Int)=b2 (x:Int)):∀(k:Nat) (t:Int) (T:Tab),gameT cf mv b1 n k t T=gameT cf mv b2 n k t T:=by
 intro k
 induction k with
 | zero=>intro t T;rfl
 | succ k ih=>
  intro t T
  unfold gameT
  rw [anyG_congr h T]
  have:stepG cf mv b1 n t T=stepG cf mv b2 n t T:=tabM_congr fun c x hc hx=>by rw [canG_congr (h x hx)]
  rw [this,ih]
theorem times_congr {cf mv:List (List Int)} {b1 b2:Int->List Int} {n:Nat} (h:∀x:Nat,x<n->b1 (x:Int)=b2 (x:Int)):timesG cf mv b1 n=timesG cf mv b2 n:=gameT_congr h _ _ _
theorem gameT_rc {cf mv:List (List Int)} {ball:Int->List Int} {n:Nat}:∀(k:Nat) (t:Int) (T:Tab),rcB cf.length n T=true->rcB cf.length n (gameT cf mv ball n k t T)=true:=by
 intro k
 induction k with
 | zero=>intro t T h;exact h
 | succ k ih=>
  intro t T h
  unfold gameT
  split
  ·exact ih _ _ (rc_tabM _ _ _)
  ·exact h
theorem times_rc (cf mv:List (List Int)) (ball:Int->List Int) (n:Nat):rcB cf.length n (timesG cf mv ball n)=true:=gameT_rc _ _ _ (rc_tabM _ _ _)
theorem tm_rc (g:Gr) (k:Nat):rcB (cfG g k).length g.1.toNat (tmG g k)=true:=times_rc _ _ _ _
theorem ballA_L {n:Nat} (es:List E) {x:Nat} (hx:x<n):ballA (ballsL n es) (x:Int)=ballF n es (x:Int):=by
 unfold ballA ballsL
 rw [Int.toNat_natCast,List.getD_eq_getElem?_getD,List.getElem?_map,List.getElem?_range hx]
 rfl
theorem ballsL_len (n:Nat) (es:List E):(ballsL n es).length=n:=by simp [ballsL]
theorem balls_ok {n:Nat} (hn:n<=8) (es:List E):blB (ballsL n es)=true:=by
 unfold blB
 rw [ballsL_len,Bool.and_eq_true]
 refine ⟨decide_eq_true hn,List.all_eq_true.2 fun b hb => ?_⟩
 unfold ballsL at hb
 obtain ⟨x,_,rfl⟩:=List.mem_map.1 hb
 have:=ballF_len n es (x:Int)
 rw [Bool.and_eq_true]
 exact ⟨decide_eq_true (by omega),List.all_eq_true.2 (ballF_in es (x:Int))⟩
theorem field_parts {n:Int} {es:List E} {v:Unit} {k:Int} (h:fieldB (n,es,v) k=true):graphB (n,es,v)=true /\ ∃m q:Nat,n=(m:Int)/\k=(q:Int)/\1<=m/\m<=8/\1<=q/\q<=3:=by
 unfold fieldB at h
 simp only [Bool.and_eq_true,decide_eq_true_eq] at h
 obtain ⟨⟨h1,h2⟩,h3⟩:=h
 obtain ⟨h4,h5⟩:=graphB_n h1
 have h3:=inB_iff.1 h3
 exact ⟨h1,n.toNat,k.toNat,by omega,by omega,by omega,by omega,by omega,by omega⟩
theorem game_spec {m q:Nat} {es:List E} {v:Unit} (hg:graphB ((m:Int),es,v)=true) (ho:okL es=true) (hq:q<=3) (u w:Unit) :
  G_l4Make (((m:Int),es,v),(q:Int),u)=some ((cfG ((m:Int),es,v) q,mvG ((m:Int),es,v) q,ballsL m es,()),())/\G_l4Times ((cfG ((m:Int),es,v) q,mvG ((m:Int),es,v) q,ballsL m es,()),w)=some (tmG ((m:Int),es,v) q,()) /\
  gmB (ballsL m es).length (cfG ((m:Int),es,v) q) (mvG ((m:Int),es,v) q)=true/\blB (ballsL m es)=true:=by
 obtain ⟨h0,h8⟩:=graphB_n hg
 have hm:m<=8:=by omega
 have hG:=graph_grB hg ho
 have hk:inB 0 3 (q:Int)=true:=inB_iff.2 (by omega)
 have hb:=board_ok (n:=m) hm hq (ball:=ballF m es) (fun x _=>by have:=ballF_len m es (x:Int);omega) (fun x _=>ballF_in es (x:Int))
 have hb2:gmB (ballsL m es).length (cfG ((m:Int),es,v) q) (mvG ((m:Int),es,v) q)=true:=by
  rw [ballsL_len]
  unfold mvG cfG
  simp only [Int.toNat_natCast]
  exact hb
 have hbl:=balls_ok hm es
 refine ⟨?_,?_,hb2,hbl⟩
 ·unfold G_l4Make mvG cfG
  simp only [hG,hk,Bool.and_self,if_true,Int.toNat_natCast]
 ·unfold G_l4Times
  simp only [hb2,hbl,Bool.and_self,if_true]
  unfold tmG
  simp only [ballsL_len,Int.toNat_natCast]
  rw [times_congr fun x hx=>ballA_L es hx]
theorem game_impl {m q:Nat} {es:List E} {v:Unit} (hg:graphB ((m:Int),es,v)=true) (ho:okL es=true) (h1:1<=m) (hq:q<=3) (u:Unit) :
  G_copGame ((toI (netN m es),()),(q:Int),u)=some (((toI (netN m es),()),cfG ((m:Int),es,v) q,mvG ((m:Int),es,v) q,tmG ((m:Int),es,v) q,()),())/\cgB ((toI (netN m es),()),cfG ((m:Int),es,v) q,mvG ((m:Int),es,v) q,tmG ((m:Int),es,v) q,())=true:=by
 obtain ⟨h0,h8⟩:=graphB_n hg
 have hm:m<=8:=by omega
 obtain ⟨g1,_⟩:=graphB_edges hg
 obtain ⟨n1,n2⟩:=netB_net hm g1
 have hk:inB 0 3 (q:Int)=true:=inB_iff.2 (by omega)
 have e1:movesI (ballM (toI (netN m es))) (confL m q)=movesI (ballF m es) (confL m q):=by
  unfold movesI
  refine List.map_congr_left fun c hc => ?_
  rw [moves_congr fun x hx => ?_]
  have:=copsB_in (confL_mem.1 hc).2 x hx
  obtain ⟨y,rfl,hy⟩:=nodeX this
  exact ball_same hm g1 hy
 have e2:timesG (confL m q) (movesI (ballF m es) (confL m q)) (ballM (toI (netN m es))) m=timesG (confL m q) (movesI (ballF m es) (confL m q)) (ballF m es) m:=times_congr fun x hx=>ball_same hm g1 hx
 have hb:=board_ok (n:=m) hm hq (ball:=ballF m es) (fun x _=>by have:=ballF_len m es (x:Int);omega) (fun x _=>ballF_in es (x:Int))
 constructor
 ·unfold G_copGame
  have h1':decide (1<=m)=true:=decide_eq_true h1
  simp only [n1,n2,h1',hk,Bool.and_self,if_true,Int.toNat_natCast,e1,e2]
  rfl
 ·unfold cgB
  have h1':decide (1<=m)=true:=decide_eq_true h1
  have h2:=tm_rc ((m:Int),es,v) q
  simp only [Int.toNat_natCast] at h2
  have h3:gmB m (cfG ((m:Int),es,v) q) (mvG ((m:Int),es,v) q)=true:=by
   unfold mvG cfG
   simp only [Int.toNat_natCast]
   exact hb
  simp only [n1,n2,h1',h2,h3,Bool.and_self]
theorem specField {g:Gr} (ho:okL g.2.1=true) (k:Int) (u:Unit):F_q63q 0 (g,k,u)=some (fieldB g k,()):=by
 unfold F_q63q G_graph fieldB
 simp only [ho,if_true,Option.bind_some,l1In_eq]
 cases graphB g with
 | false=>simp only [Bool.false_eq_true,if_false,Bool.false_and]
 | true=>
  cases decide (g.1>0) with
  | false=>simp only [Bool.false_eq_true,if_false,if_true,Bool.and_false,Bool.false_and]
  | true=>simp only [if_true,Bool.true_and]
theorem implField {g:Gr} (ho:okL g.2.1=true) (k:Int) (u:Unit):F_q41q 0 (g,k,u)=some (fieldB g k,()):=by
 unfold F_q41q G_graph fieldB
 simp only [ho,if_true,Option.bind_some,within_eq]
 cases graphB g with
 | false=>simp only [Bool.false_eq_true,if_false,Bool.false_and]
 | true=>
  cases decide (g.1>0) with
  | false=>simp only [Bool.false_eq_true,if_false,if_true,Bool.and_false,Bool.false_and]
  | true=>simp only [if_true,Bool.true_and]
theorem tm_small {m q:Nat} {es:List E} {v:Unit} (hm:m<=8) (hq:q<=3):(tmG ((m:Int),es,v) q).length<=120 /\ ∀l∈tmG ((m:Int),es,v) q,l.length<=8:=by
 have h2:=tm_rc ((m:Int),es,v) q
 have h3:(cfG ((m:Int),es,v) q).length<=120:=confL_120 hm hq
 unfold rcB at h2
 simp only [Int.toNat_natCast,Bool.and_eq_true,decide_eq_true_eq,List.all_eq_true] at h2
 refine ⟨by omega,fun l hl => ?_⟩
 have:=h2.2 l hl
 omega
end Go.V.W
namespace Go.V.W
open Go.Proofs
theorem at_getDS {l:List (List Int)} {i:Nat} (h:i<l.length):at_ K_Si l i=l.getD i []:=by
 have e:at_ K_Si l i=l[i]:=at_get (e:=K_Si) h
 rw [e,List.getD_eq_getElem?_getD,List.getElem?_eq_getElem h]
 rfl
end Go.V.W
namespace Go.V.W
open Go.Proofs
def BestI (T:Tab) (b l:Int):Prop:=b<0 \/ ∃p:Nat,p<T.length/\b=(p:Int)/\l=worstR (at_ K_Si T p)
theorem bestRow_inv (T:Tab):∀(k c:Nat) (b l:Int),c+k=T.length->BestI T b l->BestI T (bestRow (T.drop c) (c:Int) b l).1 (bestRow (T.drop c) (c:Int) b l).2:=by
 intro k
 induction k with
 | zero=>
  intro c b l h h2
  rw [List.drop_of_length_le (by omega)]
  exact h2
 | succ k ih=>
  intro c b l h h2
  have hc:c<T.length:=by omega
  have ec:at_ K_Si T c=T[c]:=at_get (e:=K_Si) hc
  rw [List.drop_eq_getElem_cons hc]
  unfold bestRow
  have e1:((c:Int)+1)=((c+1:Nat):Int):=rfl
  rw [e1]
  split
  ·exact ih (c+1) (c:Int) (worstR T[c]) (by omega) (.inr ⟨c,hc,rfl,by rw [ec]⟩)
  ·exact ih (c+1) b l (by omega) h2
theorem worst_row8 {row:List Int} (h:row.length<=1000) (u:Unit):G_l4Worst (row,u)=some (worstR row,()):=by
 unfold G_l4Worst worstR
 have:okL row=true:=okL_of (by omega)
 simp only [this,if_true]
theorem sb_l0 (N:Nat) (y:Gm) (T:Tab) (hT:T.length<=1000) (hr:∀p,p<T.length->(at_ K_Si T p).length<=1000):∀(k c f:Nat) (b l:Int),c+k=T.length->k<f->BestI T b l ->
  q48q_l0 N f (y,T,b,(c:Int),())=some (.inl (y,T,(bestRow (T.drop c) (c:Int) b l).1,())):=by
 intro k
 induction k with
 | zero=>
  intro c f b l h1 h2 h3
  obtain ⟨f,rfl⟩:∃m,f=m+1:=⟨f-1,by omega⟩
  have e:c=T.length:=by omega
  subst e
  rw [List.drop_of_length_le (Nat.le_refl _)]
  show q48q_l0_r _ _ _=_
  unfold q48q_l0_r
  simp only [lt_not,Bool.false_eq_true,if_false,bestRow]
 | succ k ih=>
  intro c f b l h1 h2 h3
  obtain ⟨f,rfl⟩:∃m,f=m+1:=⟨f-1,by omega⟩
  have hc:c<T.length:=by omega
  have ec:at_ K_Si T c=T[c]:=at_get (e:=K_Si) hc
  have hI:BestI T (c:Int) (worstR T[c]):=.inr ⟨c,hc,rfl,by rw [ec]⟩
  have e1:((c:Int)+1)=((c+1:Nat):Int):=rfl
  have hrc:=hr c hc
  rw [ec] at hrc
  rw [List.drop_eq_getElem_cons hc]
  show q48q_l0_r _ _ _=_
  unfold q48q_l0_r
  simp only [lt_dec hc,if_true,idxIn_nat hc,Int.toNat_natCast,ec,worst_row8 hrc,Option.bind_some,small_wrap (show c<=100000 by omega),bestRow]
  simp only [e1]
  by_cases hw:0<=worstR T[c]
  ·have hw':decide (worstR T[c]>=0)=true:=decide_eq_true hw
   by_cases hb:b<0
   ·simp only [hw',hw,hb,decide_true,if_true,true_or,and_self]
    exact ih (c+1) f (c:Int) (worstR T[c]) (by omega) (by omega) hI
   ·rcases h3 with h3 | ⟨p,p1,rfl,rfl⟩
    ·exact absurd h3 hb
    ·simp only [hw',hw,hb,decide_true,decide_false,Bool.false_eq_true,if_true,if_false,idxIn_nat p1,Int.toNat_natCast,worst_row8 (hr p p1),Option.bind_some,false_or,true_and]
     by_cases hlt:worstR T[c]<worstR (at_ K_Si T p)
     ·simp only [hlt,decide_true,if_true]
      exact ih (c+1) f (c:Int) (worstR T[c]) (by omega) (by omega) hI
     ·simp only [hlt,decide_false,Bool.false_eq_true,if_false]
      exact ih (c+1) f (p:Int) (worstR (at_ K_Si T p)) (by omega) (by omega) (.inr ⟨p,p1,rfl,rfl⟩)
  ·have hw':decide (worstR T[c]>=0)=false:=decide_eq_false hw
   simp only [hw',hw,decide_false,Bool.false_eq_true,if_false,false_and]
   exact ih (c+1) f b l (by omega) (by omega) h3
theorem specBC_lim (d) (r) (h:G_specBest d=some r):∃N,F_q48q N d=some r:=by
 obtain ⟨⟨n,es,v⟩,k,_⟩:=d
 unfold G_specBest at h
 split at h
 ·rename_i ho
  have ho:okL es=true:=ho
  have h:=Option.some.inj h
  subst h
  refine ⟨1010,?_⟩
  unfold F_q48q bestCB
  simp only [specField (g:=(n,es,v)) ho,Option.bind_some]
  cases hf:fieldB (n,es,v) k with
  | false=>simp only [Bool.not_false,if_true,Bool.false_eq_true,if_false]
  | true=>
   obtain ⟨hg,m,q,rfl,rfl,m1,m8,q1,q3⟩:=field_parts hf
   obtain ⟨h1,h2,_⟩:=game_spec (v:=v) hg ho q3 () ()
   obtain ⟨s1,s2⟩:=tm_small (es:=es) (v:=v) m8 q3
   have hrc:=tm_rc ((m:Int),es,v) q
   obtain ⟨t1,t2⟩:=rcB_parts hrc
   have hcl:(cfG ((m:Int),es,v) q).length<=120:=confL_120 m8 q3
   have hrow:∀p,p<(tmG ((m:Int),es,v) q).length->(at_ K_Si (tmG ((m:Int),es,v) q) p).length<=1000:=fun p hp=>by
    rw [t2 p (by omega)]
    have:((m:Int),es,v).1.toNat=m:=Int.toNat_natCast m
    omega
   have hl:=sb_l0 1010 (cfG ((m:Int),es,v) q,mvG ((m:Int),es,v) q,ballsL m es,()) (tmG ((m:Int),es,v) q) (by omega) hrow (tmG ((m:Int),es,v) q).length 0 1010 (-1) 0 (by omega) (by omega) (.inl (by omega))
   have hI:=bestRow_inv (tmG ((m:Int),es,v) q) (tmG ((m:Int),es,v) q).length 0 (-1) 0 (by omega) (.inl (by omega))
   simp only [Int.natCast_zero,List.drop_zero] at hl hI
   simp only [Bool.not_true,Bool.false_eq_true,if_false,h1,h2,Option.bind_some,hl,if_true,Int.toNat_natCast,bestOut]
   rcases hI with hI | ⟨p,p1,p2,p3⟩
   ·simp only [hI,decide_true,if_true]
   ·have hp:p<(cfG ((m:Int),es,v) q).length:=by omega
    have hneg:¬((p:Int)<0):=by omega
    have hcp:(at_ K_Si (cfG ((m:Int),es,v) q) p).length<=1000:=by
     have hm:at_ K_Si (cfG ((m:Int),es,v) q) p∈cfG ((m:Int),es,v) q:=by
      have e:at_ K_Si (cfG ((m:Int),es,v) q) p=(cfG ((m:Int),es,v) q)[p]:=at_get (e:=K_Si) hp
      rw [e]
      exact List.getElem_mem hp
     rw [confL_len hm]
     omega
    simp only [p2,p3,hneg,decide_false,Bool.false_eq_true,if_false,idxIn_nat hp,if_true,Int.toNat_natCast,own_some _ hcp,Option.bind_some,idxIn_nat p1,worst_row8 (hrow p p1)]
    rw [at_getDS hp]
 ·cases h
theorem worstR_max:∀{l:List Int} {m:Int},(∀x∈l,0<=x)->worstL (fun z=>z) l m=l.foldl (fun a b=>if a<b then b else a) m:=by
 intro l
 induction l with
 | nil=>intro m _;rfl
 | cons a l ih=>
  intro m h
  have ha:=h a (by simp)
  simp only [worstL,List.foldl_cons]
  rw [if_neg (by omega)]
  exact ih fun x hx=>h x (by simp [hx])
theorem max_eq {l:List Int} (h:∀x∈l,0<=x) (h1:0<l.length):l.foldl (fun a b=>if a<b then b else a) (l.headD 0)=worstR l:=by
 unfold worstR
 rw [worstR_max h]
 cases l with
 | nil=>simp at h1
 | cons a l=>
  have ha:=h a (by simp)
  simp only [List.foldl_cons,List.headD_cons,Int.lt_irrefl,if_false]
  congr 1
  by_cases h0:(0:Int)<a
  ·rw [if_pos h0]
  ·rw [if_neg h0]
   omega
theorem has_neg {l:List Int} (h:∀x∈l,-1<=x):(hasL l (-1)=true->worstR l<0)/\(hasL l (-1)=false->0<=worstR l /\ ∀x∈l,0<=x):=by
 unfold hasL worstR
 rcases worst_spec (fun z=>z) l 0 with ⟨⟨x,hx,h1⟩,h2⟩ | ⟨h1,h2,h3⟩
 ·refine ⟨fun _=>by omega,fun hh => ?_⟩
  have:=h x hx
  have e:x = -1:=by omega
  subst e
  have:(l.any fun z=>z == -1)=true:=List.any_eq_true.2 ⟨-1,hx,by simp⟩
  rw [hh] at this
  cases this
 ·refine ⟨fun hh => ?_,fun _=>⟨h2,fun x hx=>(h1 x hx).1⟩⟩
  obtain ⟨x,hx,h4⟩:=List.any_eq_true.1 hh
  have:=(h1 x hx).1
  have e:x = -1:=by simpa using h4
  have:0<=x:=this
  omega
theorem gb_l0 (N:Nat) (y:Cg) (T:Tab) (hT:T.length<=1000) (hr:∀r∈T,1<=r.length/\r.length<=1000 /\ ∀x∈r,-1<=x):∀(k c f:Nat) (b l:Int),c+k=T.length->k<f ->
  q22q_l0 N f (y,b,l,T,(T.length:Int),(c:Int),())=some (.inl (y,(bestRow (T.drop c) (c:Int) b l).1,(bestRow (T.drop c) (c:Int) b l).2,())):=by
 intro k
 induction k with
 | zero=>
  intro c f b l h1 h2
  obtain ⟨f,rfl⟩:∃m,f=m+1:=⟨f-1,by omega⟩
  have e:c=T.length:=by omega
  subst e
  rw [List.drop_of_length_le (Nat.le_refl _)]
  show q22q_l0_r _ _ _=_
  unfold q22q_l0_r
  simp only [lt_not,Bool.false_eq_true,if_false,bestRow]
 | succ k ih=>
  intro c f b l h1 h2
  obtain ⟨f,rfl⟩:∃m,f=m+1:=⟨f-1,by omega⟩
  have hc:c<T.length:=by omega
  have ec:at_ K_Si T c=T[c]:=at_get (e:=K_Si) hc
  obtain ⟨r1,r2,r3⟩:=hr _ (List.getElem_mem hc)
  obtain ⟨n1,n2⟩:=has_neg r3
  have e1:((c:Int)+1)=((c+1:Nat):Int):=rfl
  have hok:okL T[c]=true:=okL_of (by omega)
  rw [List.drop_eq_getElem_cons hc]
  show q22q_l0_r _ _ _=_
  unfold q22q_l0_r
  simp only [lt_dec hc,if_true,idxIn_nat hc,Int.toNat_natCast,ec,has2 hok,Option.bind_some,small_wrap (show c<=100000 by omega),bestRow]
  simp only [e1]
  cases hh:hasL T[c] (-1) with
  | true=>
   have hw:¬0<=worstR T[c]:=by have:=n1 hh;omega
   simp only [if_true,hw,if_false,false_and]
   exact ih (c+1) f b l (by omega) (by omega)
  | false=>
   obtain ⟨hw,hall⟩:=n2 hh
   have hmx:G_max (T[c],())=some (worstR T[c],()):=by
    unfold G_max
    have a1:decide (0<T[c].length)=true:=decide_eq_true (by omega)
    simp only [hok,a1,Bool.and_self,if_true]
    rw [max_eq hall (by omega)]
   simp only [Bool.false_eq_true,if_false,hmx,Option.bind_some,hw,true_and]
   by_cases hb:b<0
   ·simp only [hb,decide_true,if_true,true_or]
    exact ih (c+1) f (c:Int) (worstR T[c]) (by omega) (by omega)
   ·by_cases hlt:worstR T[c]<l
    ·simp only [hb,hlt,decide_true,decide_false,Bool.false_eq_true,if_true,if_false,or_true]
     exact ih (c+1) f (c:Int) (worstR T[c]) (by omega) (by omega)
    ·simp only [hb,hlt,decide_false,Bool.false_eq_true,if_false,or_self]
     exact ih (c+1) f b l (by omega) (by omega)
theorem gameBest_lim (d) (r) (h:G_copBest d=some r):∃N,F_q22q N d=some r:=by
 obtain ⟨⟨⟨l,v⟩,cf,mv,T,u⟩,_⟩:=d
 unfold G_copBest at h
 split at h
 ·rename_i hc
  rw [Bool.and_eq_true] at hc
  obtain ⟨hcg,hlow⟩:=hc
  have hlow:lowB T=true:=hlow
  obtain ⟨c1,c2,c3,c4⟩:=cgB_parts hcg
  obtain ⟨g1,g2,g3,g4⟩:=gmB_parts c3
  obtain ⟨p1,p2,p3,p4⟩:=netB_parts c1
  obtain ⟨t1,t2⟩:=rcB_parts c4
  have h:=Option.some.inj h
  subst h
  have hr:∀r∈T,1<=r.length/\r.length<=1000 /\ ∀x∈r,-1<=x:=fun r hr=>by
   unfold rcB at c4
   simp only [Bool.and_eq_true,decide_eq_true_eq,List.all_eq_true] at c4
   have h1:=c4.2 r hr
   refine ⟨by omega,by omega,fun x hx => ?_⟩
   unfold lowB at hlow
   exact of_decide_eq_true (List.all_eq_true.1 (List.all_eq_true.1 hlow r hr) x hx)
  have hl:=gb_l0 1010 ((l,v),cf,mv,T,u) T (by omega) hr T.length 0 1010 (-1) 0 (by omega) (by omega)
  have hI:=bestRow_inv T T.length 0 (-1) 0 (by omega) (.inl (by omega))
  simp only [Int.natCast_zero,List.drop_zero] at hl hI
  refine ⟨1010,?_⟩
  unfold F_q22q bestOut
  simp only [hl,Option.bind_some]
  rcases hI with hI | ⟨p,p1,p2,p3⟩
  ·simp only [hI,decide_true,if_true]
  ·have hp:p<cf.length:=by omega
   have hneg:¬((p:Int)<0):=by omega
   have hok:okL (at_ K_Si cf p)=true:=okL_of (by have:=(g3 p hp).1;omega)
   rw [at_getDS hp] at hok
   simp only [p2,hneg,decide_false,Bool.false_eq_true,if_false,idxIn_nat hp,if_true,Int.toNat_natCast,at_getDS hp,G_toIntS,hok,Option.bind_some]
 ·cases h
theorem low_tabM {m n:Nat} {f:Nat->Nat->Int} (h:∀c x,c<m->x<n -> -1<=f c x):lowB (tabM m n f)=true:=by
 unfold lowB tabM
 simp only [List.all_map,List.all_eq_true,Function.comp,List.mem_range,decide_eq_true_eq]
 intro c hc x hx
 exact h c x hc hx
theorem low_tab2 {m n:Nat} {T:Tab} (hT:rcB m n T=true) (h:lowB T=true) {c x:Nat} (hc:c<m) (hx:x<n) : -1<=tab2 T (c:Int) (x:Int):=by
 obtain ⟨t1,t2⟩:=rcB_parts hT
 have hlt:c<T.length:=by omega
 have ec:at_ K_Si T c=T[c]:=at_get (e:=K_Si) hlt
 have hl:=t2 c hc
 rw [ec] at hl
 have ex:at_ I T[c] x=T[c][x]:=at_get (e:=I) (by omega)
 rw [<- tab2_rc hT hc hx,ec,ex]
 unfold lowB at h
 exact of_decide_eq_true (List.all_eq_true.1 (List.all_eq_true.1 h _ (List.getElem_mem hlt)) _ (List.getElem_mem (by omega)))
theorem gameT_low {cf mv:List (List Int)} {ball:Int->List Int} {n:Nat}:∀(k:Nat) (t:Int) (T:Tab),0<=t->rcB cf.length n T=true->lowB T=true->lowB (gameT cf mv ball n k t T)=true:=by
 intro k
 induction k with
 | zero=>intro t T _ _ h;exact h
 | succ k ih=>
  intro t T ht h h2
  unfold gameT
  split
  ·refine ih _ _ (by omega) (rc_tabM _ _ _) (low_tabM fun c x hc hx => ?_)
   split
   ·omega
   ·exact low_tab2 h h2 hc hx
  ·exact h2
theorem tm_low (g:Gr) (k:Nat):lowB (tmG g k)=true:=gameT_low _ _ _ (by omega) (rc_tabM _ _ _) (low_tabM fun c x _ _=>by split<;>omega)
theorem implBC {n:Int} {es:List E} {v:Unit} (ho:okL es=true) (k:Int) (u:Unit):F_q50q 0 ((n,es,v),k,u)=some (bestCB (n,es,v) k):=by
 unfold F_q50q bestCB
 simp only [implField (g:=(n,es,v)) ho]
 cases h:fieldB (n,es,v) k with
 | false=>simp only [Option.bind_some,Bool.not_false,if_true,Bool.false_eq_true,if_false]
 | true=>
  obtain ⟨hg,m,q,rfl,rfl,m1,m8,q1,q3⟩:=field_parts h
  obtain ⟨h1,h2⟩:=game_impl (v:=v) hg ho m1 q3 ()
  have h3:G_copBest (((toI (netN m es),()),cfG ((m:Int),es,v) q,mvG ((m:Int),es,v) q,tmG ((m:Int),es,v) q,()),())=some (bestOut (cfG ((m:Int),es,v) q) (bestRow (tmG ((m:Int),es,v) q) 0 (-1) 0)):=by
   unfold G_copBest
   simp only [h2,tm_low,Bool.and_self,if_true]
  simp only [Option.bind_some,Bool.not_true,Bool.false_eq_true,if_false,net_some hg ho,h1,h3,if_true,Int.toNat_natCast]
theorem best_small {g:Gr} {k:Int}:(bestCB g k).1.length<=3:=by
 unfold bestCB
 split
 ·rename_i hb
  obtain ⟨n,es,v⟩:=g
  obtain ⟨hg,m,q,rfl,rfl,m1,m8,q1,q3⟩:=field_parts hb
  unfold bestOut
  split
  ·simp
  ·simp only [Int.toNat_natCast]
   rw [List.getD_eq_getElem?_getD]
   cases hi:(cfG ((m:Int),es,v) q)[(bestRow (tmG ((m:Int),es,v) q) 0 (-1) 0).1.toNat]? with
   | none=>simp
   | some r=>
    have:=confL_len (List.mem_of_getElem? hi)
    simp only [Option.getD_some]
    omega
 ·simp
end Go.V.W
namespace Go.V.W
open Go.Proofs
structure TimI (cf mv:List (List Int)) (ball:Int->List Int) (n:Nat) (T:Tab):Prop where
 caught:∀c x:Nat,c<cf.length->x<n->hasL (cf.getD c []) (x:Int)=true->tab2 T (c:Int) (x:Int)=0
 some:∀c x:Nat,c<cf.length->x<n->0<=tab2 T (c:Int) (x:Int)->hasL (cf.getD c []) (x:Int)=true\/(1<=tab2 T (c:Int) (x:Int) /\ ∃d∈mv.getD c [],0<=afterG cf ball T d (x:Int))
theorem board_fits {m q:Nat} {es:List E} {v:Unit} (hm:m<=8) (hq:q<=3):gmB m (cfG ((m:Int),es,v) q) (mvG ((m:Int),es,v) q)=true:=by
 unfold mvG cfG
 simp only [Int.toNat_natCast]
 exact board_ok hm hq (fun x _=>by have:=ballF_len m es (x:Int);omega) (fun x _=>ballF_in es (x:Int))
end Go.V.W
namespace Go.V.W
open Go.Proofs
structure PlayI (m q:Nat) (es:List E) (v:Unit):Prop where
 hg:graphB ((m:Int),es,v)=true
 ho:okL es=true
 m1:1<=m
 m8:m<=8
 q3:q<=3
end Go.V.W
namespace Go.V.W
open Go.Proofs
structure RoundI (cf mv:List (List Int)) (ball:Int->List Int) (n:Nat) (t:Int) (T:Tab):Prop where
 pos:1<=t
 low:∀c x:Nat,c<cf.length->x<n -> -1<=tab2 T (c:Int) (x:Int)
 high:∀c x:Nat,c<cf.length->x<n->tab2 T (c:Int) (x:Int)<t
 none:∀c x:Nat,c<cf.length->x<n->tab2 T (c:Int) (x:Int)<0 -> ∀d∈mv.getD c [],0<=afterG cf ball T d (x:Int)->t-1<=afterG cf ball T d (x:Int)
 ex:∀c x:Nat,c<cf.length->x<n->1<=tab2 T (c:Int) (x:Int) -> ∃d∈mv.getD c [],0<=afterG cf ball T d (x:Int)/\afterG cf ball T d (x:Int)+1<=tab2 T (c:Int) (x:Int)
 least:∀c x:Nat,c<cf.length->x<n->1<=tab2 T (c:Int) (x:Int) -> ∀d∈mv.getD c [],0<=afterG cf ball T d (x:Int)->tab2 T (c:Int) (x:Int)<=afterG cf ball T d (x:Int)+1
 zero:∀c x:Nat,c<cf.length->x<n->(tab2 T (c:Int) (x:Int)=0↔hasL (cf.getD c []) (x:Int)=true)
theorem canG_neg {cf mv:List (List Int)} {ball:Int->List Int} {T:Tab} {c x:Nat} (h:canG cf mv ball T c x=true):tab2 T (c:Int) (x:Int)<0 /\ ∃d∈mv.getD c [],0<=afterG cf ball T d (x:Int):=by
 unfold canG at h
 rw [Bool.and_eq_true] at h
 obtain ⟨d,hd,h2⟩:=List.any_eq_true.1 h.2
 exact ⟨of_decide_eq_true h.1,d,hd,of_decide_eq_true h2⟩
theorem after_le {cf:List (List Int)} {ball:Int->List Int} {n:Nat} (hb:okBall n ball) {T:Tab} {t:Int} (ht:1<=t) (hh:∀c x:Nat,c<cf.length->x<n->tab2 T (c:Int) (x:Int)<t) {d x:Nat} (hd:d<cf.length) (hx:x<n):afterG cf ball T (d:Int) (x:Int)<=t-1:=by
 unfold afterG
 split
 ·omega
 ·rcases worst_spec (tab2 T (d:Int)) (ball (x:Int)) 0 with ⟨_,h⟩ | ⟨_,_,h | ⟨z,hz,h⟩⟩
  ·omega
  ·omega
  ·obtain ⟨y,hy,rfl⟩:=hb x hx z hz
   have:=hh d y hd hy
   omega
theorem after_round {cf mv:List (List Int)} {ball:Int->List Int} {n:Nat} (hb:okBall n ball) {T:Tab} {t:Int} (ht:1<=t) (hh:∀c x:Nat,c<cf.length->x<n->tab2 T (c:Int) (x:Int)<t) {d x:Nat} (hd:d<cf.length) (hx:x<n) :
  (0<=afterG cf ball T (d:Int) (x:Int)->afterG cf ball (stepG cf mv ball n t T) (d:Int) (x:Int)=afterG cf ball T (d:Int) (x:Int))/\(afterG cf ball T (d:Int) (x:Int)<0->0<=afterG cf ball (stepG cf mv ball n t T) (d:Int) (x:Int)->afterG cf ball (stepG cf mv ball n t T) (d:Int) (x:Int)=t):=by
 unfold afterG
 by_cases hc:hasL (cf.getD (d:Int).toNat []) (x:Int)=true
 ·rw [if_pos hc,if_pos hc]
  exact ⟨fun _=>rfl,fun h=>by omega⟩
 ·rw [if_neg hc,if_neg hc]
  constructor
  ·intro h
   rcases worst_spec (tab2 T (d:Int)) (ball (x:Int)) 0 with ⟨_,h2⟩ | ⟨hall,_,_⟩
   ·omega
   ·refine worst_congr fun z hz => ?_
    obtain ⟨y,hy,rfl⟩:=hb x hx z hz
    have:=hall (y:Int) hz
    rw [stepG_at hd hy,if_neg fun hcan => ?_]
    have:=(canG_neg hcan).1
    omega
  ·intro h h0
   rcases worst_spec (tab2 T (d:Int)) (ball (x:Int)) 0 with ⟨⟨z,hz,h2⟩,_⟩ | ⟨_,h2,_⟩
   ·obtain ⟨y,hy,rfl⟩:=hb x hx z hz
    rcases worst_spec (tab2 (stepG cf mv ball n t T) (d:Int)) (ball (x:Int)) 0 with ⟨_,h3⟩ | ⟨hall,h3,h4⟩
    ·omega
    ·have h5:=hall (y:Int) hz
     rw [stepG_at hd hy] at h5
     have hcan:canG cf mv ball T d y=true:=by
      by_cases hcan:canG cf mv ball T d y=true
      ·exact hcan
      ·rw [if_neg hcan] at h5;omega
     rw [if_pos hcan] at h5
     rcases h4 with h4 | ⟨w,hw,h4⟩
     ·omega
     ·obtain ⟨v,hv,rfl⟩:=hb x hx w hw
      rw [stepG_at hd hv] at h4
      split at h4
      ·omega
      ·have:=hh d v hd hv
       omega
   ·omega
theorem round_next {cf mv:List (List Int)} {ball:Int->List Int} {n:Nat} (hg:gmB n cf mv=true) (hb:okBall n ball) {t:Int} {T:Tab} (hI:RoundI cf mv ball n t T):RoundI cf mv ball n (t+1) (stepG cf mv ball n t T):=by
 obtain ⟨g1,g2,g3,g4⟩:=gmB_parts hg
 have ht:=hI.pos
 have hmv:∀c,c<cf.length -> ∀d∈mv.getD c [],∃e:Nat,d=(e:Int)/\e<cf.length:=fun c hc d hd=>by
  obtain ⟨m1,m2,m3⟩:=g4 c hc
  rw [m2] at hd
  exact nodeX (m3 d hd)
 refine ⟨by omega,fun c x hc hx => ?_,fun c x hc hx => ?_,fun c x hc hx h0 d hd h1 => ?_,fun c x hc hx h0 => ?_,fun c x hc hx h0 d hd h1 => ?_,fun c x hc hx => ?_⟩
 ·rw [stepG_at hc hx]
  split
  ·omega
  ·exact hI.low c x hc hx
 ·rw [stepG_at hc hx]
  split
  ·omega
  ·have:=hI.high c x hc hx;omega
 ·rw [stepG_at hc hx] at h0
  split at h0
  ·omega
  ·rename_i hcan
   obtain ⟨e,rfl,he⟩:=hmv c hc d hd
   obtain ⟨r1,r2⟩:=after_round (mv:=mv) hb ht hI.high he hx
   by_cases h2:0<=afterG cf ball T (e:Int) (x:Int)
   ·exfalso
    apply hcan
    unfold canG
    rw [Bool.and_eq_true]
    exact ⟨decide_eq_true h0,List.any_eq_true.2 ⟨(e:Int),hd,decide_eq_true h2⟩⟩
   ·rw [r2 (by omega) h1]
    omega
 ·rw [stepG_at hc hx] at h0 |-
  split at h0
  ·rename_i hcan
   rw [if_pos hcan]
   obtain ⟨h2,d,hd,h3⟩:=canG_neg hcan
   obtain ⟨e,rfl,he⟩:=hmv c hc d hd
   obtain ⟨r1,r2⟩:=after_round (mv:=mv) hb ht hI.high he hx
   have hle:=after_le hb ht hI.high he hx
   exact ⟨(e:Int),hd,by rw [r1 h3];exact h3,by rw [r1 h3];omega⟩
  ·rename_i hcan
   rw [if_neg hcan]
   obtain ⟨d,hd,h3,h4⟩:=hI.ex c x hc hx h0
   obtain ⟨e,rfl,he⟩:=hmv c hc d hd
   obtain ⟨r1,r2⟩:=after_round (mv:=mv) hb ht hI.high he hx
   exact ⟨(e:Int),hd,by rw [r1 h3];exact h3,by rw [r1 h3];exact h4⟩
 ·rw [stepG_at hc hx] at h0 |-
  obtain ⟨e,rfl,he⟩:=hmv c hc d hd
  obtain ⟨r1,r2⟩:=after_round (mv:=mv) hb ht hI.high he hx
  split at h0
  ·rename_i hcan
   rw [if_pos hcan]
   obtain ⟨h2,_⟩:=canG_neg hcan
   by_cases h3:0<=afterG cf ball T (e:Int) (x:Int)
   ·rw [r1 h3]
    have:=hI.none c x hc hx h2 (e:Int) hd h3
    omega
   ·rw [r2 (by omega) h1]
    omega
  ·rename_i hcan
   rw [if_neg hcan]
   by_cases h3:0<=afterG cf ball T (e:Int) (x:Int)
   ·rw [r1 h3]
    exact hI.least c x hc hx h0 (e:Int) hd h3
   ·rw [r2 (by omega) h1]
    have:=hI.high c x hc hx
    omega
 ·have hz:=hI.zero c x hc hx
  rw [stepG_at hc hx]
  by_cases hcan:canG cf mv ball T c x=true
  ·rw [if_pos hcan]
   obtain ⟨h2,_⟩:=canG_neg hcan
   constructor
   ·intro h;omega
   ·intro h
    have:=hz.2 h
    omega
  ·rw [if_neg hcan]
   exact hz
theorem round_start {cf mv:List (List Int)} {ball:Int->List Int} {n:Nat} (hg:gmB n cf mv=true) (hb:okBall n ball):RoundI cf mv ball n 1 (startG cf n):=by
 have e:∀c x:Nat,c<cf.length->x<n->tab2 (startG cf n) (c:Int) (x:Int)=if hasL (cf.getD c []) (x:Int)=true then 0 else -1:=fun c x hc hx=>tab2_tabM _ hc hx
 refine ⟨by omega,fun c x hc hx => ?_,fun c x hc hx => ?_,fun c x hc hx h0 d hd h1=>by omega,fun c x hc hx h0 => ?_,fun c x hc hx h0 d hd h1 => ?_,fun c x hc hx => ?_⟩
 ·rw [e c x hc hx];split<;>omega
 ·rw [e c x hc hx];split<;>omega
 ·rw [e c x hc hx] at h0;split at h0<;>omega
 ·rw [e c x hc hx] at h0;split at h0<;>omega
 ·rw [e c x hc hx]
  by_cases h:hasL (cf.getD c []) (x:Int)=true
  ·simp [h]
  ·simp [h]
structure TimesI (cf mv:List (List Int)) (ball:Int->List Int) (n:Nat) (T:Tab):Prop where
 low:∀c x:Nat,c<cf.length->x<n -> -1<=tab2 T (c:Int) (x:Int)
 none:∀c x:Nat,c<cf.length->x<n->tab2 T (c:Int) (x:Int)<0 -> ∀d∈mv.getD c [],afterG cf ball T d (x:Int)<0
 ex:∀c x:Nat,c<cf.length->x<n->1<=tab2 T (c:Int) (x:Int) -> ∃d∈mv.getD c [],0<=afterG cf ball T d (x:Int)/\afterG cf ball T d (x:Int)+1<=tab2 T (c:Int) (x:Int)
 least:∀c x:Nat,c<cf.length->x<n->1<=tab2 T (c:Int) (x:Int) -> ∀d∈mv.getD c [],0<=afterG cf ball T d (x:Int)->tab2 T (c:Int) (x:Int)<=afterG cf ball T d (x:Int)+1
 zero:∀c x:Nat,c<cf.length->x<n->(tab2 T (c:Int) (x:Int)=0↔hasL (cf.getD c []) (x:Int)=true)
theorem gameT_times {cf mv:List (List Int)} {ball:Int->List Int} {n:Nat} (hg:gmB n cf mv=true) (hb:okBall n ball):∀(k:Nat) (t:Int) (T:Tab),negsM cf.length n T<k->RoundI cf mv ball n t T->TimesI cf mv ball n (gameT cf mv ball n k t T):=by
 intro k
 induction k with
 | zero=>intro t T h;omega
 | succ k ih=>
  intro t T hn hI
  unfold gameT
  by_cases ha:anyG cf mv ball n T=true
  ·rw [if_pos ha]
   have hp:=hI.pos
   have:=negsM_step (t:=t) (by omega) ha
   exact ih (t+1) _ (by omega) (round_next hg hb hI)
  ·rw [if_neg ha]
   refine ⟨hI.low,fun c x hc hx h0 d hd=>Int.not_le.1 fun h1=>ha ?_,hI.ex,hI.least,hI.zero⟩
   refine anyG_spec.2 ⟨c,x,hc,hx,?_⟩
   unfold canG
   rw [Bool.and_eq_true]
   exact ⟨decide_eq_true h0,List.any_eq_true.2 ⟨d,hd,decide_eq_true h1⟩⟩
theorem gtimes_facts {cf mv:List (List Int)} {ball:Int->List Int} {n:Nat} (hn:n<=8) (hg:gmB n cf mv=true) (hb:okBall n ball):TimesI cf mv ball n (timesG cf mv ball n):=by
 obtain ⟨g1,_⟩:=gmB_parts hg
 have hneg:=negsM_le cf.length n (startG cf n)
 have hmul:cf.length*n<=120*8:=Nat.mul_le_mul g1 hn
 exact gameT_times hg hb 1000 1 _ (by omega) (round_start hg hb)
theorem row_any {m n:Nat} {T:Tab} (hT:rcB m n T=true) {c:Nat} (hc:c<m):T.getD c []=(List.range n).map fun (x:Nat)=>tab2 T (c:Int) (x:Int):=by
 obtain ⟨t1,t2⟩:=rcB_parts hT
 rw [<- row_rc hT hc,at_getDS (by omega)]
theorem worst_iff {m n:Nat} {T:Tab} (hT:rcB m n T=true) {c:Nat} (hc:c<m):0<=worstR (T.getD c []) ↔ ∀x:Nat,x<n->0<=tab2 T (c:Int) (x:Int):=by
 rw [row_any hT hc]
 unfold worstR
 rcases worst_spec (fun z=>z) ((List.range n).map fun (x:Nat)=>tab2 T (c:Int) (x:Int)) 0 with ⟨⟨z,hz,h1⟩,h2⟩ | ⟨h1,h2,_⟩
 ·constructor
  ·intro h;omega
  ·intro h
   obtain ⟨x,hx,rfl⟩:=List.mem_map.1 hz
   have:=h x (List.mem_range.1 hx)
   omega
 ·refine ⟨fun _ x hx => ?_,fun _=>h2⟩
  exact (h1 _ (List.mem_map.2 ⟨x,List.mem_range.2 hx,rfl⟩)).1
theorem win_iff {m n:Nat} {T:Tab} (hT:rcB m n T=true):winB T=true ↔ ∃c,c<m /\ ∀x:Nat,x<n->0<=tab2 T (c:Int) (x:Int):=by
 obtain ⟨t1,t2⟩:=rcB_parts hT
 unfold winB
 rw [List.any_eq_true]
 constructor
 ·rintro ⟨r,hr,h⟩
  obtain ⟨c,hc,rfl⟩:=List.getElem_of_mem hr
  refine ⟨c,by omega,(worst_iff hT (by omega)).1 ?_⟩
  rw [List.getD_eq_getElem?_getD,List.getElem?_eq_getElem hc]
  exact of_decide_eq_true h
 ·rintro ⟨c,hc,h⟩
  have hlt:c<T.length:=by omega
  refine ⟨T[c],List.getElem_mem hlt,decide_eq_true ?_⟩
  have:=(worst_iff hT hc).2 h
  rw [List.getD_eq_getElem?_getD,List.getElem?_eq_getElem hlt] at this
  exact this
end Go.V.W
namespace Go.V.W
open Go.Proofs
theorem conf_one (n:Nat):confL n 1=(List.range n).map fun (i:Nat)=>[(i:Int)]:=by
 show ([[]]:List (List Int)).flatMap _=_
 simp only [List.flatMap_cons,List.flatMap_nil,List.append_nil,upTo,List.getLastD_nil,Int.toNat_zero,Nat.sub_zero,List.map_map,List.range_eq_range']
 rfl
theorem conf_one_len (n:Nat):(confL n 1).length=n:=by rw [conf_one];simp
theorem conf_one_get {n c:Nat} (hc:c<n):(confL n 1).getD c []=[(c:Int)]:=by
 rw [conf_one,List.getD_eq_getElem?_getD]
 simp [hc]
theorem place_one {n y:Nat} (hy:y<n):placeL (confL n 1) [(y:Int)]=(y:Int):=by
 have hm:[(y:Int)]∈confL n 1:=by
  rw [conf_one]
  exact List.mem_map.2 ⟨y,List.mem_range.2 hy,rfl⟩
 obtain ⟨i,hi,h1,h2⟩:=place_at hm
 rw [conf_one_len] at hi
 rw [conf_one_get hi] at h2
 rw [h1]
 simpa using h2
theorem sortI_one (y:Int):sortI [y]=[y]:=List.perm_singleton.1 (sortI_perm [y])
theorem moves_one {ball:Int->List Int} {c:Int} {m:List Int}:m∈movesL ball [c] ↔ ∃y∈ball c,m=[y]:=by
 unfold movesL
 rw [comp_mem,(sortS_perm _).mem_iff]
 simp only [chL,List.flatMap_cons,List.flatMap_nil,List.append_nil,List.nil_append,List.map_map,List.mem_map,Function.comp]
 constructor
 ·rintro ⟨y,hy,rfl⟩
  exact ⟨y,hy,sortI_one y⟩
 ·rintro ⟨y,hy,rfl⟩
  exact ⟨y,hy,sortI_one y⟩
theorem mv_one {n:Nat} {ball:Int->List Int} (hb:okBall n ball) {c:Nat} (hc:c<n) {d:Int}:d∈(movesI ball (confL n 1)).getD c []↔d∈ball (c:Int):=by
 have hl:c<(confL n 1).length:=by rw [conf_one_len];exact hc
 have e:(movesI ball (confL n 1)).getD c []=(movesL ball [(c:Int)]).map (placeL (confL n 1)):=by
  unfold movesI
  have hg:=conf_one_get hc
  rw [List.getD_eq_getElem?_getD,List.getElem?_eq_getElem hl,Option.getD_some] at hg
  rw [List.getD_eq_getElem?_getD,List.getElem?_map,List.getElem?_eq_getElem hl,Option.map_some,Option.getD_some,hg]
 rw [e,List.mem_map]
 constructor
 ·rintro ⟨m,hm,rfl⟩
  obtain ⟨y,hy,rfl⟩:=moves_one.1 hm
  obtain ⟨y',h1,rfl⟩:=hb c hc y hy
  rw [place_one h1]
  exact hy
 ·intro hd
  obtain ⟨y',h1,rfl⟩:=hb c hc d hd
  exact ⟨[(y':Int)],moves_one.2 ⟨_,hd,rfl⟩,place_one h1⟩
theorem after_one {n:Nat} {ball:Int->List Int} {T:Tab} {d:Nat} (hd:d<n) (x:Int):afterG (confL n 1) ball T (d:Int) x=afterT ball T (d:Int) x:=by
 unfold afterG afterT
 rw [Int.toNat_natCast,conf_one_get hd]
 by_cases e:(d:Int)=x
 ·rw [if_pos (show hasL [(d:Int)] x=true by simp [hasL,e]),if_pos e]
 ·rw [if_neg (show ¬hasL [(d:Int)] x=true by simp [hasL,e]),if_neg e]
theorem can_one {n:Nat} {ball:Int->List Int} (hb:okBall n ball) {f:Nat->Nat->Int} {c x:Nat} (hc:c<n) (hx:x<n):canG (confL n 1) (movesI ball (confL n 1)) ball (tabL n f) c x=canF n ball f c x:=by
 unfold canG canF
 rw [tab2_tabL f hc hx]
 congr 1
 rw [Bool.eq_iff_iff,List.any_eq_true,List.any_eq_true]
 constructor
 ·rintro ⟨d,h1,h2⟩
  have h1:=(mv_one hb hc).1 h1
  obtain ⟨y,hy,rfl⟩:=hb c hc d h1
  rw [after_one hy] at h2
  exact ⟨_,h1,h2⟩
 ·rintro ⟨d,h1,h2⟩
  obtain ⟨y,hy,rfl⟩:=hb c hc d h1
  rw [<- after_one hy] at h2
  exact ⟨_,(mv_one hb hc).2 h1,h2⟩
theorem game_one {n:Nat} {ball:Int->List Int} (hb:okBall n ball):∀(k k2:Nat) (t:Int) (f:Nat->Nat->Int),negs n f<k->negs n f<k2->0<=t ->
  gameT (confL n 1) (movesI ball (confL n 1)) ball n k t (tabL n f)=tabL n (timesF n ball k2 t f):=by
 intro k
 induction k with
 | zero=>intro k2 t f h;omega
 | succ k ih=>
  intro k2 t f h1 h2 ht
  obtain ⟨k2,rfl⟩:∃m,k2=m+1:=⟨k2-1,by omega⟩
  unfold gameT timesF
  have ea:anyG (confL n 1) (movesI ball (confL n 1)) ball n (tabL n f)=anyF n (canF n ball f):=by
   unfold anyG anyF
   rw [conf_one_len,Bool.eq_iff_iff,List.any_eq_true,List.any_eq_true]
   constructor
   ·rintro ⟨c,hc,h⟩
    obtain ⟨x,hx,h⟩:=List.any_eq_true.1 h
    exact ⟨c,hc,List.any_eq_true.2 ⟨x,hx,by rw [<- can_one hb (List.mem_range.1 hc) (List.mem_range.1 hx)];exact h⟩⟩
   ·rintro ⟨c,hc,h⟩
    obtain ⟨x,hx,h⟩:=List.any_eq_true.1 h
    exact ⟨c,hc,List.any_eq_true.2 ⟨x,hx,by rw [can_one hb (List.mem_range.1 hc) (List.mem_range.1 hx)];exact h⟩⟩
  rw [ea]
  by_cases h:anyF n (canF n ball f)=true
  ·rw [if_pos h,if_pos h]
   have es:stepG (confL n 1) (movesI ball (confL n 1)) ball n t (tabL n f)=tabL n (stepF n ball t f):=by
    unfold stepG
    rw [conf_one_len]
    refine tabL_congr fun c x hc hx => ?_
    unfold stepF
    rw [can_one hb hc hx,tab2_tabL f hc hx]
   rw [es]
   have hs:=negs_step (ball:=ball) ht h
   exact ih k2 (t+1) _ (by omega) (by omega) (by omega)
  ·rw [if_neg h,if_neg h]
theorem tm_one {n:Nat} (hn:n<=8) (es:List E) (v:Unit):tmG ((n:Int),es,v) 1=timesT n (ballF n es):=by
 unfold tmG cfG mvG cfG timesG timesT
 simp only [Int.toNat_natCast]
 have es':startG (confL n 1) n=tabL n startF:=by
  unfold startG
  rw [conf_one_len]
  refine tabL_congr fun c x hc hx => ?_
  rw [conf_one_get hc]
  unfold startF hasL
  by_cases e:c=x
  ·simp [e]
  ·have e2:¬(c:Int)=(x:Int):=by omega
   simp [e,e2]
 rw [es']
 have h1:=negs_le n startF
 have h2:n*n<=64:=by
  have:=Nat.mul_le_mul hn hn
  omega
 exact game_one (ballF_ok n es) 1000 65 1 startF (by omega) (by omega) (by omega)
end Go.V.W
namespace Go.V.W
open Go.Proofs
theorem okL_mx {α:Type} {l:List α} (h:okL l=true):l.length<=maxLen:=lim_max (of_decide_eq_true h)
theorem ri_l0 (N:Nat) (a b:List Int) (hl:a.length=b.length) (hmx:a.length<=maxLen):∀k i f,i+k=a.length->k<f -> ∃o,laws_rInts_l0 N f (a,b,(i:Int),())=some o/\((o=.inl (false,()) /\ ¬a.drop i=b.drop i)\/(o=.inr (.inl ())/\a.drop i=b.drop i)):=by
 intro k
 induction k with
 | zero=>
  intro i f h1 h2
  obtain ⟨f,rfl⟩:∃m,f=m+1:=⟨f-1,by omega⟩
  have e:i=a.length:=by omega
  refine ⟨.inr (.inl ()),?_,.inr ⟨rfl,by rw [List.drop_of_length_le (by omega),List.drop_of_length_le (by omega)]⟩⟩
  subst e
  show laws_rInts_l0_r _ _ _=_
  unfold laws_rInts_l0_r
  simp only [lt_not,Bool.false_eq_true,if_false]
 | succ k ih=>
  intro i f h1 h2
  obtain ⟨f,rfl⟩:∃m,f=m+1:=⟨f-1,by omega⟩
  have hi:i<a.length:=by omega
  have hi2:i<b.length:=by omega
  have ea:at_ I a i=a[i]:=at_get (e:=I) hi
  have eb:at_ I b i=b[i]:=at_get (e:=I) hi2
  obtain ⟨o,o1,o2⟩:=ih (i+1) f (by omega) (by omega)
  rw [List.drop_eq_getElem_cons hi,List.drop_eq_getElem_cons hi2]
  have step:laws_rInts_l0 N (f+1) (a,b,(i:Int),())=if (a[i] != b[i])=true then some (.inl (false,())) else laws_rInts_l0 N f (a,b,((i+1:Nat):Int),()):=by
   show laws_rInts_l0_r _ _ _=_
   unfold laws_rInts_l0_r
   simp only [lt_dec hi,if_true,idxIn_nat hi,idxIn_nat hi2,Int.toNat_natCast,ea,eb,wrap_up hi hmx]
  rw [step]
  by_cases e:a[i]=b[i]
  ·have:(a[i] != b[i])=false:=by simp [e]
   rw [this]
   simp only [Bool.false_eq_true,if_false]
   refine ⟨o,o1,?_⟩
   rcases o2 with ⟨p1,p2⟩ | ⟨p1,p2⟩
   ·exact .inl ⟨p1,fun h=>p2 (List.cons.inj h).2⟩
   ·exact .inr ⟨p1,by rw [e,p2]⟩
  ·have:(a[i] != b[i])=true:=by simp [e]
   rw [this]
   simp only [if_true]
   exact ⟨_,rfl,.inl ⟨rfl,fun h=>e (List.cons.inj h).1⟩⟩
theorem rInts_lim (d) (r) (h:G_rInts d=some r):∃N,F_laws_rInts N d=some r:=by
 obtain ⟨a,b,_⟩:=d
 unfold G_rInts at h
 split at h
 ·rename_i hl
  have hl:okL a=true:=hl
  have hmx:=okL_mx hl
  have h:=Option.some.inj h
  subst h
  refine ⟨a.length+1,?_⟩
  unfold F_laws_rInts
  by_cases hne:a.length=b.length
  ·have e:((a.length:Int) != (b.length:Int))=false:=by simp;omega
   obtain ⟨o,o1,o2⟩:=ri_l0 (a.length+1) a b hne hmx a.length 0 (a.length+1) (by omega) (by omega)
   simp only [Int.natCast_zero,List.drop_zero] at o1 o2
   simp only [e,Bool.false_eq_true,if_false,o1,Option.bind_some]
   rcases o2 with ⟨rfl,h2⟩ | ⟨rfl,h2⟩
   ·simp only [h2,decide_false]
   ·simp only [h2,decide_true]
  ·have e:((a.length:Int) != (b.length:Int))=true:=by simp;omega
   have h2:¬a=b:=fun h=>hne (by rw [h])
   simp only [e,if_true,h2,decide_false]
 ·cases h
theorem lw_l0 (N:Nat) (T:Tab) (hT:T.length<=1000) (hr:∀r∈T,r.length<=1000):∀k i f,i+k=T.length->k<f -> ∃o,q69q_l0 N f (T,(i:Int),())=some o/\((o=.inl (true,())/\winB (T.drop i)=true)\/(o=.inr (.inl ())/\winB (T.drop i)=false)):=by
 intro k
 induction k with
 | zero=>
  intro i f h1 h2
  obtain ⟨f,rfl⟩:∃m,f=m+1:=⟨f-1,by omega⟩
  have e:i=T.length:=by omega
  refine ⟨.inr (.inl ()),?_,.inr ⟨rfl,by rw [List.drop_of_length_le (by omega)];rfl⟩⟩
  subst e
  show q69q_l0_r _ _ _=_
  unfold q69q_l0_r
  simp only [lt_not,Bool.false_eq_true,if_false]
 | succ k ih=>
  intro i f h1 h2
  obtain ⟨f,rfl⟩:∃m,f=m+1:=⟨f-1,by omega⟩
  have hi:i<T.length:=by omega
  have ea:at_ K_Si T i=T[i]:=at_get (e:=K_Si) hi
  obtain ⟨o,o1,o2⟩:=ih (i+1) f (by omega) (by omega)
  have hd:winB (T.drop i)=(decide (0<=worstR T[i])||winB (T.drop (i+1))):=by
   unfold winB
   rw [List.drop_eq_getElem_cons hi,List.any_cons]
  rw [hd]
  have step:q69q_l0 N (f+1) (T,(i:Int),())=if decide (worstR T[i]>=0)=true then some (.inl (true,())) else q69q_l0 N f (T,((i+1:Nat):Int),()):=by
   show q69q_l0_r _ _ _=_
   unfold q69q_l0_r
   simp only [lt_dec hi,if_true,idxIn_nat hi,Int.toNat_natCast,ea,worst_row8 (hr _ (List.getElem_mem hi)),Option.bind_some,small_wrap (show i<=100000 by omega)]
  rw [step]
  by_cases e:0<=worstR T[i]
  ·have e':decide (worstR T[i]>=0)=true:=decide_eq_true e
   rw [e']
   simp only [if_true]
   exact ⟨_,rfl,.inl ⟨rfl,by simp [e]⟩⟩
  ·have e':decide (worstR T[i]>=0)=false:=decide_eq_false e
   rw [e']
   simp only [Bool.false_eq_true,if_false]
   refine ⟨o,o1,?_⟩
   rw [Bool.false_or]
   exact o2
theorem l4Wins_lim (d) (r) (h:G_l4Wins d=some r):∃N,F_q69q N d=some r:=by
 obtain ⟨⟨n,es,v⟩,k,_⟩:=d
 unfold G_l4Wins at h
 split at h
 ·rename_i hc
  simp only [Bool.and_eq_true] at hc
  obtain ⟨⟨hg,ho⟩,hk⟩:=hc
  have hg:graphB (n,es,v)=true:=hg
  have ho:okL es=true:=ho
  have hk:=inB_iff.1 hk
  have h:=Option.some.inj h
  subst h
  obtain ⟨h0,h8⟩:=graphB_n hg
  obtain ⟨m,rfl⟩:=nat_of h0
  obtain ⟨q,rfl⟩:=nat_of hk.1
  obtain ⟨h1,h2,_⟩:=game_spec (v:=v) hg ho (show q<=3 by omega) () ()
  obtain ⟨s1,s2⟩:=tm_small (es:=es) (v:=v) (show m<=8 by omega) (show q<=3 by omega)
  obtain ⟨o,o1,o2⟩:=lw_l0 1010 (tmG ((m:Int),es,v) q) (by omega) (fun r hr=>by have:=s2 r hr;omega) (tmG ((m:Int),es,v) q).length 0 1010 (by omega) (by omega)
  simp only [Int.natCast_zero,List.drop_zero] at o1 o2
  refine ⟨1010,?_⟩
  unfold F_q69q
  simp only [h1,h2,Option.bind_some,o1,Int.toNat_natCast]
  rcases o2 with ⟨rfl,h3⟩ | ⟨rfl,h3⟩
  ·simp only [h3]
  ·simp only [h3]
 ·cases h
end Go.V.W
namespace Go.V.W
open Go.Proofs
theorem bestRow_win:∀(T:Tab) (i b l:Int),0<=i->(0<=(bestRow T i b l).1↔0<=b\/winB T=true):=by
 intro T
 induction T with
 | nil=>intro i b l _;simp [bestRow,winB]
 | cons r T ih=>
  intro i b l hi
  have hw:winB (r::T)=(decide (0<=worstR r)||winB T):=rfl
  rw [hw,Bool.or_eq_true,decide_eq_true_eq]
  unfold bestRow
  split
  ·rename_i hh
   rw [ih _ _ _ (by omega)]
   constructor
   ·intro _;exact .inr (.inl hh.1)
   ·intro _;exact .inl hi
  ·rename_i hh
   rw [ih _ _ _ (by omega)]
   constructor
   ·rintro (h | h)
    ·exact .inl h
    ·exact .inr (.inr h)
   ·rintro (h | h | h)
    ·exact .inl h
    ·exact .inl (Int.not_lt.1 fun hb=>hh ⟨h,.inl hb⟩)
    ·exact .inr h
theorem best_win (cf:List (List Int)) (T:Tab):(bestOut cf (bestRow T 0 (-1) 0)).2.2.1=winB T:=by
 have h:=bestRow_win T 0 (-1) 0 (by omega)
 unfold bestOut
 split
 ·rename_i hn
  cases hw:winB T with
  | false=>rfl
  | true=>
   have:=h.2 (.inr hw)
   omega
 ·rename_i hn
  rcases h.1 (by omega) with h2 | h2
  ·omega
  ·exact h2.symm
theorem implCC {n:Int} {es:List E} {v:Unit} (ho:okL es=true) (k:Int) (u:Unit):F_q52q 0 ((n,es,v),k,u)=some (canO (n,es,v) k):=by
 unfold F_q52q canO
 simp only [implField (g:=(n,es,v)) ho]
 cases h:fieldB (n,es,v) k with
 | false=>simp only [Option.bind_some,Bool.not_false,if_true,Bool.false_eq_true,if_false]
 | true=>
  obtain ⟨hg,m,q,rfl,rfl,m1,m8,q1,q3⟩:=field_parts h
  obtain ⟨h1,h2⟩:=game_impl (v:=v) hg ho m1 q3 ()
  have h3:G_copBest (((toI (netN m es),()),cfG ((m:Int),es,v) q,mvG ((m:Int),es,v) q,tmG ((m:Int),es,v) q,()),())=some (bestOut (cfG ((m:Int),es,v) q) (bestRow (tmG ((m:Int),es,v) q) 0 (-1) 0)):=by
   unfold G_copBest
   simp only [h2,tm_low,Bool.and_self,if_true]
  simp only [Option.bind_some,Bool.not_true,Bool.false_eq_true,if_false,net_some hg ho,h1,h3,if_true,Int.toNat_natCast,best_win]
end Go.V.W
namespace Go.V.W
open Go.Proofs
theorem at_l {e:Kd} {l:List e.den} {i:Nat} (h:i<l.length):at_ e l i=l[i]:=at_get h
end Go.V.W
namespace Go.V.W
structure Inv3 (p n:Nat) (ball:Nat->Int->List Int) (f:Nat->Nat->Nat->Int):Prop where
 low:∀r c q,-1<=f r c q
 home:∀r c,f r c c=0
 away:∀r c q,c≠q->f r c q≠0
 why:∀r c q,r<p->c<n->q<n->0<=f r c q->c=q \/ ∃b∈ball r (c:Int),0<=afterT (ball r) (tabL n (f ((r+1) % p))) b (q:Int)
theorem Inv3.start (p n:Nat) (ball:Nat->Int->List Int):Inv3 p n ball start3:=by
 refine ⟨fun r c q => ?_,fun r c => ?_,fun r c q h => ?_,fun r c q _ _ _ h => ?_⟩
 ·unfold start3 startF;split<;>omega
 ·unfold start3 startF;simp
 ·unfold start3 startF;rw [if_neg h];omega
 ·unfold start3 startF at h
  by_cases e:c=q
  ·exact .inl e
  ·rw [if_neg e] at h;omega
def okBalls (p n:Nat) (ball:Nat->Int->List Int):Prop := ∀r,r<p->okBall n (ball r)
theorem after_mono {n:Nat} {ball:Int->List Int} (hb:okBall n ball) {f g:Nat->Nat->Int} (h:∀c q,0<=f c q->0<=g c q) {b q:Nat} (hbn:b<n) (hq:q<n) (h0:0<=afterT ball (tabL n f) (b:Int) (q:Int)):0<=afterT ball (tabL n g) (b:Int) (q:Int):=by
 unfold afterT at h0 |-
 by_cases e:(b:Int)=(q:Int)
 ·rw [if_pos e];exact Int.le_refl _
 ·rw [if_neg e] at h0 |-
  rcases worst_spec (tab2 (tabL n f) (b:Int)) (ball (q:Int)) 0 with ⟨_,h1⟩ | ⟨h1,_,_⟩
  ·omega
  ·rcases worst_spec (tab2 (tabL n g) (b:Int)) (ball (q:Int)) 0 with ⟨⟨x,hx,h2⟩,_⟩ | ⟨_,h2,_⟩
   ·exfalso
    obtain ⟨y,hy,rfl⟩:=hb q hq x hx
    have:=(h1 _ hx).1
    rw [tab2_tabL _ hbn hy] at this h2
    have:=h _ _ this
    omega
   ·exact h2
theorem Inv3.next {p n:Nat} {ball:Nat->Int->List Int} (hb:okBalls p n ball) {t:Int} (ht:1<=t) {f:Nat->Nat->Nat->Int} (hI:Inv3 p n ball f):Inv3 p n ball (step3 p n ball t f):=by
 have hkeep:∀r c q,0<=f r c q->step3 p n ball t f r c q=f r c q:=fun r c q h=>by
  unfold step3 can3
  have:decide (f r c q<0)=false:=by simp;omega
  simp [this]
 have hge:∀r c q,0<=f r c q->0<=step3 p n ball t f r c q:=fun r c q h=>by rw [hkeep r c q h];exact h
 refine ⟨fun r c q => ?_,fun r c => ?_,fun r c q h => ?_,fun r c q hr hc hq h => ?_⟩
 ·unfold step3;split
  ·omega
  ·exact hI.low r c q
 ·rw [hkeep r c c (by rw [hI.home];exact Int.le_refl _)];exact hI.home r c
 ·unfold step3;split
  ·omega
  ·exact hI.away r c q h
 ·have key:(∃b∈ball r (c:Int),0<=afterT (ball r) (tabL n (f ((r+1) % p))) b (q:Int)) -> ∃b∈ball r (c:Int),0<=afterT (ball r) (tabL n (step3 p n ball t f ((r+1) % p))) b (q:Int):=by
   rintro ⟨b,hbm,h1⟩
   obtain ⟨y,hy,rfl⟩:=hb r hr c hc b hbm
   exact ⟨_,hbm,after_mono (hb r hr) (hge _) hy hq h1⟩
  by_cases hf:0<=f r c q
  ·exact (hI.why r c q hr hc hq hf).imp _root_.id key
  ·right
   have hcan:can3 p n ball f r c q=true:=by
    cases hcan:can3 p n ball f r c q with
    | true=>rfl
    | false=>unfold step3 at h;rw [if_neg (by rw [hcan];simp)] at h;exact absurd h hf
   unfold can3 at hcan
   simp only [Bool.and_eq_true,List.any_eq_true,decide_eq_true_eq] at hcan
   exact key hcan.2
end Go.V.W
namespace Go.V.W
open Go.Proofs
structure TT (nets:List Nt) (p n:Nat):Prop where
 ok:netsB n nets=true
 len:nets.length=p
 n8:n<=8
end Go.V.W
namespace Go.V.W
open Go.Proofs
theorem l4Worst_lim (d) (r) (h:G_l4Worst d=some r):∃N,F_q56q N d=some r:=by
 obtain ⟨l,_⟩:=d
 unfold G_l4Worst at h
 split at h
 ·rename_i hl
  have hmx:=lim_max (okL_lim hl)
  have h:=Option.some.inj h
  subst h
  have key:∀(k i f:Nat) (m:Int),i+k=l.length->k<f->q56q_l0 (l.length+1) f (l,m,(i:Int),())=some (.inl (worstL (fun z=>z) (l.drop i) m,()))\/q56q_l0 (l.length+1) f (l,m,(i:Int),())=some (.inr (.inl (worstL (fun z=>z) (l.drop i) m,()))):=by
   intro k
   induction k with
   | zero=>
    intro i f m h1 h2
    obtain ⟨f,rfl⟩:∃z,f=z+1:=⟨f-1,by omega⟩
    have e:i=l.length:=by omega
    subst e
    rw [List.drop_of_length_le (Nat.le_refl _)]
    right
    simp [q56q_l0,q56q_l0_r,worstL]
   | succ k ih=>
    intro i f m h1 h2
    obtain ⟨f,rfl⟩:∃z,f=z+1:=⟨f-1,by omega⟩
    have hi:i<l.length:=by omega
    have step:q56q_l0 (l.length+1) (f+1) (l,m,(i:Int),())=if l[i]<0 then some (.inl (-1,())) else q56q_l0 (l.length+1) f (l,(if m<l[i] then l[i] else m),((i+1:Nat):Int),()):=by
     show q56q_l0_r (l.length+1) (q56q_l0 (l.length+1) f) _=_
     unfold q56q_l0_r
     simp only [lt_dec hi,if_true,idxIn_nat hi,Int.toNat_natCast,at_l (e:=I) hi,most_eq,wrap_up hi hmx]
     by_cases h:l[i]<0
     ·simp only [h,decide_true,if_true]
     ·simp only [h,decide_false,Bool.false_eq_true,if_false]
    rw [step,List.drop_eq_getElem_cons hi]
    simp only [worstL]
    by_cases h:l[i]<0
    ·rw [if_pos h,if_pos h]
     exact .inl rfl
    ·rw [if_neg h,if_neg h]
     exact ih (i+1) f _ (by omega) (by omega)
  refine ⟨l.length+1,?_⟩
  unfold F_q56q
  have:=key l.length 0 (l.length+1) 0 (by omega) (by omega)
  simp only [Int.natCast_zero,List.drop_zero] at this
  rcases this with h | h<;>simp only [h,Option.bind_some]
 ·cases h
theorem max_lim (d) (r) (h:G_max d=some r):∃N,F_q15q N d=some r:=by
 obtain ⟨l,_⟩:=d
 unfold G_max at h
 split at h
 ·rename_i hc
  simp only [Bool.and_eq_true,decide_eq_true_eq] at hc
  obtain ⟨hl,h0⟩:=hc
  have h0:0<l.length:=h0
  have hmx:=lim_max (okL_lim hl)
  have h:=Option.some.inj h
  subst h
  have key:∀(k i f:Nat) (m:Int),i+k=l.length->k<f->q15q_l0 (l.length+1) f (l,m,(i:Int),())=some (.inl ((l.drop i).foldl (fun a b=>if a<b then b else a) m,())):=by
   intro k
   induction k with
   | zero=>
    intro i f m h1 h2
    obtain ⟨f,rfl⟩:∃z,f=z+1:=⟨f-1,by omega⟩
    have e:i=l.length:=by omega
    subst e
    rw [List.drop_of_length_le (Nat.le_refl _)]
    simp [q15q_l0,q15q_l0_r]
   | succ k ih=>
    intro i f m h1 h2
    obtain ⟨f,rfl⟩:∃z,f=z+1:=⟨f-1,by omega⟩
    have hi:i<l.length:=by omega
    show q15q_l0_r (l.length+1) (q15q_l0 (l.length+1) f) _=_
    unfold q15q_l0_r
    rw [List.drop_eq_getElem_cons hi]
    simp only [lt_dec hi,if_true,idxIn_nat hi,Int.toNat_natCast,at_l (e:=I) hi,wrap_up hi hmx,List.foldl_cons]
    exact ih (i+1) f _ (by omega) (by omega)
  refine ⟨l.length+1,?_⟩
  unfold F_q15q
  have h1:decide ((l.length:Int)<1)=false:=by simp;omega
  have i0:idxIn (0:Int) l.length=true:=idxIn_nat h0
  have z0:(0:Int).toNat=0:=rfl
  have:=key (l.length-1) 1 (l.length+1) l[0] (by omega) (by omega)
  simp only [Int.natCast_one] at this
  simp only [h1,Bool.false_eq_true,if_false,i0,if_true,z0,at_l (e:=I) h0,this,Option.bind_some]
  cases l with
  | nil=>simp at h0
  | cons a l=>simp
 ·cases h
end Go.V.W
namespace Go.V.W
open Go.Proofs
theorem after_ext {n:Nat} {ball:Int->List Int} (hb:okBall n ball) {f g:Nat->Nat->Int} {t:Int} (ht:1<=t) (hf:∀c q,c<n->q<n->f c q<t) (hg:∀c q,c<n->q<n->g c q=f c q\/(f c q<0/\g c q=t)) {b q:Nat} (hbn:b<n) (hq:q<n) :
  (0<=afterT ball (tabL n f) (b:Int) (q:Int)->afterT ball (tabL n g) (b:Int) (q:Int)=afterT ball (tabL n f) (b:Int) (q:Int)) /\
  (0<=afterT ball (tabL n g) (b:Int) (q:Int)->afterT ball (tabL n g) (b:Int) (q:Int)=afterT ball (tabL n f) (b:Int) (q:Int)\/afterT ball (tabL n g) (b:Int) (q:Int)=t):=by
 unfold afterT
 by_cases e:(b:Int)=(q:Int)
 ·rw [if_pos e,if_pos e]
  exact ⟨fun _=>rfl,fun _=>.inl rfl⟩
 ·simp only [if_neg e]
  have key:(∀x∈ball (q:Int),0<=tab2 (tabL n f) (b:Int) x)->worstL (tab2 (tabL n g) (b:Int)) (ball (q:Int)) 0=worstL (tab2 (tabL n f) (b:Int)) (ball (q:Int)) 0:=fun h=>worst_congr fun x hx=>by
   obtain ⟨y,hy,rfl⟩:=hb q hq x hx
   have:=h _ hx
   rw [tab2_tabL _ hbn hy] at this |-
   rw [tab2_tabL _ hbn hy]
   rcases hg b y hbn hy with h1 | ⟨h1,_⟩
   ·exact h1
   ·omega
  constructor
  ·intro h0
   rcases worst_spec (tab2 (tabL n f) (b:Int)) (ball (q:Int)) 0 with ⟨_,h1⟩ | ⟨h1,_,_⟩
   ·omega
   ·exact key fun x hx=>(h1 x hx).1
  ·intro h0
   rcases worst_spec (tab2 (tabL n g) (b:Int)) (ball (q:Int)) 0 with ⟨_,h1⟩ | ⟨h1,h2,h3⟩
   ·omega
   ·by_cases ha:∀x∈ball (q:Int),0<=tab2 (tabL n f) (b:Int) x
    ·exact .inl (key ha)
    ·right
     obtain ⟨x,hx,hn⟩:∃x∈ball (q:Int),¬0<=tab2 (tabL n f) (b:Int) x:=Classical.byContradiction fun hc=>ha fun x hx=>Classical.byContradiction fun h=>hc ⟨x,hx,h⟩
     obtain ⟨y,hy,rfl⟩:=hb q hq x hx
     rw [tab2_tabL _ hbn hy] at hn
     have hy1:=h1 _ hx
     rw [tab2_tabL _ hbn hy] at hy1
     have hyt:g b y=t:=by
      rcases hg b y hbn hy with h4 | ⟨_,h4⟩
      ·omega
      ·exact h4
     have hle:worstL (tab2 (tabL n g) (b:Int)) (ball (q:Int)) 0<=t:=by
      rcases h3 with h3 | ⟨z,hz,h3⟩
      ·omega
      ·obtain ⟨y2,hy2,rfl⟩:=hb q hq z hz
       rw [h3,tab2_tabL _ hbn hy2]
       rcases hg b y2 hbn hy2 with h4 | ⟨_,h4⟩
       ·have:=hf b y2 hbn hy2
        omega
       ·omega
     omega
structure Exa3 (p n:Nat) (ball:Nat->Int->List Int) (t:Int) (f:Nat->Nat->Nat->Int):Prop where
 pos:1<=t
 high:∀r c q,r<p->c<n->q<n->f r c q<t
 none:∀r c q,r<p->c<n->q<n->f r c q<0 -> ∀b∈ball r (c:Int),¬(0<=afterT (ball r) (tabL n (f ((r+1) % p))) b (q:Int)/\afterT (ball r) (tabL n (f ((r+1) % p))) b (q:Int)<t-1)
 some:∀r c q,r<p->c<n->q<n->1<=f r c q -> ∃b∈ball r (c:Int),0<=afterT (ball r) (tabL n (f ((r+1) % p))) b (q:Int)/\afterT (ball r) (tabL n (f ((r+1) % p))) b (q:Int)+1=f r c q
 best:∀r c q,r<p->c<n->q<n->0<=f r c q -> ∀b∈ball r (c:Int),0<=afterT (ball r) (tabL n (f ((r+1) % p))) b (q:Int)->f r c q<=afterT (ball r) (tabL n (f ((r+1) % p))) b (q:Int)+1
theorem after_lt {n:Nat} {ball:Int->List Int} (hb:okBall n ball) {f:Nat->Nat->Int} {t:Int} (ht:1<=t) (hf:∀c q,c<n->q<n->f c q<t) {b q:Nat} (hbn:b<n) (hq:q<n):afterT ball (tabL n f) (b:Int) (q:Int)<=t-1:=by
 unfold afterT
 split
 ·omega
 ·rcases worst_spec (tab2 (tabL n f) (b:Int)) (ball (q:Int)) 0 with ⟨_,h⟩ | ⟨_,_,h | ⟨x,hx,h⟩⟩
  ·omega
  ·omega
  ·obtain ⟨y,hy,rfl⟩:=hb q hq x hx
   rw [tab2_tabL f hbn hy] at h
   have:=hf b y hbn hy
   omega
theorem Exa3.next {p n:Nat} {ball:Nat->Int->List Int} (hp:0<p) (hb:okBalls p n ball) {t:Int} {f:Nat->Nat->Nat->Int} (hI:Exa3 p n ball t f):Exa3 p n ball (t+1) (step3 p n ball t f):=by
 have ht:=hI.pos
 have hstep:∀r c q,step3 p n ball t f r c q=f r c q\/(f r c q<0/\step3 p n ball t f r c q=t):=fun r c q=>by
  unfold step3
  split
  ·rename_i h
   unfold can3 at h
   rw [Bool.and_eq_true,decide_eq_true_eq] at h
   exact .inr ⟨h.1,rfl⟩
  ·exact .inl rfl
 have hm:∀r,(r+1) % p<p:=fun r=>Nat.mod_lt _ hp
 have hext:∀r b q,r<p->b<n->q<n->_:=fun r b q hr hbn hq=>after_ext (f:=f ((r+1) % p)) (g:=step3 p n ball t f ((r+1) % p)) (hb r hr) ht (fun c q hc hq=>hI.high ((r+1) % p) c q (hm r) hc hq) (fun c q _ _=>hstep ((r+1) % p) c q) hbn hq
 have hlt:∀r b q,r<p->b<n->q<n->_:=fun r b q hr hbn hq=>after_lt (f:=f ((r+1) % p)) (hb r hr) ht (fun c q hc hq=>hI.high ((r+1) % p) c q (hm r) hc hq) (b:=b) (q:=q) hbn hq
 refine ⟨by omega,fun r c q hr hc hq => ?_,fun r c q hr hc hq h b hbm => ?_,fun r c q hr hc hq h => ?_,fun r c q hr hc hq h b hbm h0 => ?_⟩
 ·rcases hstep r c q with h | ⟨_,h⟩
  ·have:=hI.high r c q hr hc hq;omega
  ·omega
 ·obtain ⟨b,hbn,rfl⟩:=hb r hr c hc b hbm
  have hcan:can3 p n ball f r c q=false:=by
   cases hcc:can3 p n ball f r c q with
   | false=>rfl
   | true=>
    have:step3 p n ball t f r c q=t:=by unfold step3;rw [if_pos hcc]
    omega
  have hfr:f r c q<0:=by
   rcases hstep r c q with h1 | ⟨h1,_⟩
   ·omega
   ·exact h1
  unfold can3 at hcan
  rw [decide_eq_true hfr,Bool.true_and,List.any_eq_false] at hcan
  have hno:=hcan _ hbm
  simp only [decide_eq_true_eq] at hno
  rintro ⟨h1,h2⟩
  rcases (hext r b q hr hbn hq).2 h1 with h3 | h3
  ·rw [h3] at h1
   exact hno h1
  ·omega
 ·rcases hstep r c q with h1 | ⟨h1,h2⟩
  ·rw [h1] at h |-
   obtain ⟨b,hbm,k0,k1⟩:=hI.some r c q hr hc hq h
   obtain ⟨b',hbn,rfl⟩:=hb r hr c hc b hbm
   have:=(hext r b' q hr hbn hq).1 k0
   exact ⟨_,hbm,by rw [this];exact k0,by rw [this];exact k1⟩
  ·have hcc:can3 p n ball f r c q=true:=by
    cases hcc:can3 p n ball f r c q with
    | true=>rfl
    | false=>
     have:step3 p n ball t f r c q=f r c q:=by unfold step3;rw [if_neg (by simp [hcc])]
     omega
   unfold can3 at hcc
   rw [Bool.and_eq_true,List.any_eq_true] at hcc
   obtain ⟨_,b,hbm,hb0⟩:=hcc
   have hb0:=of_decide_eq_true hb0
   obtain ⟨b',hbn,rfl⟩:=hb r hr c hc b hbm
   have h3:=(hext r b' q hr hbn hq).1 hb0
   have h4:=hlt r b' q hr hbn hq
   have h5:=hI.none r c q hr hc hq h1 _ hbm
   exact ⟨_,hbm,by rw [h3];exact hb0,by rw [h3,h2];omega⟩
 ·obtain ⟨b',hbn,rfl⟩:=hb r hr c hc b hbm
  rcases (hext r b' q hr hbn hq).2 h0 with h3 | h3
  ·rw [h3] at h0 |-
   rcases hstep r c q with h1 | ⟨h1,h2⟩
   ·rw [h1] at h |-
    exact hI.best r c q hr hc hq h _ hbm h0
   ·have h5:=hI.none r c q hr hc hq h1 _ hbm
    omega
  ·rcases hstep r c q with h1 | ⟨h1,h2⟩
   ·have:=hI.high r c q hr hc hq
    omega
   ·omega
theorem Exa3.start {p n:Nat} {ball:Nat->Int->List Int} (hb:okBalls p n ball):Exa3 p n ball 1 start3:=by
 refine ⟨by omega,fun r c q _ _ _ => ?_,fun r c q _ _ _ _ b _ h=>by omega,fun r c q _ _ _ h => ?_,fun r c q _ _ _ _ b _ h0 => ?_⟩
 ·unfold start3 startF;split<;>omega
 ·unfold start3 startF at h;split at h<;>omega
 ·have:start3 r c q<=0:=by unfold start3 startF;split<;>omega
  omega
end Go.V.W
namespace Go.V.W
open Go.Proofs
theorem and255 (x:Int):0<=bits .and .u64 x 255/\bits .and .u64 x 255<=255:=by
 have h:bits .and .u64 x 255=IntKind.wrap .u64 ((BitVec.ofInt 64 x&&&BitVec.ofInt 64 255).toNat:Int):=rfl
 have e:(BitVec.ofInt 64 x&&&BitVec.ofInt 64 255).toNat<=255:=by
  rw [BitVec.toNat_and]
  have:(BitVec.ofInt 64 255).toNat=255:=by decide
  rw [this]
  exact Nat.and_le_right
 rw [h]
 generalize (BitVec.ofInt 64 x&&&BitVec.ofInt 64 255).toNat=m at e
 unfold IntKind.wrap
 simp [IntKind.bits,IntKind.signed]
 omega
theorem next_ok {c:Cur} {u:Unit} (h:CurB c) (hf:c.2.1<=far_):Ok (F_q38q 0 (c,u)) fun r=>0<=r.1/\r.1<=255/\Adv 1 c r.2.1:=by
 obtain ⟨l,a,s,_⟩:=c
 obtain ⟨hb,ha⟩:=h
 simp only at hb ha hf
 unfold far_ at hf
 have w1:IntKind.wrap .i64 (a+1)=a+1:=wrap_in _ (by omega) (by omega)
 have hx:=and255
 have w2:∀x:Int,IntKind.wrap .i64 (bits .and .u64 x 255)=bits .and .u64 x 255:=fun x=>wrap_in _ (by have:=(hx x).1;omega) (by have:=(hx x).2;omega)
 have adv:∀s',Adv 1 (l,a,s,()) (l,a+1,s',()):=fun s'=>⟨⟨hb,by simp only;omega⟩,by simp only;omega⟩
 unfold F_q38q
 simp only [w1,w2]
 refine Ok.ite (fun h1 => ?_) (fun h1 => ?_)
 ·have h1:a<l.length:=of_decide_eq_true h1
  refine Ok.pos (by unfold idxIn;simp;omega) ?_
  obtain ⟨v,hv⟩:∃v:Int,at_ (.int .u8) l a.toNat=v:=⟨_,rfl⟩
  have hv':0<=v/\v<=255:=by
   have hlt:a.toNat<l.length:=by omega
   rw [at_get (e:=.int .u8) hlt] at hv
   rw [<- hv]
   exact hb _ (List.getElem_mem hlt)
  rw [hv]
  have w3:IntKind.wrap .i64 v=v:=wrap_in _ (by omega) (by omega)
  simp only [w3]
  refine Ok.ite (fun _=>Ok.some ⟨hv'.1,hv'.2,adv _⟩) (fun _=>Ok.pos rfl (Ok.some ⟨(hx _).1,(hx _).2,adv _⟩))
 ·refine Ok.ite (fun _=>Ok.some ⟨by simp,by simp,adv _⟩) (fun _=>Ok.pos rfl (Ok.some ⟨(hx _).1,(hx _).2,adv _⟩))
theorem tmod_in {x n:Int} (h:0<=x) (hn:0<n):0<=x.tmod n/\x.tmod n<n:=by
 rw [Int.tmod_eq_emod_of_nonneg h]
 exact ⟨Int.emod_nonneg _ (by omega),Int.emod_lt_of_pos _ hn⟩
theorem pick_ok {c:Cur} {n:Int} {u:Unit} (h:CurB c) (hf:c.2.1+2<=far_):Ok (F_q37q 0 (c,n,u)) fun r=>0<=r.1/\(r.1<n\/r.1=0)/\Adv 2 c r.2.1:=by
 unfold F_q37q
 simp only
 refine Ok.ite (fun h1=>Ok.some ⟨Int.le_refl _,.inr rfl,h,by simp only;omega⟩) (fun h1 => ?_)
 have h1:¬n<=1:=of_decide_eq_false h1
 have hn:(n != 0)=true:=by simp;omega
 refine Ok.bind (next_ok h (by omega)) fun r hr => ?_
 obtain ⟨r1,r2,r3⟩:=hr
 refine Ok.ite (fun h2 => ?_) (fun h2 => ?_)
 ·have w1:IntKind.wrap .i64 (r.1*256)=r.1*256:=wrap_in _ (by omega) (by omega)
  refine Ok.bind (next_ok r3.1 (by have:=r3.2;omega)) fun q hq => ?_
  obtain ⟨q1,q2,q3⟩:=hq
  have w2:IntKind.wrap .i64 (r.1*256+q.1)=r.1*256+q.1:=wrap_in _ (by omega) (by omega)
  refine Ok.pos hn (Ok.some ?_)
  rw [w1,w2]
  have:=tmod_in (x:=r.1*256+q.1) (n:=n) (by omega) (by omega)
  exact ⟨this.1,.inl this.2,(r3.trans q3).le (by omega)⟩
 ·refine Ok.pos hn (Ok.some ?_)
  have:=tmod_in (x:=r.1) (n:=n) (by omega) (by omega)
  exact ⟨this.1,.inl this.2,r3.le (by omega)⟩
theorem one_ok {c:Cur} {n:Int} {u:Unit} (h:CurB c) (hf:c.2.1+2<=far_):Ok (F_q43q 0 (c,n,u)) fun r=>Adv 2 c r.2.1:=by
 unfold F_q43q
 simp only
 exact Ok.bind (pick_ok h hf) fun r hr=>Ok.some hr.2.2
theorem among_ok {c:Cur} {l:List Int} {u:Unit} (h:CurB c) (hf:c.2.1+2<=far_) (hl:0<l.length):Ok (F_q30q 0 (c,l,u)) fun r=>r.1∈l/\Adv 2 c r.2.1:=by
 unfold F_q30q
 simp only
 refine Ok.bind (pick_ok h hf) fun r hr => ?_
 obtain ⟨r1,r2,r3⟩:=hr
 have hlt:r.1.toNat<l.length:=by omega
 refine Ok.pos (by unfold idxIn;simp;omega) (Ok.some ⟨?_,r3⟩)
 rw [at_get (e:=I) hlt]
 exact List.getElem_mem hlt
end Go.V.W
namespace Go.V.W
open Go.Proofs
theorem pa_l0 (N:Nat) (n:Nat) (hn:n<=8) (z:Gr) (a:Int):∀k x f (es:List E),x+k=n->k<f->es.length<=x -> ∃es',q74q_l0 N f ((n:Int),z,(a,es,()),(x:Int),())=some (.inl (z,(a,es',()),()))/\es'.length<=100:=by
 intro k
 induction k with
 | zero=>
  intro x f es h1 h2 h3
  obtain ⟨f,rfl⟩:∃m,f=m+1:=⟨f-1,by omega⟩
  refine ⟨es,?_,by omega⟩
  have hlt:decide (((x+1:Nat):Int)<(n:Int))=false:=decide_eq_false (by omega)
  show q74q_l0_r _ _ _=_
  unfold q74q_l0_r
  simp only [small_wrap (show x<=100000 by omega),hlt,Bool.false_eq_true,if_false]
 | succ k ih=>
  intro x f es h1 h2 h3
  obtain ⟨f,rfl⟩:∃m,f=m+1:=⟨f-1,by omega⟩
  by_cases hx:x+1<n
  ·have hlt:decide (((x+1:Nat):Int)<(n:Int))=true:=decide_eq_true (by omega)
   have hle:∀e:E,decide (es.length+List.length [e]<=lim)=true:=fun e=>by unfold lim;simp;omega
   obtain ⟨es',e1,e2⟩:=ih (x+1) f (es++[((x:Int),((x+1:Nat):Int),())]) (by omega) (by omega) (by simp;omega)
   refine ⟨es',?_,e2⟩
   rw [<- e1]
   show q74q_l0_r _ _ _=_
   unfold q74q_l0_r
   simp only [small_wrap (show x<=100000 by omega),hlt,if_true,hle]
  ·refine ⟨es,?_,by omega⟩
   have hlt:decide (((x+1:Nat):Int)<(n:Int))=false:=decide_eq_false (by omega)
   show q74q_l0_r _ _ _=_
   unfold q74q_l0_r
   simp only [small_wrap (show x<=100000 by omega),hlt,Bool.false_eq_true,if_false]
theorem path_ok (n:Nat) (hn:n<=8):Ok (pickF F_q74q P_path ((n:Int),())) (P_path ((n:Int),())):=by
 refine Ok.pick 20 ?_
 obtain ⟨es,e1,e2⟩:=pa_l0 20 n hn (0,[],()) (n:Int) n 0 20 [] (by omega) (by omega) (by simp)
 refine ⟨(((n:Int),es,()),()),?_,e2⟩
 unfold F_q74q
 simp only [Int.natCast_zero] at e1
 simp only [e1,Option.bind_some]
theorem wh_l2 (N:Nat) (n:Nat) (hn:n<=8) (z:Gr) (a:Int) (x:Int):∀k y f (es:List E),y+k=n->k<f->es.length+k<=1000 -> ∃es',q39q_l2 N f ((n:Int),z,(a,es,()),x,(y:Int),())=some (.inl ((n:Int),z,(a,es',()),x,()))/\es'.length=es.length+k:=by
 intro k
 induction k with
 | zero=>
  intro y f es h1 h2 h3
  obtain ⟨f,rfl⟩:∃m,f=m+1:=⟨f-1,by omega⟩
  refine ⟨es,?_,by omega⟩
  have hlt:decide ((y:Int)<(n:Int))=false:=decide_eq_false (by omega)
  show q39q_l2_r _ _ _=_
  unfold q39q_l2_r
  simp only [hlt,Bool.false_eq_true,if_false]
 | succ k ih=>
  intro y f es h1 h2 h3
  obtain ⟨f,rfl⟩:∃m,f=m+1:=⟨f-1,by omega⟩
  have hlt:decide ((y:Int)<(n:Int))=true:=decide_eq_true (by omega)
  have hle:∀e:E,decide (es.length+List.length [e]<=lim)=true:=fun e=>by unfold lim;simp;omega
  obtain ⟨es',e1,e2⟩:=ih (y+1) f (es++[(x,(y:Int),())]) (by omega) (by omega) (by simp;omega)
  refine ⟨es',?_,by rw [e2];simp;omega⟩
  rw [<- e1]
  show q39q_l2_r _ _ _=_
  unfold q39q_l2_r
  simp only [hlt,if_true,hle,small_wrap (show y<=100000 by omega)]
theorem wh_l0 (N:Nat) (hN:20<=N) (n:Nat) (hn:n<=8) (z:Gr) (a:Int):∀k x f (es:List E),x+k=n->k<f->es.length<=8*x -> ∃es',q39q_l0 N f ((n:Int),z,(a,es,()),(x:Int),())=some (.inl (z,(a,es',()),()))/\es'.length<=100:=by
 intro k
 induction k with
 | zero=>
  intro x f es h1 h2 h3
  obtain ⟨f,rfl⟩:∃m,f=m+1:=⟨f-1,by omega⟩
  refine ⟨es,?_,by omega⟩
  have hlt:decide ((x:Int)<(n:Int))=false:=decide_eq_false (by omega)
  show q39q_l0_r _ _ _=_
  unfold q39q_l0_r
  simp only [hlt,Bool.false_eq_true,if_false]
 | succ k ih=>
  intro x f es h1 h2 h3
  obtain ⟨f,rfl⟩:∃m,f=m+1:=⟨f-1,by omega⟩
  have hlt:decide ((x:Int)<(n:Int))=true:=decide_eq_true (by omega)
  obtain ⟨e1,q1,q2⟩:=wh_l2 N n hn z a (x:Int) (n-(x+1)) (x+1) N es (by omega) (by omega) (by omega)
  obtain ⟨es',r1,r2⟩:=ih (x+1) f e1 (by omega) (by omega) (by omega)
  refine ⟨es',?_,r2⟩
  rw [<- r1]
  show q39q_l0_r _ _ _=_
  unfold q39q_l0_r
  simp only [hlt,if_true,small_wrap (show x<=100000 by omega),q1,Option.bind_some]
theorem whole_ok (n:Nat) (hn:n<=8):Ok (pickF F_q39q P_path ((n:Int),())) (P_path ((n:Int),())):=by
 refine Ok.pick 20 ?_
 obtain ⟨es,e1,e2⟩:=wh_l0 20 (by omega) n hn (0,[],()) (n:Int) n 0 20 [] (by omega) (by omega) (by simp)
 refine ⟨(((n:Int),es,()),()),?_,e2⟩
 unfold F_q39q
 simp only [Int.natCast_zero] at e1
 simp only [e1,Option.bind_some]
end Go.V.W
namespace Go.V.W
open Go.Proofs
theorem marred_ok {c:Cur} {n:Int} {es:List E} {v u:Unit} (h:CurB c) (hf:c.2.1+20<=far_) (hl:es.length<=150):Ok (F_q25q 0 (c,(n,es,v),u)) fun r=>r.1.2.1.length<=es.length+1/\Adv 10 c r.2.1:=by
 unfold F_q25q
 simp only
 have hle:∀e:E,decide (es.length+List.length [e]<=lim)=true:=fun e=>by unfold lim;simp;omega
 refine Ok.bind (pick_ok h (by omega)) fun r hr => ?_
 obtain ⟨r1,r2,r3⟩:=hr
 have q3:=r3.2
 refine Ok.ite (fun _ => ?_) fun _=>Ok.ite (fun _ => ?_) fun _=>Ok.ite (fun _ => ?_) fun _ => ?_
 ·refine Ok.bind (among_ok r3.1 (by omega) (by simp)) fun s hs=>Ok.some ⟨by simp,(r3.trans hs.2).le (by omega)⟩
 ·refine Ok.bind (pick_ok r3.1 (by omega)) fun s hs => ?_
  have s3:=hs.2.2.2
  refine Ok.bind (pick_ok hs.2.2.1 (by omega)) fun t ht => ?_
  refine Ok.pos (hle _) (Ok.some ⟨by simp,((r3.trans hs.2.2).trans ht.2.2).le (by omega)⟩)
 ·refine Ok.ite (fun hp => ?_) fun _=>Ok.some ⟨by simp,r3.le (by omega)⟩
  have hp:=of_decide_eq_true hp
  refine Ok.bind (pick_ok r3.1 (by omega)) fun s hs => ?_
  obtain ⟨s1,s2,s3⟩:=hs
  refine Ok.pos (by unfold idxIn;simp;omega) (Ok.pos (hle _) (Ok.some ⟨by simp,(r3.trans s3).le (by omega)⟩))
 ·exact Ok.some ⟨by simp,r3.le (by omega)⟩
end Go.V.W
namespace Go.V.W
open Go.Proofs
theorem insE_lenU (e:E):∀l:List E,(insE e l).length=l.length+1:=by
 intro l
 induction l with
 | nil=>rfl
 | cons a l ih=>unfold insE;split<;>simp [ih]
theorem put_ok {es:List E} {e:E} {u:Unit} (h:es.length<=1000):Ok (G_l2Put (es,e,u)) fun r=>r.1.length=es.length+1:=by
 unfold G_l2Put
 rw [if_pos (decide_eq_true h)]
 exact Ok.some (insE_lenU _ _)
theorem near_ok {g:Gr} {x y:Int} {u:Unit} (h:g.2.1.length<=1000):Ok (G_l2Near (g,x,y,u)) fun _=>True:=by
 unfold G_l2Near
 rw [if_pos (show okL g.2.1=true from decide_eq_true (by unfold lim;omega))]
 exact Ok.some trivial
theorem cycle_ok (n:Nat) (hn:n<=8):Ok (F_q60q 0 ((n:Int),())) fun r=>r.1.2.1.length<=101:=by
 unfold F_q60q
 simp only
 refine Ok.bind (path_ok n hn) fun r hr => ?_
 have hr:r.1.2.1.length<=100:=hr
 refine Ok.bind (put_ok (by omega)) fun q hq=>Ok.some ?_
 simp only
 omega
theorem sg_l3 (N:Nat) (n:Nat) (hn:n<=8) (z:Gr) (a w:Int) (b:Bool) (x:Int):∀k y f (c:Cur) (es:List E),y+k=n->k<f->CurB c->c.2.1+2*(k:Int)<=far_->es.length+k<=1000 ->
  Ok (q13q_l3 N f (c,z,(n:Int),(a,es,()),w,b,x,(y:Int),())) fun o => ∃c' es',o=.inl (c',z,(n:Int),(a,es',()),w,b,x,())/\Adv (2*(k:Int)) c c'/\es'.length<=es.length+k:=by
 intro k
 induction k with
 | zero=>
  intro y f c es h1 h2 h3 h4 h5
  obtain ⟨f,rfl⟩:∃m,f=m+1:=⟨f-1,by omega⟩
  have hlt:decide ((y:Int)<(n:Int))=false:=decide_eq_false (by omega)
  show Ok (q13q_l3_r _ _ _) _
  unfold q13q_l3_r
  simp only [hlt,Bool.false_eq_true,if_false]
  exact Ok.some ⟨c,es,rfl,⟨h3,by omega⟩,by omega⟩
 | succ k ih=>
  intro y f c es h1 h2 h3 h4 h5
  obtain ⟨f,rfl⟩:∃m,f=m+1:=⟨f-1,by omega⟩
  have hlt:decide ((y:Int)<(n:Int))=true:=decide_eq_true (by omega)
  show Ok (q13q_l3_r _ _ _) _
  unfold q13q_l3_r
  simp only [hlt,if_true,small_wrap (show y<=100000 by omega)]
  refine Ok.bind (pick_ok h3 (by omega)) fun r hr => ?_
  have r3:=hr.2.2.2
  refine Ok.ite (fun _ => ?_) (fun _ => ?_)
  ·refine Ok.bind (put_ok (by omega)) fun q hq => ?_
   refine (ih (y+1) f r.2.1 q.1 (by omega) (by omega) hr.2.2.1 (by omega) (by omega)).mono fun o ho => ?_
   obtain ⟨c',es',e1,e2,e3⟩:=ho
   exact ⟨c',es',e1,(hr.2.2.trans e2).le (by omega),by omega⟩
  ·refine (ih (y+1) f r.2.1 es (by omega) (by omega) hr.2.2.1 (by omega) (by omega)).mono fun o ho => ?_
   obtain ⟨c',es',e1,e2,e3⟩:=ho
   exact ⟨c',es',e1,(hr.2.2.trans e2).le (by omega),by omega⟩
theorem sg_l1 (N:Nat) (hN:20<=N) (n:Nat) (hn:n<=8) (z:Gr) (a w:Int) (b:Bool):∀k x f (c:Cur) (es:List E),x+k=n->k<f->CurB c->c.2.1+20*(k:Int)<=far_->es.length<=10*x ->
  Ok (q13q_l1 N f (c,z,(n:Int),(a,es,()),w,b,(x:Int),())) fun o => ∃c' es',o=.inl (c',z,(a,es',()),())/\Adv (20*(k:Int)) c c'/\es'.length<=10*n:=by
 intro k
 induction k with
 | zero=>
  intro x f c es h1 h2 h3 h4 h5
  obtain ⟨f,rfl⟩:∃m,f=m+1:=⟨f-1,by omega⟩
  have hlt:decide ((x:Int)<(n:Int))=false:=decide_eq_false (by omega)
  show Ok (q13q_l1_r _ _ _) _
  unfold q13q_l1_r
  simp only [hlt,Bool.false_eq_true,if_false]
  exact Ok.some ⟨c,es,rfl,⟨h3,by omega⟩,by omega⟩
 | succ k ih=>
  intro x f c es h1 h2 h3 h4 h5
  obtain ⟨f,rfl⟩:∃m,f=m+1:=⟨f-1,by omega⟩
  have hlt:decide ((x:Int)<(n:Int))=true:=decide_eq_true (by omega)
  show Ok (q13q_l1_r _ _ _) _
  unfold q13q_l1_r
  simp only [hlt,if_true,small_wrap (show x<=100000 by omega)]
  refine Ok.bind (sg_l3 N n hn z a w b (x:Int) (n-(x+1)) (x+1) N c es (by omega) (by omega) h3 (by omega) (by omega)) fun o ho => ?_
  obtain ⟨c1,e1,rfl,a1,l1⟩:=ho
  have b1:=a1.2
  simp only [small_wrap (show x<=100000 by omega)]
  refine Ok.bind (pick_ok a1.1 (by omega)) fun r hr => ?_
  have r3:=hr.2.2.2
  have more:∀es2:List E,es2.length<=10*(x+1)->Ok (q13q_l1 N f (r.2.1,z,(n:Int),(a,es2,()),w,b,((x+1:Nat):Int),())) fun o => ∃c' es',o=.inl (c',z,(a,es',()),())/\Adv (20*((k+1:Nat):Int)) c c'/\es'.length<=10*n:=fun es2 h=>by
   refine (ih (x+1) f r.2.1 es2 (by omega) (by omega) hr.2.2.1 (by omega) (by omega)).mono fun o ho => ?_
   obtain ⟨c',es',e1,e2,e3⟩:=ho
   exact ⟨c',es',e1,((a1.trans hr.2.2).trans e2).le (by omega),by omega⟩
  refine Ok.ite (fun _=>Ok.ite (fun _ => ?_) fun _=>more _ (by omega)) fun _=>more _ (by omega)
  refine Ok.bind (near_ok (by simp only;omega)) fun _ _=>Ok.ite (fun _ => ?_) fun _=>more _ (by omega)
  refine Ok.bind (put_ok (by omega)) fun q hq=>more _ (by omega)
noncomputable def sgTail (N:Nat) (c:Cur) (n:Int):Option (Gr×Cur×Unit):=
  ((F_q37q 0) ((c,((8:Int),())))).bind fun r49=>
  if (r49.1==(0:Int))=true then
   ((pickF F_q74q P_path) (n,())).bind fun r50=>
   ((F_q25q 0) ((r49.2.1,(r50.1,())))).bind fun r51=>
   some ((r51.1,(r51.2.1,())))
  else
   if (r49.1==(1:Int))=true then
    if (decide (n>(2:Int)))=true then
     ((F_q60q 0) (n,())).bind fun r52=>
     ((F_q25q 0) ((r49.2.1,(r52.1,())))).bind fun r53=>
     some ((r53.1,(r53.2.1,())))
    else
     ((F_q25q 0) ((r49.2.1,((n,(([]:List (Int×Int×Unit)),())),())))).bind fun r54=>
     some ((r54.1,(r54.2.1,())))
   else
    if (r49.1==(2:Int))=true then
     ((pickF F_q39q P_path) (n,())).bind fun r55=>
     ((F_q25q 0) ((r49.2.1,(r55.1,())))).bind fun r56=>
     some ((r56.1,(r56.2.1,())))
    else
     ((F_q30q 0) ((r49.2.1,([(3:Int),(4:Int),(6:Int)],())))).bind fun r57=>
     ((F_q43q 0) ((r57.2.1,((6:Int),())))).bind fun r58=>
     (q13q_l1 N N ((r58.2.1,(((0:Int),(([]:List (Int×Int×Unit)),())),(n,((n,(([]:List (Int×Int×Unit)),())),(r57.1,(r58.1,((0:Int),()))))))))).bind fun o59=>match o59 with
     | .inl d60=>
      ((F_q25q 0) ((d60.1,(d60.2.2.1,())))).bind fun r61=>
      some ((r61.1,(r61.2.1,())))
theorem sgTail_ok {c:Cur} {n:Int} {m:Nat} (hm:m<=8) (he:n=m) (h:CurB c) (hf:c.2.1+250<=far_):Ok (sgTail 20 c n) fun r=>Adv 200 c r.2.1/\r.1.2.1.length<=200:=by
 subst he
 have mar:∀(c1:Cur) (g:Gr),Adv 180 c c1->g.2.1.length<=150->Ok ((F_q25q 0 (c1,g,())).bind fun r=>some (r.1,r.2.1,())) fun r=>Adv 200 c r.2.1/\r.1.2.1.length<=200:=by
  intro c1 g h1 h2
  have:=h1.2
  obtain ⟨n,es,u⟩:=g
  refine Ok.bind (marred_ok h1.1 (by omega) h2) fun r hr=>Ok.some ⟨(h1.trans hr.2).le (by omega),?_⟩
  have:=hr.1
  simp only at h2 |-
  omega
 unfold sgTail
 refine Ok.bind (pick_ok h (by omega)) fun r hr => ?_
 have a1:=hr.2.2
 have b1:=a1.2
 refine Ok.ite (fun _ => ?_) fun _=>Ok.ite (fun _=>Ok.ite (fun _ => ?_) fun _=>mar _ _ (a1.le (by omega)) (by simp)) fun _=>Ok.ite (fun _ => ?_) fun _ => ?_
 ·refine Ok.bind (path_ok m hm) fun q hq=>mar _ _ (a1.le (by omega)) ?_
  have:q.1.2.1.length<=100:=hq
  omega
 ·refine Ok.bind (cycle_ok m hm) fun q hq=>mar _ _ (a1.le (by omega)) (by omega)
 ·refine Ok.bind (whole_ok m hm) fun q hq=>mar _ _ (a1.le (by omega)) ?_
  have:q.1.2.1.length<=100:=hq
  omega
 ·refine Ok.bind (among_ok a1.1 (by omega) (by simp)) fun q hq => ?_
  have a2:=a1.trans hq.2
  have b2:=a2.2
  refine Ok.bind (one_ok a2.1 (by omega)) fun s hs => ?_
  have a3:=a2.trans hs
  have b3:=a3.2
  have hl:=sg_l1 20 (by omega) m hm (0,[],()) (m:Int) q.1 s.1 m 0 20 s.2.1 [] (by omega) (by omega) a3.1 (by omega) (by simp)
  simp only [Int.natCast_zero] at hl
  refine Ok.bind hl fun o ho => ?_
  obtain ⟨c',es',rfl,e2,e3⟩:=ho
  exact mar _ _ ((a3.trans e2).le (by omega)) (by simp only;omega)
theorem least_in {x y:Int} {u:Unit} (h:0<=x) (h2:0<=y) (h3:y<=8):∃m:Nat,m<=8/\(g_q57q (x,y,u)).1=(m:Int):=by
 unfold g_q57q
 simp only
 split
 ·rename_i hh
  have:=of_decide_eq_true hh
  exact ⟨x.toNat,by omega,by simp only;omega⟩
 ·exact ⟨y.toNat,by omega,by simp only;omega⟩
theorem someGraph_ok {c:Cur} {a:Int} (h:CurB c) (hf:c.2.1+300<=far_) (h0:0<=a) (h8:a<=8):Ok (pickF F_q13q P_someG (c,a,())) (P_someG (c,a,())):=by
 refine Ok.pick 20 ?_
 have fin:∀(c1:Cur) (n:Int) (m:Nat),m<=8->n=m->Adv 50 c c1->Ok (sgTail 20 c1 n) (P_someG (c,a,())):=fun c1 n m hm he h1=>by
  have:=h1.2
  exact (sgTail_ok hm he h1.1 (by omega)).mono fun r hr=>⟨(h1.trans hr.1).le (by omega),hr.2⟩
 unfold F_q13q
 simp only
 refine Ok.bind (among_ok h (by omega) (by simp)) fun r hr => ?_
 have r0:0<=r.1:=by
  have:=hr.1
  simp at this
  omega
 have a1:=hr.2
 have b1:=a1.2
 refine Ok.ite (fun _ => ?_) fun _ => ?_
 ·refine Ok.bind (one_ok a1.1 (by omega)) fun s hs => ?_
  have a2:=a1.trans hs
  have b2:=a2.2
  refine Ok.ite (fun _ => ?_) fun _ => ?_
  ·refine Ok.bind (pick_ok a2.1 (by omega)) fun t ht => ?_
   have a3:=a2.trans ht.2.2
   have w:IntKind.wrap .i64 ((7:Int)+t.1)=7+t.1:=wrap_in _ (by have:=ht.1;omega) (by have:=ht.2.1;omega)
   obtain ⟨m,hm,em⟩:=least_in (x:=IntKind.wrap .i64 ((7:Int)+t.1)) (u:=()) (by rw [w];have:=ht.1;omega) h0 h8
   exact fin _ _ m hm em (a3.le (by omega))
  ·obtain ⟨m,hm,em⟩:=least_in (u:=()) r0 h0 h8
   exact fin _ _ m hm em (a2.le (by omega))
 ·obtain ⟨m,hm,em⟩:=least_in (u:=()) r0 h0 h8
  exact fin _ _ m hm em (a1.le (by omega))
end Go.V.W
namespace Go.V.W
open Go.Proofs
theorem law54:∀d,WfD (Kd.tuple ([(K_Su8,false)].map (·.1))) d -> ∃out,G_law d=some out/\(splitT [.bool] [] out).1.1=true:=by
 rintro ⟨code,_⟩ ⟨⟨hl,hc⟩,_⟩
 refine ⟨(true,()),?_,rfl⟩
 unfold G_law
 rw [if_pos]
 simp only [Bool.and_eq_true,List.all_eq_true,decide_eq_true_eq]
 refine ⟨fun x hx => ?_,hl⟩
 have:=hc x hx
 simp [WfD,Lit.wf,IntKind.min,IntKind.max,IntKind.signed,IntKind.bits] at this
 unfold inB
 simp
 omega
end Go.V.W
namespace Go.V.W
open Go.Proofs
structure Sts (m cfn:Nat) (st:List St):Prop where
 at_:∀j (h:j<st.length),(∃c:Nat,st[j].1=(c:Int)/\c<cfn)/\(∃p:Nat->Bool,st[j].2.1=setF p m 0) /\ -1<=st[j].2.2.1/\st[j].2.2.1<(j:Int)
theorem Sts.push {m cfn:Nat} {st:List St} (h:Sts m cfn st) {c:Nat} (hc:c<cfn) (p:Nat->Bool) {b:Int} (h1 : -1<=b) (h2:b<(st.length:Int)):Sts m cfn (st++[((c:Int),setF p m 0,b,())]):=by
 refine ⟨fun j hj => ?_⟩
 by_cases hl:j<st.length
 ·rw [List.getElem_append_left hl]
  exact h.at_ j hl
 ·have e:j=st.length:=by simp at hj;omega
  subst e
  rw [List.getElem_append_right (by omega)]
  simp only [Nat.sub_self,List.getElem_cons_zero]
  exact ⟨⟨c,rfl,hc⟩,⟨p,rfl⟩,h1,h2⟩
def cntT (l:List Bool):Nat:=l.foldr (fun b s=>(if b=true then 1 else 0)+s) 0
structure ShI (m cfn:Nat) (st:List St) (sn:List Bool):Prop where
 sts:Sts m cfn st
 len:sn.length=cfn*2 ^ m
 cnt:st.length<=cfn+cntT sn
end Go.V.W
namespace Go.V.W
open Go.Proofs
def GWalk (g:Gr) (w:List (List Int)):Prop:=g.2.1.length<=200/\w.length<=60 /\ ∀l∈w,l.length<=10
theorem GWalk.ok {g:Gr} {w:List (List Int)} (h:GWalk g w):okL g.2.1=true/\okLL w=true:=⟨okL_of (by have:=h.1;omega),okLL_small (by have:=h.2.1;omega) (List.all_eq_true.2 fun l hl=>decide_eq_true (by have:=h.2.2 l hl;omega))⟩
end Go.V.W
namespace Go.V.W
open Go.Proofs
inductive WinS (B:Nat->Nat->Prop) (S:Nat->Prop):Nat->Nat->Prop
 | home {c:Nat}:S c->WinS B S c c
 | take {c r:Nat}:S c->S r->B c r->WinS B S c r
 | go {c r b:Nat}:S c->S r->S b->B c b->(∀q,S q->B r q->WinS B S b q)->WinS B S c r
def CopWin (B:Nat->Nat->Prop) (S:Nat->Prop):Prop := ∃c,S c /\ ∀r,S r->WinS B S c r
def CovS (B:Nat->Nat->Prop) (S:Nat->Prop) (x y:Nat):Prop:=x≠y/\S x/\S y /\ ∀z,S z->B x z->B y z
def outS (S:Nat->Prop) (x:Nat):Nat->Prop:=fun z=>S z/\z≠x
section
variable {B:Nat->Nat->Prop} {S:Nat->Prop} (hr:∀x,B x x) (hs:∀x y,B x y->B y x)
include hr hs in
theorem win_up {x y:Nat} (h:CovS B S x y) (hw:CopWin B (outS S x)):CopWin B S:=by
 obtain ⟨hne,hx,hy,hc⟩:=h
 have key:∀{c r':Nat},WinS B (outS S x) c r' -> ∀r,S r->(r=x/\r'=y\/r≠x/\r'=r)->WinS B S c r:=by
  intro c r' hW
  induction hW with
  | home h=>
   rename_i c
   rintro r h2 (⟨rfl,rfl⟩ | ⟨h3,rfl⟩)
   ·exact .take hy hx (hc r hx (hr r))
   ·exact .home h2
  | take h1 h2 h3=>
   rename_i c r'
   rintro r h4 (⟨rfl,rfl⟩ | ⟨h5,rfl⟩)
   ·exact .go h1.1 h4 hy h3 fun q q1 q2=>.take hy q1 (hc q q1 q2)
   ·exact .take h1.1 h4 h3
  | go h1 h2 h3 h4 h5 ih=>
   rename_i c r' b
   rintro r h6 (⟨rfl,rfl⟩ | ⟨h7,rfl⟩)
   ·refine .go h1.1 h6 h3.1 h4 fun q q1 q2 => ?_
    by_cases hq:q=r
    ·exact ih r' ⟨hy,fun e=>hne e.symm⟩ (hr _) q q1 (.inl ⟨hq,rfl⟩)
    ·exact ih q ⟨q1,hq⟩ (hc q q1 q2) q q1 (.inr ⟨hq,rfl⟩)
   ·refine .go h1.1 h6 h3.1 h4 fun q q1 q2 => ?_
    by_cases hq:q=x
    ·subst hq
     exact ih y ⟨hy,fun e=>hne e.symm⟩ (hs _ _ (hc _ h6 (hs _ _ q2))) q q1 (.inl ⟨rfl,rfl⟩)
    ·exact ih q ⟨q1,hq⟩ q2 q q1 (.inr ⟨hq,rfl⟩)
 obtain ⟨c,hc1,hc2⟩:=hw
 refine ⟨c,hc1.1,fun r h => ?_⟩
 by_cases e:r=x
 ·exact key (hc2 y ⟨hy,fun e=>hne e.symm⟩) r h (.inl ⟨e,rfl⟩)
 ·exact key (hc2 r ⟨h,e⟩) r h (.inr ⟨e,rfl⟩)
include hr hs in
theorem win_down {x y:Nat} (h:CovS B S x y) (hw:CopWin B S):CopWin B (outS S x):=by
 obtain ⟨hne,hx,hy,hc⟩:=h
 have hy':outS S x y:=⟨hy,fun e=>hne e.symm⟩
 have key:∀{c r:Nat},WinS B S c r->outS S x r -> ∀c',(c=x/\c'=y\/c≠x/\c'=c)->WinS B (outS S x) c' r:=by
  intro c r hW
  induction hW with
  | home h=>
   rename_i c
   rintro h2 c' (⟨rfl,rfl⟩ | ⟨h3,rfl⟩)
   ·exact absurd rfl h2.2
   ·exact .home h2
  | take h1 h2 h3=>
   rename_i c r
   rintro h4 c' (⟨rfl,rfl⟩ | ⟨h5,rfl⟩)
   ·exact .take hy' h4 (hc _ h2 h3)
   ·exact .take ⟨h1,h5⟩ h4 h3
  | go h1 h2 h3 h4 h5 ih=>
   rename_i c r b
   rintro h6 c' h7
   have hc':outS S x c':=by
    rcases h7 with ⟨_,rfl⟩ | ⟨h8,rfl⟩
    ·exact hy'
    ·exact ⟨h1,h8⟩
   by_cases hb:b=x
   ·subst hb
    refine .go (b:=y) hc' h6 hy' ?_ fun q q1 q2=>ih q q1.1 q2 q1 y (.inl ⟨rfl,rfl⟩)
    rcases h7 with ⟨rfl,rfl⟩ | ⟨h8,rfl⟩
    ·exact hr _
    ·exact hs _ _ (hc _ h1 (hs _ _ h4))
   ·refine .go (b:=b) hc' h6 ⟨h3,hb⟩ ?_ fun q q1 q2=>ih q q1.1 q2 q1 b (.inr ⟨hb,rfl⟩)
    rcases h7 with ⟨rfl,rfl⟩ | ⟨h8,rfl⟩
    ·exact hc _ h3 h4
    ·exact h4
 obtain ⟨c,hc1,hc2⟩:=hw
 by_cases e:c=x
 ·exact ⟨y,hy',fun r h=>key (hc2 r h.1) h y (.inl ⟨e,rfl⟩)⟩
 ·exact ⟨c,⟨hc1,e⟩,fun r h=>key (hc2 r h.1) h c (.inr ⟨e,rfl⟩)⟩
include hr in
theorem win_not (hno:∀x y,¬CovS B S x y) {a b:Nat} (ha:S a) (hb:S b) (hab:a≠b):¬CopWin B S:=by
 rintro ⟨c,hc1,hc2⟩
 have key:∀{c r:Nat},WinS B S c r->B c r:=by
  intro c r hW
  induction hW with
  | home h=>exact hr _
  | take h1 h2 h3=>exact h3
  | go h1 h2 h3 h4 h5 ih=>
   rename_i c r b
   by_cases e:b=r
   ·subst e;exact h4
   ·exact absurd ⟨fun e'=>e e'.symm,h2,h3,ih⟩ (hno r b)
 obtain ⟨d,hd,hdc⟩:∃d,S d/\d≠c:=by
  by_cases e:a=c
  ·exact ⟨b,hb,fun e'=>hab (e.trans e'.symm)⟩
  ·exact ⟨a,ha,e⟩
 exact hno d c ⟨hdc,hd,hc1,fun z hz _=>key (hc2 z hz)⟩
end
theorem win_one {B:Nat->Nat->Prop} {S:Nat->Prop} {a:Nat} (ha:S a) (h:∀b,S b->b=a):CopWin B S:=
 ⟨a,ha,fun r hr=>by rw [h r hr];exact .home ha⟩
theorem CopWin.congr {B:Nat->Nat->Prop} {S S':Nat->Prop} (h:∀x,S x↔S' x) (hw:CopWin B S):CopWin B S':=by
 have:S=S':=funext fun x=>propext (h x)
 rwa [<- this]
end Go.V.W
namespace Go.V.W
open Go.Proofs
theorem timesF_end {n:Nat} {ball:Int->List Int}:∀(k:Nat) (t:Int) (f:Nat->Nat->Int),negs n f<k->0<=t->anyF n (canF n ball (timesF n ball k t f))=false:=by
 intro k
 induction k with
 | zero=>intro t f h;omega
 | succ k ih=>
  intro t f h ht
  simp only [timesF]
  by_cases hc:anyF n (canF n ball f)=true
  ·rw [if_pos hc]
   have:=negs_step ht hc
   exact ih _ _ (by omega) (by omega)
  ·rw [if_neg hc]
   simpa using hc
theorem times_end {n:Nat} (hn:n<=8) {ball:Int->List Int} {c r:Nat} (hc:c<n) (hr:r<n) (h:tab2 (timesT n ball) (c:Int) (r:Int)<0):∀b∈ball (c:Int),¬0<=afterT ball (timesT n ball) b (r:Int):=by
 intro b hb h0
 have h1:=negs_le n startF
 have h2:n*n<=64:=by
  have:=Nat.mul_le_mul hn hn
  omega
 have he:=timesF_end (n:=n) (ball:=ball) 65 1 startF (by omega) (by omega)
 have:anyF n (canF n ball (timesF n ball 65 1 startF))=true:=anyF_spec.2 ⟨c,r,hc,hr,by
  unfold canF
  unfold timesT at h
  rw [tab2_tabL _ hc hr] at h
  rw [decide_eq_true h,Bool.true_and]
  exact List.any_eq_true.2 ⟨b,hb,decide_eq_true h0⟩⟩
 rw [he] at this
 cases this
def ballP (es:List E) (x z:Nat):Bool:=nearI es (x:Int) (z:Int)||decide (z=x)
def BN (es:List E) (x z:Nat):Prop:=ballP es x z=true
theorem BN_refl (es:List E) (x:Nat):BN es x x:=by unfold BN ballP;simp
theorem BN_symm (es:List E) (x y:Nat) (h:BN es x y):BN es y x:=by
 unfold BN ballP at h |-
 rw [near_symm]
 rw [Bool.or_eq_true,decide_eq_true_eq] at h |-
 exact h.imp id fun e=>e.symm
theorem ball_iff {n:Nat} {es:List E} {x z:Nat} (hz:z<n):(z:Int)∈ballF n es (x:Int)↔BN es x z:=by
 unfold ballF BN ballP
 rw [setF_mem]
 constructor
 ·rintro ⟨y,_,_,h,e⟩
  have:y=z:=by omega
  subst this
  rw [Bool.or_eq_true,decide_eq_true_eq] at h |-
  exact h.imp id fun e=>by omega
 ·intro h
  refine ⟨z,by omega,by omega,?_,rfl⟩
  rw [Bool.or_eq_true,decide_eq_true_eq] at h |-
  exact h.imp id fun e=>by omega
theorem win_times {n:Nat} (hn:n<=8) {es:List E} {c r:Nat} (h:WinS (BN es) (fun x=>x<n) c r):0<=tab2 (timesT n (ballF n es)) (c:Int) (r:Int):=by
 induction h with
 | home h=>rw [(times_zero h h).2 rfl];exact Int.le_refl _
 | take h1 h2 h3=>
  rename_i c r
  apply Classical.byContradiction
  intro h
  refine times_end hn h1 h2 (by omega) _ ((ball_iff h2).2 h3) ?_
  unfold afterT
  rw [if_pos rfl]
  exact Int.le_refl _
 | go h1 h2 h3 h4 h5 ih=>
  rename_i c r b
  apply Classical.byContradiction
  intro h
  refine times_end hn h1 h2 (by omega) _ ((ball_iff h3).2 h4) ?_
  unfold afterT
  split
  ·exact Int.le_refl _
  ·rcases worst_spec (tab2 (timesT n (ballF n es)) (b:Int)) (ballF n es (r:Int)) 0 with ⟨⟨z,hz,hneg⟩,_⟩ | ⟨_,h0,_⟩
   ·obtain ⟨q,hq,rfl⟩:=ballF_ok n es r h2 z hz
    have:=ih q hq ((ball_iff hq).1 hz)
    omega
   ·exact h0
theorem times_win {n:Nat} {es:List E}:∀(k c r:Nat),c<n->r<n->0<=tab2 (timesT n (ballF n es)) (c:Int) (r:Int)->tab2 (timesT n (ballF n es)) (c:Int) (r:Int)<(k:Int)->WinS (BN es) (fun x=>x<n) c r:=by
 intro k
 induction k with
 | zero=>intro c r _ _ h1 h2;omega
 | succ k ih=>
  intro c r hc hr h1 h2
  by_cases e:c=r
  ·subst e;exact .home hc
  ·obtain ⟨b,q,hb,hq,k1,k2,k3,k4,k5,k6,k7⟩:=chase_one (es:=es) hc hr e h1
   by_cases hbr:b=r
   ·subst hbr
    exact .take hc hr ((ball_iff hb).1 k5)
   ·refine .go hc hr hb ((ball_iff hb).1 k5) fun z hz hBz => ?_
    obtain ⟨m1,m2⟩:=k7 hbr z ((ball_iff hz).2 hBz)
    exact ih b z hb hz m1 (by omega)
theorem cop_wins {n:Nat} (hn:n<=8) (es:List E):(∃c,c<n /\ ∀r,r<n->0<=tab2 (timesT n (ballF n es)) (c:Int) (r:Int))↔CopWin (BN es) (fun x=>x<n):=by
 constructor
 ·rintro ⟨c,hc,h⟩
  exact ⟨c,hc,fun r hr=>times_win _ c r hc hr (h r hr) (show _<(((tab2 (timesT n (ballF n es)) (c:Int) (r:Int)).toNat+1:Nat):Int) by omega)⟩
 ·rintro ⟨c,hc,h⟩
  exact ⟨c,hc,fun r hr=>win_times hn (h r hr)⟩
def covP (n:Nat) (es:List E) (p:Nat->Bool) (x y:Nat):Bool := !decide (x=y)&&p y&&(List.range n).all fun z => !(p z&&ballP es x z)||ballP es y z
def corP (n:Nat) (es:List E) (p:Nat->Bool) (x:Nat):Bool:=p x&&(List.range n).any (covP n es p x)
def outP (p:Nat->Bool) (x:Nat):Nat->Bool:=fun z=>p z && !decide (z=x)
def SP (n:Nat) (p:Nat->Bool):Nat->Prop:=fun x=>x<n/\p x=true
def onesP (n:Nat) (p:Nat->Bool):Nat:=(List.range n).countP p
def strip (n:Nat) (es:List E):Nat->(Nat->Bool)->List (Nat×Nat)×(Nat->Bool)
 | 0,p=>([],p)
 | k+1,p=>if (List.range n).any (corP n es p)=true then
   (let x:=firstF (corP n es p) n 0
    let o:=strip n es k (outP p x)
    ((x,firstF (covP n es p x) n 0)::o.1,o.2))
  else ([],p)
theorem cov_iff {n:Nat} {es:List E} {p:Nat->Bool} {x y:Nat} (hx:SP n p x) (hy:y<n):covP n es p x y=true↔CovS (BN es) (SP n p) x y:=by
 unfold covP CovS
 simp only [Bool.and_eq_true,Bool.not_eq_true',decide_eq_false_iff_not,List.all_eq_true,List.mem_range,Bool.or_eq_true]
 constructor
 ·rintro ⟨⟨h1,h2⟩,h3⟩
  refine ⟨h1,hx,⟨hy,h2⟩,fun z hz hB => ?_⟩
  rcases h3 z hz.1 with h | h
  ·have hB:ballP es x z=true:=hB
   rw [hz.2,hB] at h
   cases h
  ·exact h
 ·rintro ⟨h1,_,h2,h3⟩
  refine ⟨⟨h1,h2.2⟩,fun z hz => ?_⟩
  cases hc:p z&&ballP es x z with
  | false=>exact .inl rfl
  | true=>
   rw [Bool.and_eq_true] at hc
   exact .inr (h3 z ⟨hz,hc.1⟩ hc.2)
theorem cor_iff {n:Nat} {es:List E} {p:Nat->Bool} {x:Nat} (hx:x<n):corP n es p x=true ↔ ∃y,CovS (BN es) (SP n p) x y:=by
 unfold corP
 rw [Bool.and_eq_true,List.any_eq_true]
 constructor
 ·rintro ⟨h1,y,hy,h2⟩
  exact ⟨y,(cov_iff ⟨hx,h1⟩ (List.mem_range.1 hy)).1 h2⟩
 ·rintro ⟨y,h⟩
  exact ⟨h.2.1.2,y,List.mem_range.2 h.2.2.1.1,(cov_iff h.2.1 h.2.2.1.1).2 h⟩
theorem out_SP {n:Nat} {p:Nat->Bool} {x z:Nat}:SP n (outP p x) z↔outS (SP n p) x z:=by
 show (z<n/\(p z && !decide (z=x))=true)↔(z<n/\p z=true)/\z≠x
 rw [Bool.and_eq_true,Bool.not_eq_true',decide_eq_false_iff_not]
 constructor
 ·rintro ⟨h1,h2,h3⟩;exact ⟨⟨h1,h2⟩,h3⟩
 ·rintro ⟨⟨h1,h2⟩,h3⟩;exact ⟨h1,h2,h3⟩
theorem win_out {n:Nat} {es:List E} {p:Nat->Bool} {x:Nat} (hx:x<n) (h:corP n es p x=true):CopWin (BN es) (SP n p)↔CopWin (BN es) (SP n (outP p x)):=by
 obtain ⟨y,hy⟩:=(cor_iff hx).1 h
 constructor
 ·intro hw
  exact (win_down (BN_refl es) (BN_symm es) hy hw).congr fun z=>out_SP.symm
 ·intro hw
  exact win_up (BN_refl es) (BN_symm es) hy (hw.congr fun z=>out_SP)
theorem ones_out {n:Nat} {p:Nat->Bool} {x:Nat} (hx:SP n p x):onesP n p=onesP n (outP p x)+1:=by
 unfold onesP
 have key:∀(l:List Nat),l.Nodup->x∈l->l.countP p=l.countP (outP p x)+1:=by
  intro l
  induction l with
  | nil=>intro _ h;simp at h
  | cons a l ih=>
   intro hnd hm
   rw [List.nodup_cons] at hnd
   rcases List.mem_cons.1 hm with rfl | hm
   ·have e1:p x=true:=hx.2
    have e2:outP p x x=false:=by unfold outP;simp
    have e3:l.countP p=l.countP (outP p x):=List.countP_congr fun z hz=>by
     have:z≠x:=fun e=>hnd.1 (e▸hz)
     unfold outP
     simp [this]
    rw [List.countP_cons,List.countP_cons,e1,e2,e3]
    simp
   ·have hne:a≠x:=fun e=>hnd.1 (e▸hm)
    have e1:outP p x a=p a:=by unfold outP;simp [hne]
    rw [List.countP_cons,List.countP_cons,e1,ih hnd.2 hm]
    omega
 exact key _ List.nodup_range (List.mem_range.2 hx.1)
theorem firstF_any {n:Nat} {q:Nat->Bool} (h:(List.range n).any q=true):firstF q n 0<n/\q (firstF q n 0)=true:=by
 obtain ⟨x,hx,hq⟩:=List.any_eq_true.1 h
 obtain ⟨_,h1,h2⟩:=firstF_spec (p:=q) (k:=n) (x:=0) ⟨x,Nat.zero_le _,by have:=List.mem_range.1 hx;omega,hq⟩
 exact ⟨by omega,h2⟩
theorem strip_spec {n:Nat} {es:List E}:∀(k:Nat) (p:Nat->Bool),onesP n p<k->(CopWin (BN es) (SP n p)↔CopWin (BN es) (SP n (strip n es k p).2))/\(∀x,x<n->corP n es (strip n es k p).2 x=false)/\(0<onesP n p->0<onesP n (strip n es k p).2) /\
  onesP n p=(strip n es k p).1.length+onesP n (strip n es k p).2 /\ ∀x,(strip n es k p).2 x=true->p x=true:=by
 intro k
 induction k with
 | zero=>intro p h;omega
 | succ k ih=>
  intro p h
  simp only [strip]
  by_cases hc:(List.range n).any (corP n es p)=true
  ·rw [if_pos hc]
   obtain ⟨h1,h2⟩:=firstF_any hc
   generalize firstF (corP n es p) n 0=x at h1 h2
   have hx:SP n p x:=⟨h1,by unfold corP at h2;rw [Bool.and_eq_true] at h2;exact h2.1⟩
   have ho:=ones_out hx
   obtain ⟨i1,i2,i3,i4,i5⟩:=ih (outP p x) (by omega)
   refine ⟨(win_out h1 h2).trans i1,i2,fun _=>i3 ?_,by simp only [List.length_cons];omega,fun z hz => ?_⟩
   ·obtain ⟨y,hy⟩:=(cor_iff h1).1 h2
    unfold onesP
    rw [List.countP_pos_iff]
    exact ⟨y,List.mem_range.2 hy.2.2.1.1,(out_SP.2 ⟨hy.2.2.1,fun e=>hy.1 e.symm⟩).2⟩
   ·have:=i5 z hz
    unfold outP at this
    rw [Bool.and_eq_true] at this
    exact this.1
  ·rw [if_neg hc]
   refine ⟨Iff.rfl,fun x hx => ?_,fun h=>h,by simp,fun x hx=>hx⟩
   cases hq:corP n es p x with
   | false=>rfl
   | true=>exact absurd (List.any_eq_true.2 ⟨x,List.mem_range.2 hx,hq⟩) hc
theorem ones_two {n:Nat} {p:Nat->Bool} (h:2<=onesP n p):∃a b,SP n p a/\SP n p b/\a≠b:=by
 have h0:0<onesP n p:=by omega
 unfold onesP at h0
 obtain ⟨a,ha,hpa⟩:=List.countP_pos_iff.1 h0
 have hA:SP n p a:=⟨List.mem_range.1 ha,hpa⟩
 have:=ones_out hA
 have h1:0<onesP n (outP p a):=by omega
 unfold onesP at h1
 obtain ⟨b,hb,hpb⟩:=List.countP_pos_iff.1 h1
 obtain ⟨h2,h3⟩:=out_SP.1 (show SP n (outP p a) b from ⟨List.mem_range.1 hb,hpb⟩)
 exact ⟨a,b,hA,h2,fun e=>h3 e.symm⟩
theorem ones_one {n:Nat} {p:Nat->Bool} (h:onesP n p=1):∃a,SP n p a /\ ∀b,SP n p b->b=a:=by
 have h0:0<onesP n p:=by omega
 unfold onesP at h0
 obtain ⟨a,ha,hpa⟩:=List.countP_pos_iff.1 h0
 have hA:SP n p a:=⟨List.mem_range.1 ha,hpa⟩
 refine ⟨a,hA,fun b hb=>Classical.byContradiction fun e => ?_⟩
 have:=ones_out hA
 have h1:0<onesP n (outP p a):=by
  unfold onesP
  rw [List.countP_pos_iff]
  exact ⟨b,List.mem_range.2 hb.1,(out_SP.2 ⟨hb,e⟩).2⟩
 omega
theorem win_core {n:Nat} {es:List E} {p:Nat->Bool} (h:∀x,x<n->corP n es p x=false) (h0:0<onesP n p):CopWin (BN es) (SP n p)↔onesP n p=1:=by
 constructor
 ·intro hw
  apply Classical.byContradiction
  intro h1
  obtain ⟨a,b,ha,hb,hab⟩:=ones_two (show 2<=onesP n p by omega)
  refine win_not (BN_refl es) (fun x y hxy => ?_) ha hb hab hw
  have:=(cor_iff hxy.2.1.1).2 ⟨y,hxy⟩
  rw [h x hxy.2.1.1] at this
  cases this
 ·intro h1
  obtain ⟨a,ha,hb⟩:=ones_one h1
  exact win_one ha hb
theorem sub_bit:∀m:Nat,m<256 -> ∀x:Nat,x<8->m.testBit x=true -> ∀y:Nat,y<8->(m-2 ^ x).testBit y=(m.testBit y && !decide (y=x)):=by decide +kernel
theorem ones_congr {n:Nat} {p q:Nat->Bool} (h:∀x,x<n->p x=q x):onesP n p=onesP n q:=List.countP_congr fun x hx=>by rw [h x (List.mem_range.1 hx)]
theorem ones_sub {n m x:Nat} (hn:n<=8) (hm:m<256) (hx:x<n) (hb:m.testBit x=true):onesP n m.testBit=onesP n (m-2 ^ x).testBit+1:=by
 rw [ones_out (x:=x) ⟨hx,hb⟩]
 congr 1
 exact ones_congr fun z hz=>by rw [sub_bit m hm x (by omega) hb z (by omega)];rfl
end Go.V.W
namespace Go.V.W
open Go.Proofs
def ConS (B:Nat->Nat->Prop) (S:Nat->Prop):Prop := ∀A:Nat->Prop,(∃a,S a/\A a)->(∀x,S x->A x -> ∀z,S z->B x z->A z) -> ∀z,S z->A z
theorem ConS.congr {B:Nat->Nat->Prop} {S S':Nat->Prop} (h:∀x,S x↔S' x) (hw:ConS B S):ConS B S':=by
 have:S=S':=funext fun x=>propext (h x)
 rwa [<- this]
theorem con_out {B:Nat->Nat->Prop} {S:Nat->Prop} (hs:∀x y,B x y->B y x) {x y:Nat} (h:CovS B S x y) (hc:ConS B S):ConS B (outS S x):=by
 obtain ⟨hne,hx,hy,hcov⟩:=h
 rintro A ⟨a,ha,hA⟩ hcl z hz
 have hyS:outS S x y:=⟨hy,fun e=>hne e.symm⟩
 have key:=hc (fun z=>(z=x/\A y)\/(z≠x/\A z)) ⟨a,ha.1,.inr ⟨ha.2,hA⟩⟩ (fun u hu hAu v hv hB => ?_) z hz.1
 ·rcases key with ⟨e,_⟩ | ⟨_,h⟩
  ·exact absurd e hz.2
  ·exact h
 ·by_cases ev:v=x
  ·left
   refine ⟨ev,?_⟩
   subst ev
   rcases hAu with ⟨_,h⟩ | ⟨hne',h⟩
   ·exact h
   ·exact hcl u ⟨hu,hne'⟩ h y hyS (hs _ _ (hcov u hu (hs _ _ hB)))
  ·right
   refine ⟨ev,?_⟩
   rcases hAu with ⟨e,h⟩ | ⟨hne',h⟩
   ·subst e
    exact hcl y hyS h v ⟨hv,ev⟩ (hcov v hv hB)
   ·exact hcl u ⟨hu,hne'⟩ h v ⟨hv,ev⟩ hB
theorem ones_split (n:Nat) (p q:Nat->Bool):onesP n p=onesP n (fun z=>p z&&q z)+onesP n (fun z=>p z && !q z):=by
 unfold onesP
 induction (List.range n) with
 | nil=>rfl
 | cons a l ih=>
  rw [List.countP_cons,List.countP_cons,List.countP_cons,ih]
  cases p a<;>cases q a<;>simp<;>omega
theorem ones_mono {n:Nat} {p q:Nat->Bool} (h:∀x,x<n->p x=true->q x=true):onesP n p<=onesP n q:=List.countP_mono_left fun x hx=>h x (List.mem_range.1 hx)
theorem ones_pos {n:Nat} {p:Nat->Bool}:0<onesP n p ↔ ∃x,SP n p x:=by
 unfold onesP
 rw [List.countP_pos_iff]
 constructor
 ·rintro ⟨x,hx,h⟩;exact ⟨x,List.mem_range.1 hx,h⟩
 ·rintro ⟨x,hx,h⟩;exact ⟨x,List.mem_range.2 hx,h⟩
theorem ones_same {n:Nat} {p q:Nat->Bool} (h:∀x,x<n->p x=true->q x=true) (he:onesP n q<=onesP n p) {x:Nat} (hx:SP n q x):p x=true:=by
 apply Classical.byContradiction
 intro hp
 have h1:=ones_split n q p
 have h2:onesP n (fun z=>q z&&p z)=onesP n p:=ones_congr fun z hz=>by
  cases hpz:p z with
  | false=>simp
  | true=>simp [h z hz hpz]
 have h3:0<onesP n (fun z=>q z && !p z):=ones_pos.2 ⟨x,hx.1,by
  show (q x && !p x)=true
  rw [hx.2];simpa using hp⟩
 omega
theorem ones_all (n:Nat):onesP n (fun _=>true)=n:=by
 unfold onesP
 rw [List.countP_true,List.length_range]
def nbP (n:Nat) (es:List E) (p:Nat->Bool) (x:Nat):Nat:=onesP n fun z=>p z&&(ballP es x z && !decide (z=x))
def dgP (n:Nat) (es:List E) (x:Nat):Nat:=nbP n es (fun _=>true) x
theorem ball_deg {n:Nat} {es:List E} {x:Nat} (hx:x<n):onesP n (ballP es x)=dgP n es x+1:=by
 have h:=ones_out (n:=n) (p:=ballP es x) (x:=x) ⟨hx,BN_refl es x⟩
 rw [h]
 congr 1
theorem strip_con {n:Nat} {es:List E}:∀(k:Nat) (p:Nat->Bool),ConS (BN es) (SP n p)->ConS (BN es) (SP n (strip n es k p).2):=by
 intro k
 induction k with
 | zero=>intro p h;exact h
 | succ k ih=>
  intro p h
  simp only [strip]
  by_cases hc:(List.range n).any (corP n es p)=true
  ·rw [if_pos hc]
   obtain ⟨h1,h2⟩:=firstF_any hc
   obtain ⟨y,hy⟩:=(cor_iff h1).1 h2
   exact ih _ ((con_out (BN_symm es) hy h).congr fun z=>out_SP.symm)
  ·rw [if_neg hc];exact h
theorem core_facts {n:Nat} {es:List E} {p:Nat->Bool} (hcon:ConS (BN es) (SP n p)) (h0:0<onesP n p) (hw:¬CopWin (BN es) (SP n p)) :
  ∃q:Nat->Bool,(∀x,q x=true->p x=true)/\4<=onesP n q/\(∀x,SP n q x->2<=nbP n es q x/\nbP n es q x+2<=onesP n q /\ ∃z,SP n q z /\ ¬BN es x z):=by
 obtain ⟨i1,i2,i3,i4,i5⟩:=strip_spec (es:=es) (onesP n p+1) p (Nat.lt_succ_self _)
 have hc2:=strip_con (es:=es) (onesP n p+1) p hcon
 generalize (strip n es (onesP n p+1) p).2=q at i1 i2 i3 i4 i5 hc2
 have hno:∀x y,¬CovS (BN es) (SP n q) x y:=fun x y hxy=>by
  have:=(cor_iff hxy.2.1.1).2 ⟨y,hxy⟩
  rw [i2 x hxy.2.1.1] at this
  cases this
 have h2:2<=onesP n q:=by
  have h3:=i3 h0
  have h4:onesP n q≠1:=fun h=>hw (i1.2 ((win_core i2 h3).2 h))
  omega
 have key:∀x,SP n q x->2<=nbP n es q x/\nbP n es q x+2<=onesP n q /\ ∃z,SP n q z /\ ¬BN es x z:=by
  intro x hx
  have hone:1<=nbP n es q x:=by
   apply Classical.byContradiction
   intro hlt
   have hz:nbP n es q x=0:=by omega
   have hall:=hc2 (fun z=>z=x) ⟨x,hx,rfl⟩ (fun u hu e v hv hB=>by
    apply Classical.byContradiction
    intro hne
    subst e
    have:0<nbP n es q u:=ones_pos.2 ⟨v,hv.1,by
     have hB:ballP es u v=true:=hB
     show (q v&&(ballP es u v && !decide (v=u)))=true
     rw [hv.2,hB]
     simp [hne]⟩
    omega)
   obtain ⟨a,b,ha,hb,hab⟩:=ones_two h2
   exact hab ((hall a ha).trans (hall b hb).symm)
  have htwo:2<=nbP n es q x:=by
   apply Classical.byContradiction
   intro hlt
   have h1:nbP n es q x=1:=by omega
   obtain ⟨y,hy,hy2⟩:=ones_one h1
   have hyq:=hy.2
   simp only [Bool.and_eq_true,Bool.not_eq_true',decide_eq_false_iff_not] at hyq
   refine hno x y ⟨fun e=>hyq.2.2 e.symm,hx,⟨hy.1,hyq.1⟩,fun z hz hB => ?_⟩
   by_cases e:z=x
   ·subst e
    exact BN_symm es _ _ hyq.2.1
   ·have:z=y:=hy2 z ⟨hz.1,by
     have hB:ballP es x z=true:=hB
     show (q z&&(ballP es x z && !decide (z=x)))=true
     rw [hz.2,hB]
     simp [e]⟩
    subst this
    exact BN_refl es z
  obtain ⟨z,hz,hB⟩:∃z,SP n q z /\ ¬BN es x z:=by
   apply Classical.byContradiction
   intro hall
   obtain ⟨a,b,ha,hb,hab⟩:=ones_two h2
   obtain ⟨r,hr,hrx⟩:∃r,SP n q r/\r≠x:=by
    by_cases e:a=x
    ·exact ⟨b,hb,fun e'=>hab (e.trans e'.symm)⟩
    ·exact ⟨a,ha,e⟩
   exact hno r x ⟨hrx,hr,hx,fun z hz _=>Classical.byContradiction fun h=>hall ⟨z,hz,h⟩⟩
  refine ⟨htwo,?_,z,hz,hB⟩
  have e1:=ones_out hx
  have hzx:z≠x:=fun e=>hB (e▸BN_refl es x)
  have e2:=ones_out (n:=n) (p:=outP q x) (x:=z) (out_SP.2 ⟨hz,hzx⟩)
  have e3:nbP n es q x<=onesP n (outP (outP q x) z):=ones_mono fun w hw h=>by
   simp only [Bool.and_eq_true,Bool.not_eq_true',decide_eq_false_iff_not] at h
   unfold outP
   simp only [Bool.and_eq_true,Bool.not_eq_true',decide_eq_false_iff_not]
   exact ⟨⟨h.1,h.2.2⟩,fun e=>hB (e▸h.2.1)⟩
  omega
 refine ⟨q,i5,?_,key⟩
 obtain ⟨x,hx⟩:=ones_pos.1 (show 0<onesP n q by omega)
 obtain ⟨k1,k2,_⟩:=key x hx
 omega
def farP (n:Nat) (es:List E) (u:Nat):Nat->Bool:=fun z=>decide (z<n) && !ballP es u z
def cmpS (n:Nat) (es:List E) (u r z:Nat):Prop:=farP n es u z=true /\ ∀A:Nat->Prop,A r->(∀x,farP n es u x=true->A x -> ∀w,farP n es u w=true->BN es x w->A w)->A z
noncomputable def cmpP (n:Nat) (es:List E) (u r:Nat):Nat->Bool:=fun z => @decide (cmpS n es u r z) (Classical.propDecidable _)
theorem cmp_iff {n:Nat} {es:List E} {u r z:Nat}:cmpP n es u r z=true↔cmpS n es u r z:=by
 unfold cmpP
 exact @decide_eq_true_iff _ (Classical.propDecidable _)
theorem far_lt {n:Nat} {es:List E} {u z:Nat} (h:farP n es u z=true):z<n:=by
 unfold farP at h
 rw [Bool.and_eq_true,decide_eq_true_eq] at h
 exact h.1
theorem cmp_SP {n:Nat} {es:List E} {u r z:Nat}:SP n (cmpP n es u r) z↔cmpS n es u r z:=
 ⟨fun h=>cmp_iff.1 h.2,fun h=>⟨far_lt h.1,cmp_iff.2 h⟩⟩
theorem cmp_step {n:Nat} {es:List E} {u r x z:Nat} (hx:cmpS n es u r x) (hz:farP n es u z=true) (hB:BN es x z):cmpS n es u r z:=
 ⟨hz,fun A h1 h2=>h2 x hx.1 (hx.2 A h1 h2) z hz hB⟩
theorem cmp_con {n:Nat} {es:List E} {u r:Nat}:ConS (BN es) (cmpS n es u r):=by
 rintro A ⟨a,ha,hA⟩ hcl z hz
 -- from r on all is in A, or nothing is
 have hr:A r \/ ¬A r:=Classical.em _
 rcases hr with hr | hr
 ·have:=hz.2 (fun x=>cmpS n es u r x->A x) (fun _=>hr) (fun x hx hAx w hw hB hwS=>by
   have hxS:cmpS n es u r x:=⟨hx,fun A' h1 h2=>by
    have:=hwS.2 A' h1 h2
    exact h2 w hw this x hx (BN_symm es _ _ hB)⟩
   exact hcl x hxS (hAx hxS) w hwS hB)
  exact this hz
 ·exfalso
  have:=ha.2 (fun x=>cmpS n es u r x -> ¬A x) (fun _=>hr) (fun x hx hAx w hw hB hwS hAw=>by
   have hxS:cmpS n es u r x:=⟨hx,fun A' h1 h2=>by
    have:=hwS.2 A' h1 h2
    exact h2 w hw this x hx (BN_symm es _ _ hB)⟩
   exact hAx hxS (hcl w hwS hAw x hxS (BN_symm es _ _ hB)))
  exact this ha hA
def badU (n:Nat) (es:List E) (u:Nat):Prop := ∃r,farP n es u r=true /\ ¬CopWin (BN es) (cmpS n es u r)
theorem bad_core {n:Nat} {es:List E} {u:Nat} (h:badU n es u):∃q:Nat->Bool,(∀x,q x=true->farP n es u x=true)/\4<=onesP n q/\(∀x,SP n q x->2<=nbP n es q x/\nbP n es q x+2<=onesP n q /\ ∃z,SP n q z /\ ¬BN es x z):=by
 obtain ⟨r,hr,hw⟩:=h
 have hrS:cmpS n es u r r:=⟨hr,fun A h1 _=>h1⟩
 obtain ⟨q,q1,q2,q3⟩:=core_facts (n:=n) (es:=es) (p:=cmpP n es u r) (cmp_con.congr fun z=>cmp_SP.symm) (ones_pos.2 ⟨r,cmp_SP.2 hrS⟩) fun h=>hw (h.congr fun z=>cmp_SP)
 exact ⟨q,fun x hx=>(cmp_iff.1 (q1 x hx)).1,q2,q3⟩
theorem far_ones {n:Nat} {es:List E} {u:Nat} (hu:u<n):onesP n (farP n es u)+dgP n es u+1=n:=by
 have h1:=ones_split n (fun _=>true) (ballP es u)
 rw [ones_all] at h1
 have h2:onesP n (fun z=>true&&ballP es u z)=onesP n (ballP es u):=ones_congr fun z _=>Bool.true_and _
 have h3:onesP n (fun z=>true && !ballP es u z)=onesP n (farP n es u):=ones_congr fun z hz=>by
  unfold farP
  rw [decide_eq_true hz]
 rw [h2,h3,ball_deg hu] at h1
 omega
theorem bad_four {n:Nat} (hn:n<=8) {es:List E} (hcon:ConS (BN es) (fun x=>x<n)) {u:Nat} (hu:u<n) (hmax:∀x,x<n->dgP n es x<=dgP n es u) (hb:badU n es u) :
  dgP n es u=3 /\ ∃q:Nat->Bool,(∀x,q x=true->farP n es u x=true)/\(∀x,farP n es u x=true->q x=true)/\onesP n q=4/\(∀x,SP n q x->nbP n es q x=2 /\ ∃z,SP n q z /\ ¬BN es x z):=by
 obtain ⟨q,q1,q2,q3⟩:=bad_core hb
 have hf:=far_ones (es:=es) hu
 have hq:onesP n q<=onesP n (farP n es u):=ones_mono fun x _ h=>q1 x h
 have h3:dgP n es u=3:=by
  apply Classical.byContradiction
  intro hne
  have hle:dgP n es u<=2:=by omega
  obtain ⟨x,hx⟩:=ones_pos.1 (show 0<onesP n q by omega)
  have hall:=hcon (fun z=>q z=true) ⟨x,hx.1,hx.2⟩ (fun a ha hA z hz hB=>by
   by_cases e:z=a
   ·rw [e];exact hA
   ·have h1:=(q3 a ⟨ha,hA⟩).1
    have h2:=hmax a ha
    have:=ones_same (n:=n) (p:=fun z=>q z&&(ballP es a z && !decide (z=a))) (q:=fun z=>true&&(ballP es a z && !decide (z=a))) (fun w _ h=>by
     rw [Bool.and_eq_true] at h
     rw [h.2]
     rfl) (by
     show dgP n es a<=nbP n es q a
     omega) (x:=z) ⟨hz,by
     have hB:ballP es a z=true:=hB
     show (true&&(ballP es a z && !decide (z=a)))=true
     rw [hB]
     simp [e]⟩
    rw [Bool.and_eq_true] at this
    exact this.1) u hu
  have:=q1 u hall
  unfold farP at this
  have hr:ballP es u u=true:=BN_refl es u
  rw [hr] at this
  simp at this
 have h4:onesP n q=4:=by omega
 refine ⟨h3,q,q1,fun x hx=>ones_same (fun z _ h=>q1 z h) (by omega) ⟨far_lt hx,hx⟩,h4,fun x hx => ?_⟩
 obtain ⟨k1,k2,k3⟩:=q3 x hx
 exact ⟨by omega,k3⟩
theorem max_deg {n:Nat} {es:List E} (hn:0<n):∃u,u<n /\ ∀x,x<n->dgP n es x<=dgP n es u:=by
 have key:∀k,0<k->k<=n -> ∃u,u<k /\ ∀x,x<k->dgP n es x<=dgP n es u:=by
  intro k
  induction k with
  | zero=>intro h;omega
  | succ k ih=>
   intro _ hk
   by_cases h0:k=0
   ·subst h0
    exact ⟨0,by omega,fun x hx=>by
     have:x=0:=by omega
     rw [this]
     exact Nat.le_refl _⟩
   ·obtain ⟨u,hu,hm⟩:=ih (by omega) (by omega)
    by_cases h:dgP n es k<=dgP n es u
    ·refine ⟨u,by omega,fun x hx => ?_⟩
     by_cases e:x=k
     ·rw [e];exact h
     ·exact hm x (by omega)
    ·refine ⟨k,by omega,fun x hx => ?_⟩
     by_cases e:x=k
     ·rw [e];exact Nat.le_refl _
     ·have:=hm x (by omega)
      omega
 exact key n hn (Nat.le_refl _)
theorem good_node {n:Nat} (hn:n<=8) (h0:0<n) {es:List E} (hcon:ConS (BN es) (fun x=>x<n)):∃u,u<n /\ ¬badU n es u:=by
 obtain ⟨u,hu,hmax⟩:=max_deg (es:=es) h0
 by_cases hb:badU n es u
 ·obtain ⟨h3,q,q1,q2,q4,q5⟩:=bad_four hn hcon hu hmax hb
  -- a node of the part with a neighbor outside it
  obtain ⟨a,z,ha,hz,hB,hqz⟩:∃a z,SP n q a/\z<n/\BN es a z /\ ¬q z=true:=by
   apply Classical.byContradiction
   intro hno
   obtain ⟨x,hx⟩:=ones_pos.1 (show 0<onesP n q by omega)
   have:=hcon (fun z=>q z=true) ⟨x,hx.1,hx.2⟩ (fun a ha hA z hz hB=>Classical.byContradiction fun h=>hno ⟨a,z,⟨ha,hA⟩,hz,hB,h⟩) u hu
   have:=q1 u this
   unfold farP at this
   have hr:ballP es u u=true:=BN_refl es u
   rw [hr] at this
   simp at this
  have hda:dgP n es a=3:=by
   have h1:=hmax a ha.1
   have h2:=ones_split n (fun w=>true&&(ballP es a w && !decide (w=a))) q
   have h4:nbP n es q a=onesP n (fun w=>(true&&(ballP es a w && !decide (w=a)))&&q w):=ones_congr fun w _=>by
    rw [Bool.true_and,Bool.and_comm]
   have h5:0<onesP n (fun w=>(true&&(ballP es a w && !decide (w=a))) && !q w):=ones_pos.2 ⟨z,hz,by
    have hB:ballP es a z=true:=hB
    have e:z≠a:=fun e=>hqz (e▸ha.2)
    show ((true&&(ballP es a z && !decide (z=a))) && !q z)=true
    rw [hB]
    simp [e,hqz]⟩
   have h6:=(q5 a ha).1
   have h7:dgP n es a=onesP n (fun w=>true&&(ballP es a w && !decide (w=a))):=rfl
   omega
  refine ⟨a,ha.1,fun hb2 => ?_⟩
  have hmax2:∀x,x<n->dgP n es x<=dgP n es a:=fun x hx=>by have:=hmax x hx;omega
  obtain ⟨_,q',r1,r2,r4,r5⟩:=bad_four hn hcon ha.1 hmax2 hb2
  -- the node over against a
  obtain ⟨c,hc,hBc⟩:=(q5 a ha).2
  have hcf:farP n es a c=true:=by
   unfold farP
   rw [decide_eq_true hc.1]
   have:ballP es a c=false:=by simpa [BN] using hBc
   rw [this]
   rfl
  have hc':SP n q' c:=⟨hc.1,r2 c hcf⟩
  have n1:=(q5 c hc).1
  have n2:=(r5 c hc').1
  -- the nodes of the part that are not near a are c alone
  have hone:onesP n (fun w=>q w && !ballP es a w)=1:=by
   have h2:=ones_split n q (ballP es a)
   have h4:onesP n (fun w=>q w&&ballP es a w)=nbP n es q a+1:=by
    have:=ones_out (n:=n) (p:=fun w=>q w&&ballP es a w) (x:=a) ⟨ha.1,by
     have hr:ballP es a a=true:=BN_refl es a
     show (q a&&ballP es a a)=true
     rw [ha.2,hr]
     rfl⟩
    rw [this]
    congr 1
    exact ones_congr fun w _=>by
     unfold outP
     rw [Bool.and_assoc]
   have:=(q5 a ha).1
   omega
  obtain ⟨c',hc1,hc2⟩:=ones_one hone
  have hdis:∀w,SP n q w->q' w=true->w=c:=fun w hw hw'=>by
   have hf:=r1 w hw'
   unfold farP at hf
   rw [Bool.and_eq_true] at hf
   have e1:w=c':=hc2 w ⟨hw.1,by
    show (q w && !ballP es a w)=true
    rw [hw.2,hf.2];rfl⟩
   have e2:c=c':=hc2 c ⟨hc.1,by
    have:ballP es a c=false:=by simpa [BN] using hBc
    show (q c && !ballP es a c)=true
    rw [hc.2,this]
    rfl⟩
   exact e1.trans e2.symm
  -- so c has four neighbors
  have h2:=ones_split n (fun w=>true&&(ballP es c w && !decide (w=c))) q
  have h4:nbP n es q c=onesP n (fun w=>(true&&(ballP es c w && !decide (w=c)))&&q w):=ones_congr fun w _=>by
   rw [Bool.true_and,Bool.and_comm]
  have h5:nbP n es q' c<=onesP n (fun w=>(true&&(ballP es c w && !decide (w=c))) && !q w):=ones_mono fun w hw h=>by
   simp only [Bool.and_eq_true,Bool.not_eq_true',decide_eq_false_iff_not] at h
   simp only [Bool.and_eq_true,Bool.not_eq_true',decide_eq_false_iff_not,true_and]
   refine ⟨h.2,?_⟩
   cases hq:q w with
   | false=>rfl
   | true=>exact absurd (hdis w ⟨hw,hq⟩ h.1) h.2.2
  have h7:dgP n es c=onesP n (fun w=>true&&(ballP es c w && !decide (w=c))):=rfl
  have:=hmax c hc.1
  omega
 ·exact ⟨u,hu,hb⟩
end Go.V.W
namespace Go.V.W
open Go.Proofs
def twoL (a b:Nat):List Int:=if a<=b then [(a:Int),(b:Int)] else [(b:Int),(a:Int)]
theorem sortI_two (x y:Int):sortI [x,y]=if x<=y then [x,y] else [y,x]:=by
 unfold sortI
 by_cases h:x<=y
 ·simp [List.mergeSort,List.MergeSort.Internal.splitInTwo,List.merge,h]
 ·simp [List.mergeSort,List.MergeSort.Internal.splitInTwo,List.merge,h]
theorem two_conf {n a b:Nat} (ha:a<n) (hb:b<n):twoL a b∈confL n 2:=by
 rw [confL_mem]
 unfold twoL
 split
 ·refine ⟨rfl,?_⟩
  simp [copsB,ndB,inB]
  omega
 ·refine ⟨rfl,?_⟩
  simp [copsB,ndB,inB]
  omega
theorem two_moves {ball:Int->List Int} {a b c d:Nat} (hc:(c:Int)∈ball (a:Int)) (hd:(d:Int)∈ball (b:Int)):twoL c d∈movesL ball (twoL a b):=by
 unfold movesL
 rw [comp_mem,(sortS_perm _).mem_iff,List.mem_map]
 have hch:∀x y:Int,∀u∈ball x,∀v∈ball y,[u,v]∈chL ball [x,y] [[]]:=fun x y u hu v hv=>by
  simp only [chL,List.flatMap_cons,List.flatMap_nil,List.append_nil,List.nil_append,List.mem_flatMap,List.mem_map]
  exact ⟨[u],⟨u,hu,rfl⟩,v,hv,rfl⟩
 have hcd:∀x y:Nat,sortI [(x:Int),(y:Int)]=twoL x y:=fun x y=>by
  rw [sortI_two]
  unfold twoL
  by_cases h:x<=y
  ·rw [if_pos h,if_pos (by omega)]
  ·rw [if_neg h,if_neg (by omega)]
 have hsw:twoL d c=twoL c d:=by
  unfold twoL
  by_cases h:d<=c
  ·by_cases h2:c<=d
   ·have:c=d:=by omega
    subst this
    rfl
   ·rw [if_pos h,if_neg h2]
  ·rw [if_neg h,if_pos (by omega)]
 by_cases h:a<=b
 ·have e:twoL a b=[(a:Int),(b:Int)]:=if_pos h
  rw [e]
  exact ⟨_,hch _ _ _ hc _ hd,hcd c d⟩
 ·have e:twoL a b=[(b:Int),(a:Int)]:=if_neg h
  rw [e]
  exact ⟨_,hch _ _ _ hd _ hc,(hcd d c).trans hsw⟩
def Tm2 (n:Nat) (es:List E) (a b r:Nat):Prop:=0<=tab2 (tmG ((n:Int),es,()) 2) (placeL (confL n 2) (twoL a b)) (r:Int)
theorem tm2_facts {n:Nat} (hn:n<=8) (es:List E):TimesI (confL n 2) (movesI (ballF n es) (confL n 2)) (ballF n es) n (tmG ((n:Int),es,()) 2):=
 gtimes_facts hn (board_fits (es:=es) (v:=()) hn (by omega:2<=3)) (ballF_ok n es)
theorem tm2_catch {n:Nat} (hn:n<=8) {es:List E} {a b r:Nat} (ha:a<n) (hb:b<n) (hr:r<n) (h:r=a\/r=b):Tm2 n es a b r:=by
 obtain ⟨i,i1,i2,i3⟩:=place_at (two_conf ha hb)
 unfold Tm2
 rw [i2,((tm2_facts hn es).zero i r i1 hr).2 ?_]
 ·exact Int.le_refl _
 ·rw [i3]
  unfold twoL
  rcases h with rfl | rfl<;>split<;>simp [hasL]
theorem tm2_move {n:Nat} (hn:n<=8) {es:List E} {a b c d r:Nat} (ha:a<n) (hb:b<n) (hc:c<n) (hd:d<n) (hr:r<n) (h1:BN es a c) (h2:BN es b d) (h:r=c\/r=d \/ ∀q,q<n->BN es r q->Tm2 n es c d q):Tm2 n es a b r:=by
 obtain ⟨i,i1,i2,i3⟩:=place_at (two_conf ha hb)
 obtain ⟨j,j1,j2,j3⟩:=place_at (two_conf hc hd)
 unfold Tm2
 rw [i2]
 apply Classical.byContradiction
 intro hneg
 have hm:(j:Int)∈(movesI (ballF n es) (confL n 2)).getD i []:=by
  unfold movesI
  rw [List.getD_eq_getElem?_getD,List.getElem?_map,List.getElem?_eq_getElem i1,Option.map_some,Option.getD_some]
  have e:(confL n 2)[i]=twoL a b:=by
   rw [List.getD_eq_getElem?_getD,List.getElem?_eq_getElem i1,Option.getD_some] at i3
   exact i3
  rw [e,List.mem_map]
  exact ⟨twoL c d,two_moves ((ball_iff hc).2 h1) ((ball_iff hd).2 h2),j2⟩
 have hno:=(tm2_facts hn es).none i r i1 hr (by omega) _ hm
 unfold afterG at hno
 rw [Int.toNat_natCast,j3] at hno
 split at hno
 ·omega
 ·rename_i hh
  rcases h with h | h | h
  ·exact hh (by rw [h];unfold twoL;split<;>simp [hasL])
  ·exact hh (by rw [h];unfold twoL;split<;>simp [hasL])
  ·rcases worst_spec (tab2 (tmG ((n:Int),es,()) 2) (j:Int)) (ballF n es (r:Int)) 0 with ⟨⟨z,hz,hz0⟩,_⟩ | ⟨_,h0,_⟩
   ·obtain ⟨q,hq,rfl⟩:=ballF_ok n es r hr z hz
    have:=h q hq ((ball_iff hq).1 hz)
    unfold Tm2 at this
    rw [j2] at this
    omega
   ·omega
theorem tm2_part {n:Nat} (hn:n<=8) {es:List E} {u r0:Nat} (hu:u<n) {c r:Nat} (h:WinS (BN es) (cmpS n es u r0) c r):Tm2 n es u c r:=by
 have lt:∀{z},cmpS n es u r0 z->z<n:=fun h=>far_lt h.1
 induction h with
 | home h=>exact tm2_catch hn hu (lt h) (lt h) (.inr rfl)
 | take h1 h2 h3=>exact tm2_move hn hu (lt h1) hu (lt h2) (lt h2) (BN_refl es _) h3 (.inr (.inl rfl))
 | go h1 h2 h3 h4 h5 ih=>
  rename_i c r b
  refine tm2_move hn hu (lt h1) hu (lt h3) (lt h2) (BN_refl es _) h4 (.inr (.inr fun q hq hB => ?_))
  by_cases hf:farP n es u q=true
  ·exact ih q (cmp_step h2 hf hB) hB
  ·have hBu:BN es u q:=by
    unfold farP at hf
    rw [decide_eq_true hq,Bool.true_and] at hf
    unfold BN
    simpa using hf
   exact tm2_move hn hu (lt h3) hq (lt h3) hq hBu (BN_refl es _) (.inl rfl)
theorem two_cops {n:Nat} (hn:n<=8) (h0:0<n) {es:List E} (hcon:ConS (BN es) (fun x=>x<n)):∃u,u<n /\ ∀r,r<n->Tm2 n es u u r:=by
 obtain ⟨u,hu,hgood⟩:=good_node hn h0 hcon
 have near:∀c r,c<n->r<n->BN es u r->Tm2 n es u c r:=fun c r hc hr hB=>tm2_move hn hu hc hr hc hr hB (BN_refl es _) (.inl rfl)
 refine ⟨u,hu,fun r hr => ?_⟩
 by_cases hf:farP n es u r=true
 ·have hw:CopWin (BN es) (cmpS n es u r):=Classical.byContradiction fun h=>hgood ⟨r,hf,h⟩
  obtain ⟨c0,hc0,hc1⟩:=hw
  have hrS:cmpS n es u r r:=⟨hf,fun A h1 _=>h1⟩
  -- from each node the second cop comes to the part's best one
  have hall:=hcon (fun c => ∀q,cmpS n es u r q->Tm2 n es u c q) ⟨c0,far_lt hc0.1,fun q hq=>tm2_part hn hu (hc1 q hq)⟩ (fun c hc hD c' hc' hB q hq=>by
   refine tm2_move hn hu hc' hu hc (far_lt hq.1) (BN_refl es _) (BN_symm es _ _ hB) (.inr (.inr fun w hw hBw => ?_))
   by_cases hf2:farP n es u w=true
   ·exact hD w (cmp_step hq hf2 hBw)
   ·refine near c w hc hw ?_
    unfold farP at hf2
    rw [decide_eq_true hw,Bool.true_and] at hf2
    unfold BN
    simpa using hf2)
  exact hall u hu r hrS
 ·refine near u r hu hr ?_
  unfold farP at hf
  rw [decide_eq_true hr,Bool.true_and] at hf
  unfold BN
  simpa using hf
end Go.V.W
namespace Go.V.W
open Go.Proofs
theorem minF_le {f:Nat->Int} {v:Int}:∀(l:List Nat) (b:Int),l.foldl (fun b y=>if f y<b then f y else b) b<=v↔b<=v \/ ∃x∈l,f x<=v:=by
 intro l
 induction l with
 | nil=>intro b;simp
 | cons a l ih=>
  intro b
  rw [List.foldl_cons,ih]
  constructor
  ·rintro (h | ⟨x,hx,h⟩)
   ·split at h
    ·exact .inr ⟨a,List.mem_cons_self ..,h⟩
    ·exact .inl h
   ·exact .inr ⟨x,List.mem_cons_of_mem _ hx,h⟩
  ·rintro (h | ⟨x,hx,h⟩)
   ·left;split<;>omega
   ·rcases List.mem_cons.1 hx with rfl | hx
    ·left;split<;>omega
    ·exact .inr ⟨x,hx,h⟩
theorem minF_iff {f:Nat->Int} {v:Int} {l:List Nat} (hl:l≠[]):minF f l<=v ↔ ∃x∈l,f x<=v:=by
 match l,hl with
 | a::l,_=>
  unfold minF
  rw [minF_le]
  constructor
  ·rintro (h | ⟨x,hx,h⟩)
   ·exact ⟨a,List.mem_cons_self ..,h⟩
   ·exact ⟨x,List.mem_cons_of_mem _ hx,h⟩
  ·rintro ⟨x,hx,h⟩
   rcases List.mem_cons.1 hx with rfl | hx
   ·exact .inl h
   ·exact .inr ⟨x,hx,h⟩
theorem minF_congr {f g:Nat->Int} {l:List Nat} (h:∀x∈l,f x=g x):minF f l=minF g l:=by
 have key:∀(l:List Nat) (b:Int),(∀x∈l,f x=g x)->l.foldl (fun b y=>if f y<b then f y else b) b=l.foldl (fun b y=>if g y<b then g y else b) b:=by
  intro l
  induction l with
  | nil=>intro b _;rfl
  | cons a l ih=>
   intro b h
   rw [List.foldl_cons,List.foldl_cons,h a (List.mem_cons_self ..)]
   exact ih _ fun x hx=>h x (List.mem_cons_of_mem _ hx)
 cases l with
 | nil=>rfl
 | cons a l=>
  show l.foldl (fun b y=>if f y<b then f y else b) (f a)=l.foldl (fun b y=>if g y<b then g y else b) (g a)
  rw [h a (List.mem_cons_self ..)]
  exact key l _ fun x hx=>h x (List.mem_cons_of_mem _ hx)
theorem add_bit:∀m:Nat,m<256 -> ∀x:Nat,x<8->m.testBit x=false -> ∀y:Nat,y<8->(m+2 ^ x).testBit y=(m.testBit y||decide (y=x)):=by decide +kernel
theorem add_lt:∀n:Nat,n<9 -> ∀m:Nat,m<2 ^ n -> ∀x:Nat,x<n->m.testBit x=false->m+2 ^ x<2 ^ n:=by decide +kernel
theorem sub_add:∀m:Nat,m<256 -> ∀x:Nat,x<8->m.testBit x=true->m-2 ^ x+2 ^ x=m/\(m-2 ^ x).testBit x=false:=by decide +kernel
theorem add_sub {m x:Nat}:m+2 ^ x-2 ^ x=m:=Nat.add_sub_cancel ..
theorem full_iff:∀n:Nat,n<9 -> ∀m:Nat,m<2 ^ n->((List.range n).filter (fun x => !m.testBit x)=[]↔m=2 ^ n-1):=by decide +kernel
theorem zero_iff:∀n:Nat,n<9 -> ∀m:Nat,m<2 ^ n->((List.range n).filter (fun x=>m.testBit x)=[]↔m=0):=by decide +kernel
theorem mem_out {n m x:Nat}:x∈(List.range n).filter (fun x => !m.testBit x)↔x<n/\m.testBit x=false:=by
 rw [List.mem_filter,List.mem_range,Bool.not_eq_true']
theorem mem_in {n m x:Nat}:x∈(List.range n).filter (fun x=>m.testBit x)↔x<n/\m.testBit x=true:=by
 rw [List.mem_filter,List.mem_range]
theorem pow8 {n:Nat} (hn:n<=8):2 ^ n<=256:=Nat.pow_le_pow_right (by omega) hn
theorem ones_add {n m x:Nat} (hn:n<=8) (hm:m<2 ^ n) (hx:x<n) (hb:m.testBit x=false):onesP n (m+2 ^ x).testBit=onesP n m.testBit+1:=by
 have h256:=pow8 hn
 have hb2:(m+2 ^ x).testBit x=true:=by rw [add_bit m (by omega) x (by omega) hb x (by omega)];simp
 have:=add_lt n (by omega) m hm x hx hb
 rw [ones_sub hn (by omega) hx hb2,add_sub]
inductive ChC (n:Nat) (sz:Nat->Int) (v:Int):Nat->Nat->Prop
 | nil (m:Nat):ChC n sz v m m
 | cons {m x t:Nat}:x<n->m.testBit x=false->sz (m+2 ^ x)<=v->ChC n sz v (m+2 ^ x) t->ChC n sz v m t
theorem ChC.snoc {n:Nat} {sz:Nat->Int} {v:Int} {a m x:Nat} (h:ChC n sz v a m) (hx:x<n) (hb:m.testBit x=false) (hs:sz (m+2 ^ x)<=v):ChC n sz v a (m+2 ^ x):=by
 induction h with
 | nil m=>exact .cons hx hb hs (.nil _)
 | cons h1 h2 h3 h4 ih=>exact .cons h1 h2 h3 (ih hb hs)
theorem ChC.last {n:Nat} {sz:Nat->Int} {v:Int} {a t:Nat} (h:ChC n sz v a t):a=t \/ ∃m x,x<n/\m.testBit x=false/\t=m+2 ^ x/\sz t<=v/\ChC n sz v a m:=by
 induction h with
 | nil m=>exact .inl rfl
 | cons h1 h2 h3 h4 ih=>
  rename_i m x t
  right
  rcases ih with e | ⟨m',x',k1,k2,k3,k4,k5⟩
  ·subst e
   exact ⟨m,x,h1,h2,rfl,h3,.nil _⟩
  ·exact ⟨m',x',k1,k2,k3,k4,.cons h1 h2 h3 k5⟩
theorem ones_full {n:Nat} (hn:n<=8) {m:Nat} (hm:m<2 ^ n):onesP n m.testBit=n->m=2 ^ n-1:=by
 intro h
 refine (full_iff n (by omega) m hm).1 (List.filter_eq_nil_iff.2 fun x hx hb => ?_)
 have hx:=List.mem_range.1 hx
 have hb:m.testBit x=false:=by simpa using hb
 have h1:=ones_add hn hm hx hb
 have h2:onesP n (m+2 ^ x).testBit<=n:=by
  have:=ones_mono (n:=n) (p:=(m+2 ^ x).testBit) (q:=fun _=>true) fun _ _ _=>rfl
  rwa [ones_all] at this
 omega
theorem bOr_iff {n:Nat} (hn:n<=8) {sz:Nat->Int} {v:Int} (hv:0<=v):∀(k m:Nat),m<2 ^ n->n<=onesP n m.testBit+k->(bOr n sz k m<=v↔ChC n sz v m (2 ^ n-1)):=by
 intro k
 induction k with
 | zero=>
  intro m hm h
  have h2:onesP n m.testBit<=n:=by
   have:=ones_mono (n:=n) (p:=m.testBit) (q:=fun _=>true) fun _ _ _=>rfl
   rwa [ones_all] at this
  have:=ones_full hn hm (by omega)
  subst this
  exact ⟨fun _=>.nil _,fun _=>hv⟩
 | succ k ih=>
  intro m hm h
  simp only [bOr]
  by_cases he:(List.range n).filter (fun x => !m.testBit x)=[]
  ·have:=(full_iff n (by omega) m hm).1 he
   rw [he]
   subst this
   exact ⟨fun _=>.nil _,fun _=>hv⟩
  ·rw [minF_iff he]
   constructor
   ·rintro ⟨x,hx,hle⟩
    obtain ⟨x1,x2⟩:=mem_out.1 hx
    have h1:=add_lt n (by omega) m hm x x1 x2
    have h2:=ones_add hn hm x1 x2
    have h3:sz (m+2 ^ x)<=v/\bOr n sz k (m+2 ^ x)<=v:=by
     split at hle<;>omega
    exact .cons x1 x2 h3.1 ((ih _ h1 (by omega)).1 h3.2)
   ·intro hc
    cases hc with
    | nil=>exact absurd ((full_iff n (by omega) _ hm).2 rfl) he
    | cons x1 x2 x3 x4=>
     rename_i x
     have h1:=add_lt n (by omega) m hm x x1 x2
     have h2:=ones_add hn hm x1 x2
     have h4:=(ih _ h1 (by omega)).2 x4
     refine ⟨x,mem_out.2 ⟨x1,x2⟩,?_⟩
     split<;>omega
theorem wOr_iff {n:Nat} (hn:n<=8) {sz:Nat->Int} {v:Int} (hv:0<=v):∀(k m:Nat),m<2 ^ n->onesP n m.testBit<=k->(wOr n sz k m<=v↔ChC n sz v 0 m):=by
 have h256:=pow8 hn
 intro k
 induction k with
 | zero=>
  intro m hm h
  have:m=0:=(zero_iff n (by omega) m hm).1 (List.filter_eq_nil_iff.2 fun x hx hb=>by
   have:0<onesP n m.testBit:=ones_pos.2 ⟨x,List.mem_range.1 hx,hb⟩
   omega)
  subst this
  exact ⟨fun _=>.nil _,fun _=>hv⟩
 | succ k ih=>
  intro m hm h
  simp only [wOr]
  by_cases h0:m=0
  ·subst h0
   rw [if_pos rfl]
   exact ⟨fun _=>.nil _,fun _=>hv⟩
  ·rw [if_neg h0]
   have he:(List.range n).filter (fun x=>m.testBit x)≠[]:=fun he=>h0 ((zero_iff n (by omega) m hm).1 he)
   have hmin:=minF_iff (f:=fun x=>wOr n sz k (m-2 ^ x)) (v:=v) he
   constructor
   ·intro hle
    have h3:sz m<=v/\minF (fun x=>wOr n sz k (m-2 ^ x)) ((List.range n).filter fun x=>m.testBit x)<=v:=by
     split at hle<;>omega
    obtain ⟨x,hx,hx2⟩:=hmin.1 h3.2
    obtain ⟨x1,x2⟩:=mem_in.1 hx
    obtain ⟨e1,e2⟩:=sub_add m (by omega) x (by omega) x2
    have h4:=ones_sub hn (by omega) x1 x2
    have h5:=(ih _ (Nat.lt_of_le_of_lt (Nat.sub_le _ _) hm) (by omega)).1 hx2
    have:=h5.snoc x1 e2 (by rw [e1];exact h3.1)
    rwa [e1] at this
   ·intro hc
    rcases hc.last with e | ⟨m',x,x1,x2,rfl,x4,x5⟩
    ·exact absurd e.symm h0
    ·have hm':m'<2 ^ n:=Nat.lt_of_le_of_lt (Nat.le_add_right _ _) hm
     have h4:=ones_add hn hm' x1 x2
     have h5:=(ih m' hm' (by omega)).2 x5
     have hx2:(m'+2 ^ x).testBit x=true:=by rw [add_bit m' (by omega) x (by omega) x2 x (by omega)];simp
     have h6:=hmin.2 ⟨x,mem_in.2 ⟨x1,hx2⟩,by rw [add_sub];exact h5⟩
     split<;>omega
theorem width_eq {n:Nat} (hn:n<=8) {sz:Nat->Int} (h0:∀m,0<=sz m):bOr n sz 8 0=wOr n sz 8 (2 ^ n-1)/\0<=bOr n sz 8 0:=by
 have hp:0<2 ^ n:=Nat.two_pow_pos n
 have ho:onesP n (2 ^ n-1).testBit<=8:=by
  have:=ones_mono (n:=n) (p:=(2 ^ n-1).testBit) (q:=fun _=>true) fun _ _ _=>rfl
  rw [ones_all] at this
  omega
 have hb0:∀k m,0<=bOr n sz k m:=by
  intro k
  induction k with
  | zero=>intro m;exact Int.le_refl _
  | succ k ih=>
   intro m
   simp only [bOr]
   apply Classical.byContradiction
   intro hneg
   by_cases he:(List.range n).filter (fun x => !m.testBit x)=[]
   ·rw [he] at hneg;exact hneg (Int.le_refl _)
   ·obtain ⟨x,hx,hle⟩:=(minF_iff (f:=fun x=>if sz (m+2 ^ x)<bOr n sz k (m+2 ^ x) then bOr n sz k (m+2 ^ x) else sz (m+2 ^ x)) (v := -1) he).1 (by omega)
    have h1:=h0 (m+2 ^ x)
    have h2:=ih (m+2 ^ x)
    split at hle<;>omega
 have hw0:∀k m,0<=wOr n sz k m:=by
  intro k
  induction k with
  | zero=>intro m;exact Int.le_refl _
  | succ k ih=>
   intro m
   simp only [wOr]
   have:=h0 m
   by_cases hm:m=0
   ·rw [if_pos hm];exact Int.le_refl _
   ·rw [if_neg hm]
    split<;>omega
 have key:∀v:Int,0<=v->(bOr n sz 8 0<=v↔wOr n sz 8 (2 ^ n-1)<=v):=fun v hv=>
  (bOr_iff hn hv 8 0 hp (by omega)).trans (wOr_iff hn hv 8 (2 ^ n-1) (by omega) ho).symm
 have h1:=(key _ (hb0 8 0)).1 (Int.le_refl _)
 have h2:=(key _ (hw0 8 (2 ^ n-1))).2 (Int.le_refl _)
 exact ⟨by omega,hb0 8 0⟩
theorem setF_ones {p:Nat->Bool} {n:Nat}:(setF p n 0).length=onesP n p:=by
 have key:∀k x,(setF p k x).length=(List.range' x k).countP p:=by
  intro k
  induction k with
  | zero=>intro x;rfl
  | succ k ih=>
   intro x
   rw [List.range'_succ,List.countP_cons,setF]
   by_cases h:p x=true
   ·simp [h,ih]
   ·simp [h,ih]
 rw [key]
 unfold onesP
 rw [List.range_eq_range']
theorem chain_win {n:Nat} (hn:n<=8) {es:List E}:∀(k m:Nat),m<2 ^ n->onesP n m.testBit=k->0<k->ChC n (szP n es) 1 0 m->ConS (BN es) (SP n m.testBit)->CopWin (BN es) (SP n m.testBit):=by
 have h256:=pow8 hn
 intro k
 induction k with
 | zero=>intro m _ _ h;omega
 | succ k ih=>
  intro t ht hk _ hc hcon
  rcases hc.last with e | ⟨m,x,x1,x2,rfl,x4,x5⟩
  ·subst e
   obtain ⟨z,hz,hb⟩:=ones_pos.1 (show 0<onesP n (0:Nat).testBit by omega)
   simp at hb
  ·have hm:m<2 ^ n:=Nat.lt_of_le_of_lt (Nat.le_add_right _ _) ht
   have ho:=ones_add hn hm x1 x2
   have hxt:SP n (m+2 ^ x).testBit x:=⟨x1,by rw [add_bit m (by omega) x (by omega) x2 x (by omega)];simp⟩
   have hmem:∀z,SP n (m+2 ^ x).testBit z↔z=x\/SP n m.testBit z:=fun z=>by
    constructor
    ·rintro ⟨z1,z2⟩
     rw [add_bit m (by omega) x (by omega) x2 z (by omega),Bool.or_eq_true,decide_eq_true_eq] at z2
     rcases z2 with z2 | z2
     ·exact .inr ⟨z1,z2⟩
     ·exact .inl z2
    ·rintro (rfl | ⟨z1,z2⟩)
     ·exact hxt
     ·exact ⟨z1,by rw [add_bit m (by omega) x (by omega) x2 z (by omega),z2];rfl⟩
   by_cases hk0:k=0
   ·obtain ⟨a,ha,hb⟩:=ones_one (n:=n) (p:=(m+2 ^ x).testBit) (by omega)
    exact win_one ha hb
   ·-- the front of m has one node at most
    have hfr:onesP n (frP n es m.testBit)<=1:=by
     have hs:szP n es m<=1:=by
      rcases x5.last with e | ⟨m',x',k1,k2,k3,k4,k5⟩
      ·subst e
       have:setF (frP n es (0:Nat).testBit) n 0=[]:=by
        rw [List.eq_nil_iff_forall_not_mem]
        intro z hz
        obtain ⟨y,_,_,h,_⟩:=setF_mem.1 hz
        unfold frP at h
        simp at h
       unfold szP
       rw [this]
       decide
      ·exact k4
     unfold szP at hs
     rw [setF_ones] at hs
     omega
    have hnear:∀y,SP n m.testBit y->BN es x y->SP n (frP n es m.testBit) y:=fun y hy hB=>by
     refine ⟨hy.1,?_⟩
     unfold frP
     rw [hy.2,Bool.true_and,List.any_eq_true]
     refine ⟨x,List.mem_range.2 x1,?_⟩
     have hB2:ballP es y x=true:=BN_symm es _ _ hB
     unfold ballP at hB2
     rw [Bool.or_eq_true,decide_eq_true_eq] at hB2
     rcases hB2 with h | h
     ·rw [h,x2];rfl
     ·have h2:=hy.2
      rw [<- h,x2] at h2
      cases h2
    obtain ⟨y,hy,hB⟩:∃y,SP n m.testBit y/\BN es x y:=by
     apply Classical.byContradiction
     intro hno
     have hall:=hcon (fun z=>z=x) ⟨x,hxt,rfl⟩ (fun a ha e z hz hB=>by
      subst e
      rcases (hmem z).1 hz with h | h
      ·exact h
      ·exact absurd ⟨z,h,hB⟩ hno)
     obtain ⟨z,hz⟩:=ones_pos.1 (show 0<onesP n m.testBit by omega)
     have:=hall z ((hmem z).2 (.inr hz))
     subst this
     have h2:=hz.2
     rw [x2] at h2
     cases h2
    have hcov:CovS (BN es) (SP n (m+2 ^ x).testBit) x y:=by
     refine ⟨fun e=>(by
      subst e
      have h2:=hy.2
      rw [x2] at h2
      cases h2),hxt,(hmem y).2 (.inr hy),fun z hz hBz => ?_⟩
     rcases (hmem z).1 hz with rfl | h
     ·exact BN_symm es _ _ hB
     ·have e:z=y:=by
       apply Classical.byContradiction
       intro hne
       have h1:=ones_out (hnear y hy hB)
       have h2:0<onesP n (outP (frP n es m.testBit) y):=ones_pos.2 ⟨z,out_SP.2 ⟨hnear z h hBz,hne⟩⟩
       omega
      subst e
      exact BN_refl es z
    have hS:∀z,outS (SP n (m+2 ^ x).testBit) x z↔SP n m.testBit z:=fun z=>by
     constructor
     ·rintro ⟨h1,h2⟩
      exact ((hmem z).1 h1).resolve_left h2
     ·intro h
      exact ⟨(hmem z).2 (.inr h),fun e=>(by
       subst e
       have h2:=h.2
       rw [x2] at h2
       cases h2)⟩
    have hw:=ih m hm (by omega) (by omega) x5 ((con_out (BN_symm es) hcov hcon).congr hS)
    exact win_up (BN_refl es) (BN_symm es) hcov (hw.congr fun z=>(hS z).symm)
end Go.V.W
namespace Go.V.W
open Go.Proofs
theorem ones_cnt:∀m:Nat,m<256->F_q14q 0 (IntKind.wrap .u64 (m:Int),())=some (((setF m.testBit 8 0).length:Int),()):=by decide +kernel
theorem add_or:∀m:Nat,m<256 -> ∀x:Nat,x<8->m.testBit x=false->m|||2 ^ x=m+2 ^ x:=by decide +kernel
theorem net_at {l:List Int} (hn:netB l=true) {x:Nat} (hx:x<l.length):at_ I l x=(((fromI l).getD x 0:Nat):Int)/\(fromI l).getD x 0<256:=by
 obtain ⟨e,hm,h8,hb⟩:=netB_parts hn
 have h1:at_ I l x=at_ I (toI (fromI l)) x:=by rw [<- e]
 have hlt:x<(fromI l).length:=by rw [hm.1];exact hx
 have hlt2:x<(toI (fromI l)).length:=by rw [toI_len];exact hlt
 refine ⟨?_,hm.2 x⟩
 rw [h1,at_get (e:=I) hlt2]
 show (toI (fromI l))[x]=_
 simp only [toI,List.getElem_map,List.getD_eq_getElem?_getD,List.getElem?_eq_getElem hlt,Option.getD_some]
theorem andN_any {a b:Nat} (ha:a<256):(((andN a b:Nat):Int) != 0)=(List.range 8).any fun y=>a.testBit y && !b.testBit y:=by
 have hlt:andN a b<256:=andN_lt ha
 cases h:(List.range 8).any fun y=>a.testBit y && !b.testBit y with
 | false=>
  have:andN a b=0:=by
   apply Nat.eq_of_testBit_eq
   intro y
   rw [Nat.zero_testBit]
   by_cases hy:y<8
   ·rw [andN_bit a b y ha]
    rw [List.any_eq_false] at h
    simpa using h y (List.mem_range.2 hy)
   ·exact Nat.testBit_lt_two_pow (Nat.lt_of_lt_of_le hlt (show 2 ^ 8<=2 ^ y from Nat.pow_le_pow_right (by omega) (by omega)))
  rw [this]
  rfl
 | true=>
  obtain ⟨y,hy,h2⟩:=List.any_eq_true.1 h
  have:andN a b≠0:=fun e=>by
   have h3:=andN_bit a b y ha
   rw [e,Nat.zero_testBit] at h3
   rw [<- h3] at h2
   cases h2
  simpa using this
theorem nf_l0 (N:Nat) {l:List Int} (hn:netB l=true) (u:Unit) {m:Nat} (hm:m<256) (ys:List Int) (hl:ys.length<=8) (hys:∀z∈ys,∃y:Nat,y<l.length/\z=(y:Int)):∀(k i f o:Nat),i+k=ys.length->k<f->o<256 ->
  q46q_l0 N f ((m:Int),(l,u),(o:Int),ys,(ys.length:Int),(i:Int),())=some (.inl ((((ys.drop i).foldl (fun a z=>if ((List.range 8).any fun y=>((fromI l).getD z.toNat 0).testBit y && !m.testBit y)=true then a|||2 ^ z.toNat else a) o:Nat):Int),())):=by
 obtain ⟨e,hk,h8,hb⟩:=netB_parts hn
 intro k
 induction k with
 | zero=>
  intro i f o h1 h2 ho
  obtain ⟨f,rfl⟩:∃m,f=m+1:=⟨f-1,by omega⟩
  have e:i=ys.length:=by omega
  subst e
  rw [List.drop_of_length_le (Nat.le_refl _)]
  show q46q_l0_r _ _ _=_
  unfold q46q_l0_r
  simp only [lt_not,Bool.false_eq_true,if_false,List.foldl_nil]
 | succ k ih=>
  intro i f o h1 h2 ho
  obtain ⟨f,rfl⟩:∃m,f=m+1:=⟨f-1,by omega⟩
  have hi:i<ys.length:=by omega
  obtain ⟨y,hy,ey⟩:=hys ys[i] (List.getElem_mem hi)
  have hd:ys.drop i=(y:Int)::ys.drop (i+1):=by rw [List.drop_eq_getElem_cons hi,ey]
  have eat:at_ I ys i=(y:Int):=by rw [at_get (e:=I) hi];exact ey
  obtain ⟨n1,n2⟩:=net_at hn hy
  have hb1:bits .andNot .i64 (((fromI l).getD y 0:Nat):Int) (m:Int)=((andN ((fromI l).getD y 0) m:Nat):Int):=bits_andNot n2 hm
  have hy8:y<8:=by omega
  have hp:2 ^ y<256:=Nat.lt_of_lt_of_le (Nat.pow_lt_pow_right (by omega) hy8) (by omega)
  rw [hd]
  show q46q_l0_r _ _ _=_
  unfold q46q_l0_r
  simp only [lt_dec hi,if_true,idxIn_nat hi,Int.toNat_natCast,eat,idxIn_nat hy,n1,hb1,andN_any n2,nonneg_dec,shl_one hy8,bits_or ho hp,small_wrap (show i<=100000 by omega),List.foldl_cons]
  by_cases h:((List.range 8).any fun z=>((fromI l).getD y 0).testBit z && !m.testBit z)=true
  ·rw [if_pos h,if_pos h]
   exact ih (i+1) f _ (by omega) (by omega) (Nat.or_lt_two_pow (n:=8) ho hp)
  ·rw [if_neg h,if_neg h]
   exact ih (i+1) f _ (by omega) (by omega) ho
theorem setM_nodes {n m:Nat} (hm:m<2 ^ n):∀z∈setF (fun y=>m.testBit y) 8 0,∃y:Nat,y<n/\z=(y:Int):=fun z hz=>by
 obtain ⟨y,_,_,h,rfl⟩:=setF_mem.1 hz
 refine ⟨y,Classical.byContradiction fun hge => ?_,rfl⟩
 rw [Nat.testBit_lt_two_pow (Nat.lt_of_lt_of_le hm (Nat.pow_le_pow_right (by omega) (by omega)))] at h
 cases h
theorem netFront_some {l:List Int} (hn:netB l=true) (u v:Unit) {m:Nat} (hm:m<2 ^ l.length):G_netFront ((l,u),(m:Int),v)=some (((frN (fromI l) m:Nat):Int),()):=by
 unfold G_netFront
 simp only [hn,nonneg_dec,decide_eq_true (show (m:Int)<((2 ^ l.length:Nat):Int) by omega),Bool.and_self,if_true,Int.toNat_natCast]
theorem netFront_lim (d) (r) (h:G_netFront d=some r):∃N,F_q46q N d=some r:=by
 obtain ⟨⟨l,u⟩,s,v⟩:=d
 unfold G_netFront at h
 split at h
 ·rename_i hc
  simp only [Bool.and_eq_true,decide_eq_true_eq] at hc
  obtain ⟨⟨hn,h0⟩,hlt⟩:=hc
  cases h
  obtain ⟨m,rfl⟩:=nat_of h0
  obtain ⟨e,hk,h8,hb⟩:=netB_parts hn
  have hm:m<2 ^ l.length:=by omega
  have h256:=pow8 h8
  refine ⟨20,?_⟩
  unfold F_q46q
  have hlen:(setF (fun y=>m.testBit y) 8 0).length<=8:=setF_len
  have key:=nf_l0 20 hn u (show m<256 by omega) (setF (fun y=>m.testBit y) 8 0) hlen (setM_nodes hm) _ 0 20 0 (Nat.zero_add _) (by omega) (by omega)
  simp only [Int.natCast_zero,List.drop_zero] at key
  simp only [setOf_some (show m<256 by omega),Option.bind_some,key,Int.toNat_natCast]
  congr 3
  unfold frN maskN
  have hf:setF (frM (fromI l) m) 8 0=(setF (fun y=>m.testBit y) 8 0).filter (fun z=>(List.range 8).any fun y=>((fromI l).getD z.toNat 0).testBit y && !m.testBit y):=by
   rw [filter_setF]
   rfl
  rw [hf,List.foldl_filter]
 ·cases h
theorem frN_bits {ms:List Nat} {m:Nat}:frN ms m<256/\(setF (frN ms m).testBit 8 0).length=(setF (frM ms m) 8 0).length:=by
 have hM:=maskN_isM (n:=8) (Nat.le_refl _) (l:=setF (frM ms m) 8 0) (fun z hz=>by
  obtain ⟨y,_,h,_,rfl⟩:=setF_mem.1 hz
  omega)
 refine ⟨hM.1,?_⟩
 congr 1
 refine setF_congr fun y _ hy => ?_
 have:=hM.2 y
 unfold frN
 rw [this,decide_eq_true (show y<8 by omega),Bool.true_and]
 exact any_setF (by omega)
theorem size_some {l:List Int} (hn:netB l=true) (u v:Unit) {m x:Nat} (hm:m<2 ^ l.length) (hx:x<l.length) (hb:m.testBit x=false):F_q17q 0 ((l,u),(m:Int),(x:Int),v)=some (szM (fromI l) (m+2 ^ x),()):=by
 obtain ⟨e,hk,h8,_⟩:=netB_parts hn
 have h256:=pow8 h8
 have hp:2 ^ x<256:=Nat.lt_of_lt_of_le (Nat.pow_lt_pow_right (by omega) (show x<8 by omega)) (by omega)
 have hlt:=add_lt l.length (by omega) m hm x hx hb
 obtain ⟨f1,f2⟩:=frN_bits (ms:=fromI l) (m:=m+2 ^ x)
 unfold F_q17q
 simp only [nonneg_dec,if_true,shl_one (show x<8 by omega),bits_or (show m<256 by omega) hp,add_or m (by omega) x (by omega) hb,netFront_some hn u () hlt,Option.bind_some,ones_cnt _ f1]
 unfold szM
 rw [f2]
theorem bOr_fuel {n:Nat} (hn:n<=8) {sz:Nat->Int} (h0:∀m,0<=sz m) {k k' m:Nat} (hm:m<2 ^ n) (h1:n<=onesP n m.testBit+k) (h2:n<=onesP n m.testBit+k'):bOr n sz k m=bOr n sz k' m:=by
 have hb0:∀k m,0<=bOr n sz k m:=by
  intro k
  induction k with
  | zero=>intro m;exact Int.le_refl _
  | succ k ih=>
   intro m
   simp only [bOr]
   apply Classical.byContradiction
   intro hneg
   by_cases he:(List.range n).filter (fun x => !m.testBit x)=[]
   ·rw [he] at hneg;exact hneg (Int.le_refl _)
   ·obtain ⟨x,hx,hle⟩:=(minF_iff (f:=fun x=>if sz (m+2 ^ x)<bOr n sz k (m+2 ^ x) then bOr n sz k (m+2 ^ x) else sz (m+2 ^ x)) (v := -1) he).1 (by omega)
    have h1:=h0 (m+2 ^ x)
    have h2:=ih (m+2 ^ x)
    split at hle<;>omega
 have key:∀v:Int,0<=v->(bOr n sz k m<=v↔bOr n sz k' m<=v):=fun v hv=>(bOr_iff hn hv k m hm h1).trans (bOr_iff hn hv k' m hm h2).symm
 have e1:=(key _ (hb0 k m)).1 (Int.le_refl _)
 have e2:=(key _ (hb0 k' m)).2 (Int.le_refl _)
 omega
theorem at_set_ne {T:List Int} {i j:Nat} {c:Int} (h:i≠j):at_ I (List.set T i c) j=at_ I T j:=by
 unfold at_
 rw [List.getD_eq_getElem?_getD,List.getD_eq_getElem?_getD,List.getElem?_set_ne h]
theorem at_set_eq {T:List Int} {i:Nat} {c:Int} (h:i<T.length):at_ I (List.set T i c) i=c:=by
 unfold at_
 rw [List.getD_eq_getElem?_getD,List.getElem?_set_self h]
 rfl
def natL (ys:List Nat):List Int:=ys.map fun y:Nat=>(y:Int)
theorem bo_l2 (N:Nat) {l:List Int} (hn:netB l=true) (u v:Unit) (w:((Nt×Unit)×Unit)) (hw:w.1.1=(l,u)) (z0:Int) {m:Nat} (hm:m<2 ^ l.length) (ys:List Nat) (hl:ys.length<=8) (hys:∀x∈ys,x<l.length/\m.testBit x=false) (F:Nat->Int) :
  ∀(k i f:Nat) (T:List Int),i+k=ys.length->k<f->1<=i->T.length=2 ^ l.length->(∀x∈ys,at_ I T (m+2 ^ x)=F x) ->
  q5q_l2 N f (z0,w,(l,u),T,(m:Int),natL ys,((natL ys).length:Int),(i:Int),()) =
   some (.inl (z0,w,(l,u),List.set T m ((ys.drop i).foldl (fun b x=>if (if szM (fromI l) (m+2 ^ x)<F x then F x else szM (fromI l) (m+2 ^ x))<b then (if szM (fromI l) (m+2 ^ x)<F x then F x else szM (fromI l) (m+2 ^ x)) else b) (at_ I T m)),(m:Int),())):=by
 obtain ⟨e,hk,h8,hb⟩:=netB_parts hn
 have h256:=pow8 h8
 have hyl:(natL ys).length=ys.length:=by simp [natL]
 intro k
 induction k with
 | zero=>
  intro i f T h1 h2 hi1 hT hF
  obtain ⟨f,rfl⟩:∃m,f=m+1:=⟨f-1,by omega⟩
  have e:i=(natL ys).length:=by omega
  subst e
  have hmT:m<T.length:=by omega
  rw [List.drop_of_length_le (by omega),List.foldl_nil,at_get (e:=I) hmT]
  have hset:List.set T m (List.get T ⟨m,hmT⟩)=T:=List.set_getElem_self hmT
  rw [hset]
  show q5q_l2_r _ _ _=_
  unfold q5q_l2_r
  simp only [lt_not,Bool.false_eq_true,if_false]
 | succ k ih=>
  intro i f T h1 h2 hi1 hT hF
  obtain ⟨f,rfl⟩:∃m,f=m+1:=⟨f-1,by omega⟩
  have hi:i<(natL ys).length:=by omega
  have hi':i<ys.length:=by omega
  have eat:at_ I (natL ys) i=((ys[i]:Nat):Int):=by
   rw [at_get (e:=I) hi]
   show (natL ys)[i]=_
   simp [natL]
  have hd:ys.drop i=ys[i]::ys.drop (i+1):=List.drop_eq_getElem_cons hi'
  have hmem:ys[i]∈ys:=List.getElem_mem hi'
  have hF1:=hF _ hmem
  obtain ⟨x1,x2⟩:=hys _ hmem
  rw [hd]
  generalize ys[i]=x at eat hmem hF1 x1 x2
  have hlt:=add_lt l.length (by omega) m hm x x1 x2
  have hp:2 ^ x<256:=Nat.lt_of_lt_of_le (Nat.pow_lt_pow_right (by omega) (show x<8 by omega)) (by omega)
  have hFV:FV_q17q ((m:Int),(x:Int),w,())=some (szM (fromI l) (m+2 ^ x),()):=by
   unfold FV_q17q
   simp only [hw]
   exact size_some hn u _ hm x1 x2
  have hmT:m<T.length:=by omega
  have hxT:m+2 ^ x<T.length:=by omega
  have hor:bits .or .i64 (m:Int) ((2 ^ x:Nat):Int)=((m+2 ^ x:Nat):Int):=by rw [bits_or (by omega) hp,add_or m (by omega) x (by omega) x2]
  have hi0:((i:Int)==0)=false:=by simp;omega
  show q5q_l2_r _ _ _=_
  unfold q5q_l2_r
  simp only [lt_dec hi,if_true,idxIn_nat hi,Int.toNat_natCast,eat,hFV,Option.bind_some,nonneg_dec,shl_one (show x<8 by omega),hor,idxIn_nat hxT,hF1,hi0,Bool.false_eq_true,if_false,idxIn_nat hmT,small_wrap (show i<=100000 by omega),List.foldl_cons]
  generalize (if szM (fromI l) (m+2 ^ x)<F x then F x else szM (fromI l) (m+2 ^ x))=c
  by_cases hc:c<at_ I T m
  ·rw [if_pos (decide_eq_true hc),if_pos hc]
   have hF2:∀y∈ys,at_ I (List.set T m c) (m+2 ^ y)=F y:=fun y hy=>by
    have hne:m+2 ^ y≠m:=by have:=Nat.two_pow_pos y;omega
    have hyT:=add_lt l.length (by omega) m hm y (hys y hy).1 (hys y hy).2
    rw [<- hF y hy,at_set_ne (fun h=>hne h.symm)]
   have hat:at_ I (List.set T m c) m=c:=at_set_eq hmT
   refine (ih (i+1) f (List.set T m c) (by omega) (by omega) (by omega) (by rw [List.length_set];exact hT) hF2).trans ?_
   rw [hat,List.set_set]
  ·rw [if_neg (by simpa using hc),if_neg hc]
   exact ih (i+1) f T (by omega) (by omega) (by omega) hT hF
end Go.V.W
namespace Go.V.W
open Go.Proofs
theorem rest_list:∀n:Nat,n<9 -> ∀m:Nat,m<2 ^ n->setF (fun y=>(andN (2 ^ n-1) m).testBit y) 8 0=natL ((List.range n).filter fun x => !m.testBit x):=by decide +kernel
theorem szM_pos (ms:List Nat) (m:Nat):0<=szM ms m:=by unfold szM;omega
theorem bo_first (N:Nat) (hN:20<=N) {l:List Int} (hn:netB l=true) (u:Unit) (w:((Nt×Unit)×Unit)) (hw:w.1.1=(l,u)) {m:Nat} (hm:m<2 ^ l.length) (ys:List Nat) (hl:ys.length<=8) (hys:∀x∈ys,x<l.length/\m.testBit x=false) (F:Nat->Int)
  (T:List Int) (hT:T.length=2 ^ l.length) (hF:∀x∈ys,at_ I T (m+2 ^ x)=F x) :
  q5q_l2 N N (0,w,(l,u),List.set T m 0,(m:Int),natL ys,((natL ys).length:Int),0,()) =
   some (.inl (0,w,(l,u),List.set T m (minF (fun x=>if szM (fromI l) (m+2 ^ x)<F x then F x else szM (fromI l) (m+2 ^ x)) ys),(m:Int),())):=by
 obtain ⟨e,hk,h8,hb⟩:=netB_parts hn
 have h256:=pow8 h8
 obtain ⟨f,rfl⟩:∃f,N=f+1:=⟨N-1,by omega⟩
 match ys,hl,hys,hF with
 | [],_,_,_=>
  show q5q_l2_r _ _ _=_
  unfold q5q_l2_r
  rfl
 | x::ys,hl,hys,hF=>
  obtain ⟨x1,x2⟩:=hys x (List.mem_cons_self ..)
  have hlt:=add_lt l.length (by omega) m hm x x1 x2
  have hp:2 ^ x<256:=Nat.lt_of_lt_of_le (Nat.pow_lt_pow_right (by omega) (show x<8 by omega)) (by omega)
  have hFV:FV_q17q ((m:Int),(x:Int),w,())=some (szM (fromI l) (m+2 ^ x),()):=by
   unfold FV_q17q
   simp only [hw]
   exact size_some hn u _ hm x1 x2
  have hset:∀c,(List.set (List.set T m 0) m c)=List.set T m c:=fun c=>List.set_set ..
  have hmT:m<(List.set T m (0:Int)).length:=by rw [List.length_set];omega
  have hxT:m+2 ^ x<(List.set T m (0:Int)).length:=by rw [List.length_set];omega
  have hor:bits .or .i64 (m:Int) ((2 ^ x:Nat):Int)=((m+2 ^ x:Nat):Int):=by rw [bits_or (by omega) hp,add_or m (by omega) x (by omega) x2]
  have hi:0<(natL (x::ys)).length:=by simp [natL]
  have eat:at_ I (natL (x::ys)) 0=(x:Int):=rfl
  have hne:∀y,m≠m+2 ^ y:=fun y=>by have:=Nat.two_pow_pos y;omega
  have hF0:at_ I (List.set T m 0) (m+2 ^ x)=F x:=by rw [at_set_ne (hne x)];exact hF x (List.mem_cons_self ..)
  have hl0:decide ((0:Int)<((natL (x::ys)).length:Int))=true:=decide_eq_true (by omega)
  have hi0:idxIn (0:Int) (natL (x::ys)).length=true:=idxIn_nat (i:=0) hi
  have w1:IntKind.wrap .i64 ((0:Int)+1)=((1:Nat):Int):=rfl
  have z0:(0:Int).toNat=0:=rfl
  show q5q_l2_r _ _ _=_
  unfold q5q_l2_r
  simp only [hl0,if_true,hi0,z0,eat,hFV,Option.bind_some,nonneg_dec,Int.toNat_natCast,shl_one (show x<8 by omega),hor,idxIn_nat hxT,hF0,beq_self_eq_true,idxIn_nat hmT,w1,hset]
  have key:=bo_l2 (f+1) hn u () w hw 0 hm (x::ys) hl hys F ys.length 1 f (List.set T m (if szM (fromI l) (m+2 ^ x)<F x then F x else szM (fromI l) (m+2 ^ x))) (by simp;omega) (by simp only [List.length_cons] at hl;omega) (by omega) (by rw [List.length_set];exact hT) (fun y hy=>by rw [at_set_ne (hne y)];exact hF y hy)
  refine key.trans ?_
  rw [at_set_eq (by omega),List.set_set]
  rfl
theorem bo_l0 (N:Nat) (hN:20<=N) {l:List Int} (hn:netB l=true) (u:Unit) (w:((Nt×Unit)×Unit)) (hw:w.1.1=(l,u)):∀(k f:Nat) (T:List Int),k<=2 ^ l.length->k<f->T.length=2 ^ l.length->(∀j,k<=j->j<2 ^ l.length->at_ I T j=bOr l.length (szM (fromI l)) 8 j) ->
  q5q_l0 N f (0,w,(l,u),T,((k:Int)-1),())=some (.inl ((List.range (2 ^ l.length)).map (bOr l.length (szM (fromI l)) 8),())):=by
 obtain ⟨e,hk,h8,hb⟩:=netB_parts hn
 have h256:=pow8 h8
 intro k
 induction k with
 | zero=>
  intro f T h1 h2 hT hj
  obtain ⟨f,rfl⟩:∃m,f=m+1:=⟨f-1,by omega⟩
  have hTe:T=(List.range (2 ^ l.length)).map (bOr l.length (szM (fromI l)) 8):=by
   apply List.ext_getElem
   ·rw [List.length_map,List.length_range,hT]
   ·intro i h3 h4
    have:=hj i (by omega) (by omega)
    rw [at_get (e:=I) h3] at this
    simp only [List.getElem_map,List.getElem_range]
    exact this
  show q5q_l0_r _ _ _=_
  unfold q5q_l0_r
  have e0:decide ((((0:Nat):Int)-1)>=0)=false:=rfl
  simp only [e0,Bool.false_eq_true,if_false,<- hTe]
 | succ k ih=>
  intro f T h1 h2 hT hj
  obtain ⟨f,rfl⟩:∃m,f=m+1:=⟨f-1,by omega⟩
  have hm:k<2 ^ l.length:=by omega
  have ek:(((k+1:Nat):Int)-1)=(k:Int):=by omega
  have hkT:k<T.length:=by omega
  have hor:bits .andNot .i64 ((2 ^ l.length-1:Nat):Int) (k:Int)=((andN (2 ^ l.length-1) k:Nat):Int):=bits_andNot (by omega) (by omega)
  have hand:andN (2 ^ l.length-1) k<256:=andN_lt (by omega)
  have hys:∀x∈(List.range l.length).filter (fun x => !k.testBit x),x<l.length/\k.testBit x=false:=fun x hx=>mem_out.1 hx
  have hyl:((List.range l.length).filter (fun x => !k.testBit x)).length<=8:=Nat.le_trans (List.length_filter_le ..) (by simp;omega)
  have key:=bo_first N hN hn u w hw hm _ hyl hys (fun x=>bOr l.length (szM (fromI l)) 8 (k+2 ^ x)) T hT (fun x hx=>by
   obtain ⟨x1,x2⟩:=hys x hx
   have:=Nat.two_pow_pos x
   exact hj _ (by omega) (add_lt l.length (by omega) k hm x x1 x2))
  have hval:minF (fun x=>if szM (fromI l) (k+2 ^ x)<bOr l.length (szM (fromI l)) 8 (k+2 ^ x) then bOr l.length (szM (fromI l)) 8 (k+2 ^ x) else szM (fromI l) (k+2 ^ x)) ((List.range l.length).filter fun x => !k.testBit x)=bOr l.length (szM (fromI l)) 8 k:=by
   show _=minF _ _
   refine minF_congr fun x hx => ?_
   obtain ⟨x1,x2⟩:=hys x hx
   have h3:=ones_add h8 hm x1 x2
   rw [bOr_fuel h8 (szM_pos (fromI l)) (k:=8) (k':=7) (add_lt l.length (by omega) k hm x x1 x2) (by omega) (by omega)]
  rw [hval] at key
  have w1:IntKind.wrap .i64 ((k:Int)-1)=(k:Int)-1:=wrap_in _ (by omega) (by omega)
  have hge:decide ((k:Int)>=0)=true:=decide_eq_true (by omega)
  show q5q_l0_r _ _ _=_
  unfold q5q_l0_r
  simp only [ek,hge,if_true,idxIn_nat hkT,all_mask2 h8,Option.bind_some,hor,setOf_some hand,rest_list l.length (by omega) k hm,Int.toNat_natCast,key,w1]
  refine ih f _ (by omega) (by omega) (by rw [List.length_set];exact hT) fun j h3 h4 => ?_
  by_cases e:k=j
  ·subst e
   exact at_set_eq hkT
  ·rw [at_set_ne e]
   exact hj j (by omega) h4
theorem bestO_lim (d) (r) (h:G_bestO d=some r):∃N,F_q5q N d=some r:=by
 obtain ⟨⟨l,u⟩,z,w,v⟩:=d
 unfold G_bestO at h
 split at h
 ·rename_i hc
  simp only [Bool.and_eq_true,decide_eq_true_eq] at hc
  obtain ⟨⟨hn,rfl⟩,hw⟩:=hc
  cases h
  obtain ⟨e,hk,h8,hb⟩:=netB_parts hn
  have h256:=pow8 h8
  have hp:=Nat.two_pow_pos l.length
  have hw2:w.1.1=(l,u):=by
   obtain ⟨⟨⟨l',u'⟩,_⟩,_⟩:=w
   have hw:l'=l:=hw
   subst hw
   rfl
  refine ⟨300,?_⟩
  have w1:IntKind.wrap .i64 (((2 ^ l.length-1:Nat):Int)+1)=((2 ^ l.length:Nat):Int):=by rw [wrap_in _ (by omega) (by omega)];omega
  have hlim:(decide (0<=((2 ^ l.length:Nat):Int))&&decide (((2 ^ l.length:Nat):Int)<=((2 ^ l.length:Nat):Int))&&decide (((2 ^ l.length:Nat):Int)<=(lim:Int)))=true:=by
   have a1:((2 ^ l.length:Nat):Int)<=(lim:Int):=by unfold lim;omega
   simp only [a1,nonneg_dec,decide_true,Bool.and_self,Int.le_refl]
  have key:=bo_l0 300 (by omega) hn u w hw2 (2 ^ l.length) 300 (List.replicate (2 ^ l.length) 0) (Nat.le_refl _) (by omega) (by simp) (fun j h1 h2=>by omega)
  have e1:(((2 ^ l.length:Nat):Int)-1)=((2 ^ l.length-1:Nat):Int):=by omega
  rw [e1] at key
  unfold F_q5q
  simp only [all_mask2 h8,Option.bind_some,w1,hlim,if_true,Int.toNat_natCast,key]
 ·cases h
theorem near_G2 {g:Gr} (ho:okL g.2.1=true) (a b:Int) (u:Unit):G_l2Near (g,a,b,u)=some (nearI g.2.1 a b,()):=by
 unfold G_l2Near
 simp only [ho,if_true]
theorem lf_l2 (N:Nat) {g:Gr} {n:Nat} (hg:g.1=(n:Int)) (hn:n<=8) (ho:okL g.2.1=true) (p:Nat->Bool) {i x:Nat} (hi:i<(setF p n 0).length) (hx:at_ I (setF p n 0) i=(x:Int)) (hxn:x<n):∀(k y f:Nat) (q:Nat->Bool),y+k=n->k<f ->
  ∃q':Nat->Bool,q61q_l2 N f (setF p n 0,g,setF q n 0,(i:Int),(y:Int),())=some (.inl (setF p n 0,g,setF q' n 0,(i:Int),())) /\ ∀z,z<n->q' z=(q z||(decide (z=x)&&(List.range' y k).any fun w=>nearI g.2.1 (x:Int) (w:Int) && !p w)):=by
 intro k
 induction k with
 | zero=>
  intro y f q h1 h2
  obtain ⟨f,rfl⟩:∃m,f=m+1:=⟨f-1,by omega⟩
  have e:y=n:=by omega
  subst e
  refine ⟨q,?_,fun z hz=>by simp⟩
  show q61q_l2_r _ _ _=_
  unfold q61q_l2_r
  simp only [hg,lt_not,Bool.false_eq_true,if_false]
 | succ k ih=>
  intro y f q h1 h2
  obtain ⟨f,rfl⟩:∃m,f=m+1:=⟨f-1,by omega⟩
  have hy:y<n:=by omega
  have hok:okS1 (setF q n 0)=true:=decide_eq_true (Nat.le_trans setF_len (by omega))
  have hput:G_l1Put (setF q n 0,(x:Int),())=some (setF (fun z=>q z||decide (z=x)) n 0,()):=by
   unfold G_l1Put
   simp only [hok,if_true]
   rw [putL_set (Nat.zero_le _) (by omega)]
  have step:q61q_l2 N (f+1) (setF p n 0,g,setF q n 0,(i:Int),(y:Int),())=q61q_l2 N f (setF p n 0,g,setF (fun z=>q z||(decide (z=x)&&(nearI g.2.1 (x:Int) (y:Int) && !p y))) n 0,(i:Int),((y+1:Nat):Int),()):=by
   show q61q_l2_r _ _ _=_
   unfold q61q_l2_r
   simp only [hg,lt_dec hy,if_true,idxIn_nat hi,Int.toNat_natCast,hx,near_G2 ho,Option.bind_some,has_setF hn hy,hput,wrap8 hy hn]
   cases h1:nearI g.2.1 (x:Int) (y:Int) with
   | false=>
    simp only [Bool.false_eq_true,if_false,Bool.false_and,Bool.and_false,Bool.or_false]
   | true=>
    cases h2:p y with
    | true=>simp only [if_true,Bool.not_true,Bool.false_eq_true,if_false,Bool.and_false,Bool.or_false]
    | false=>simp only [if_true,Bool.not_false,Bool.and_true]
  obtain ⟨q',e1,e2⟩:=ih (y+1) f (fun z=>q z||(decide (z=x)&&(nearI g.2.1 (x:Int) (y:Int) && !p y))) (by omega) (by omega)
  refine ⟨q',step.trans e1,fun z hz => ?_⟩
  rw [e2 z hz,List.range'_succ,List.any_cons]
  cases q z<;>cases decide (z=x)<;>simp
theorem lf_l0 (N:Nat) (hN:20<=N) {g:Gr} {n:Nat} (hg:g.1=(n:Int)) (hn:n<=8) (ho:okL g.2.1=true) (p:Nat->Bool):∀(k i f:Nat) (q:Nat->Bool),i+k=(setF p n 0).length->k<f ->
  ∃q':Nat->Bool,q61q_l0 N f (setF p n 0,g,setF q n 0,(i:Int),())=some (.inl (setF q' n 0,())) /\ ∀z,z<n->q' z=(q z||(((setF p n 0).drop i).any (fun w=>w==(z:Int))&&(List.range n).any fun w=>nearI g.2.1 (z:Int) (w:Int) && !p w)):=by
 have hlen:(setF p n 0).length<=n:=setF_len
 intro k
 induction k with
 | zero=>
  intro i f q h1 h2
  obtain ⟨f,rfl⟩:∃m,f=m+1:=⟨f-1,by omega⟩
  have e:i=(setF p n 0).length:=by omega
  subst e
  refine ⟨q,?_,fun z hz=>by rw [List.drop_of_length_le (Nat.le_refl _)];simp⟩
  show q61q_l0_r _ _ _=_
  unfold q61q_l0_r
  simp only [lt_not,Bool.false_eq_true,if_false]
 | succ k ih=>
  intro i f q h1 h2
  obtain ⟨f,rfl⟩:∃m,f=m+1:=⟨f-1,by omega⟩
  have hi:i<(setF p n 0).length:=by omega
  obtain ⟨x,_,hx0,hpx,hx⟩:=setF_mem.1 (List.getElem_mem hi)
  have hxn:x<n:=by omega
  have hat:at_ I (setF p n 0) i=(x:Int):=by rw [at_get (e:=I) hi];exact hx
  obtain ⟨q1,e1,e2⟩:=lf_l2 N hg hn ho p hi hat hxn n 0 N q (Nat.zero_add _) (by omega)
  simp only [Int.natCast_zero] at e1
  obtain ⟨q2,e3,e4⟩:=ih (i+1) f q1 (by omega) (by omega)
  refine ⟨q2,?_,fun z hz => ?_⟩
  ·show q61q_l0_r _ _ _=_
   unfold q61q_l0_r
   simp only [lt_dec hi,if_true,e1,Option.bind_some,small_wrap (show i<=100000 by omega)]
   exact e3
  ·rw [e4 z hz,e2 z hz,List.drop_eq_getElem_cons hi,List.any_cons,hx,<- List.range_eq_range']
   by_cases e:z=x
   ·subst e
    have eb1:((z:Int)==(z:Int))=true:=by simp
    have eb2:decide (z=z)=true:=decide_eq_true rfl
    rw [eb1,eb2]
    generalize ((List.range n).any fun w=>nearI g.2.1 (z:Int) (w:Int) && !p w)=A
    generalize ((setF p n 0).drop (i+1)).any (fun w=>w==(z:Int))=D
    cases q z<;>cases A<;>cases D<;>rfl
   ·have e5:((x:Int)==(z:Int))=false:=by simp;omega
    have e6:decide (z=x)=false:=decide_eq_false e
    rw [e5,e6]
    simp
theorem front_some {g:Gr} {n:Nat} (hg:grB g=true) (hgn:g.1=(n:Int)) (hn:n<=8) (p:Nat->Bool) (u:Unit):G_l6Front (g,setF p n 0,u)=some (setF (frP n g.2.1 p) n 0,()):=by
 have hh:∀y,y<n->hasL (setF p n 0) (y:Int)=p y:=fun y hy=>any_setF hy
 have e1:setF p n 0=setF (fun y=>hasL (setF p n 0) (y:Int)) n 0:=setF_congr fun y _ hy=>(hh y (by omega)).symm
 have e2:setF (frP n g.2.1 fun y=>hasL (setF p n 0) (y:Int)) n 0=setF (frP n g.2.1 p) n 0:=setF_congr fun y _ hy=>by
  show (hasL (setF p n 0) (y:Int)&&(List.range n).any fun w=>nearI g.2.1 (y:Int) (w:Int) && !hasL (setF p n 0) (w:Int))=(p y&&(List.range n).any fun w=>nearI g.2.1 (y:Int) (w:Int) && !p w)
  rw [hh y (by omega)]
  congr 1
  rw [Bool.eq_iff_iff,List.any_eq_true,List.any_eq_true]
  constructor
  ·rintro ⟨w,hw,h⟩
   have h:(nearI g.2.1 (y:Int) (w:Int) && !hasL (setF p n 0) (w:Int))=true:=h
   rw [hh w (List.mem_range.1 hw)] at h
   exact ⟨w,hw,h⟩
  ·rintro ⟨w,hw,h⟩
   have h:(nearI g.2.1 (y:Int) (w:Int) && !p w)=true:=h
   rw [<- hh w (List.mem_range.1 hw)] at h
   exact ⟨w,hw,h⟩
 have hd:decide (setF p n 0=setF (fun y=>hasL (setF p n 0) (y:Int)) n 0)=true:=decide_eq_true e1
 unfold G_l6Front
 simp only [hg,hgn,Int.toNat_natCast,hd,Bool.and_self,if_true,e2]
theorem l6Front_lim (d) (r) (h:G_l6Front d=some r):∃N,F_q61q N d=some r:=by
 obtain ⟨⟨n,es,v⟩,L,u⟩:=d
 unfold G_l6Front at h
 split at h
 ·rename_i hc
  simp only [Bool.and_eq_true,decide_eq_true_eq] at hc
  obtain ⟨hg,hL⟩:=hc
  cases h
  have hg2:=hg
  unfold grB at hg2
  simp only [Bool.and_eq_true,decide_eq_true_eq] at hg2
  obtain ⟨⟨⟨ho,h0⟩,h8⟩,_⟩:=hg2
  obtain ⟨m,rfl⟩:=nat_of h0
  simp only [Int.toNat_natCast] at hL |-
  have m8:m<=8:=by omega
  refine ⟨20,?_⟩
  generalize hp:(fun y:Nat=>hasL L (y:Int))=p at hL |-
  subst hL
  obtain ⟨q',e1,e2⟩:=lf_l0 20 (by omega) (g:=((m:Int),es,v)) rfl m8 ho p (setF p m 0).length 0 20 (fun _=>false) (Nat.zero_add _) (by have:=setF_len (p:=p) (k:=m) (x:=0);omega)
  rw [setF_empty] at e1
  simp only [Int.natCast_zero] at e1
  have e3:setF q' m 0=setF (frP m es p) m 0:=setF_congr fun z _ hz=>by
   rw [e2 z (by omega),List.drop_zero,any_setF (by omega),Bool.false_or]
   rfl
  unfold F_q61q
  simp only [e1,Option.bind_some,e3]
 ·cases h
end Go.V.W
namespace Go.V.W
open Go.Proofs
theorem minF_snoc {f:Nat->Int} {l:List Nat} (hl:l≠[]) (x:Nat):minF f (l++[x])=if f x<minF f l then f x else minF f l:=by
 match l,hl with
 | a::l,_=>
  show (l++[x]).foldl _ (f a)=_
  rw [List.foldl_append]
  rfl
theorem minF_pos {f:Nat->Int} (h:∀x,0<=f x) (l:List Nat):0<=minF f l:=by
 cases l with
 | nil=>exact Int.le_refl _
 | cons a l=>
  apply Classical.byContradiction
  intro hn
  obtain ⟨x,_,hx⟩:=(minF_iff (f:=f) (v := -1) (l:=a::l) (by simp)).1 (by omega)
  have:=h x
  omega
theorem wOr_pos {n:Nat} {sz:Nat->Int} (h0:∀m,0<=sz m):∀k m,0<=wOr n sz k m:=by
 intro k
 induction k with
 | zero=>intro m;exact Int.le_refl _
 | succ k ih=>
  intro m
  simp only [wOr]
  have:=h0 m
  have:=minF_pos (f:=fun x=>wOr n sz k (m-2 ^ x)) (fun x=>ih _) ((List.range n).filter fun x=>m.testBit x)
  by_cases hm:m=0
  ·rw [if_pos hm];exact Int.le_refl _
  ·rw [if_neg hm]
   split<;>omega
theorem wOr_fuel {n:Nat} (hn:n<=8) {sz:Nat->Int} (h0:∀m,0<=sz m) {k k' m:Nat} (hm:m<2 ^ n) (h1:onesP n m.testBit<=k) (h2:onesP n m.testBit<=k'):wOr n sz k m=wOr n sz k' m:=by
 have key:∀v:Int,0<=v->(wOr n sz k m<=v↔wOr n sz k' m<=v):=fun v hv=>(wOr_iff hn hv k m hm h1).trans (wOr_iff hn hv k' m hm h2).symm
 have e1:=(key _ (wOr_pos h0 k m)).1 (Int.le_refl _)
 have e2:=(key _ (wOr_pos h0 k' m)).2 (Int.le_refl _)
 omega
theorem shl_n:∀n:Nat,n<9->shl .i64 1 (n:Int)=((2 ^ n:Nat):Int):=by decide +kernel
theorem ones_le {n m:Nat}:onesP n m.testBit<=n:=by
 have:=ones_mono (n:=n) (p:=m.testBit) (q:=fun _=>true) fun _ _ _=>rfl
 rwa [ones_all] at this
def bst (f:Nat->Int) (m x:Nat):Int:=if (List.range x).filter (fun y=>m.testBit y)=[] then -1 else minF f ((List.range x).filter fun y=>m.testBit y)
theorem bst_next {f:Nat->Int} {m x:Nat}:bst f m (x+1)=if m.testBit x=true then (if bst f m x<0/\(List.range x).filter (fun y=>m.testBit y)=[] then f x else if f x<bst f m x then f x else bst f m x) else bst f m x:=by
 unfold bst
 rw [List.range_succ,List.filter_append]
 by_cases h:m.testBit x=true
 ·have e:[x].filter (fun y=>m.testBit y)=[x]:=by simp [h]
  rw [if_pos h,e]
  by_cases he:(List.range x).filter (fun y=>m.testBit y)=[]
  ·rw [he]
   simp [minF]
  ·rw [if_neg he,if_neg (by simp),minF_snoc he,if_neg (show ¬(minF f ((List.range x).filter fun y=>m.testBit y)<0/\(List.range x).filter (fun y=>m.testBit y)=[]) from fun h=>he h.2)]
 ·have e:[x].filter (fun y=>m.testBit y)=[]:=by simp [h]
  rw [if_neg h,e,List.append_nil]
theorem lwd_l2 (N:Nat) {g:Gr} {n:Nat} (hg:g.1=(n:Int)) (hn:n<=8) {m:Nat} (hm:m<2 ^ n) (T:List Int) (hT:T.length=m) (F:Nat->Int) (hF0:∀x,0<=F x) (hF:∀x,x<n->m.testBit x=true->at_ I T (m-2 ^ x)=F x):∀(k x f:Nat),x+k=n->k<f ->
  q51q_l2 N f (g,T,(m:Int),bst F m x,(x:Int),())=some (.inl (g,T,(m:Int),bst F m n,())):=by
 have h256:=pow8 hn
 intro k
 induction k with
 | zero=>
  intro x f h1 h2
  obtain ⟨f,rfl⟩:∃m,f=m+1:=⟨f-1,by omega⟩
  have e:x=n:=by omega
  subst e
  show q51q_l2_r _ _ _=_
  unfold q51q_l2_r
  simp only [hg,lt_not,Bool.false_eq_true,if_false]
 | succ k ih=>
  intro x f h1 h2
  obtain ⟨f,rfl⟩:∃m,f=m+1:=⟨f-1,by omega⟩
  have hx:x<n:=by omega
  have hih:=ih (x+1) f (by omega) (by omega)
  rw [bst_next] at hih
  show q51q_l2_r _ _ _=_
  unfold q51q_l2_r
  simp only [hg,lt_dec hx,if_true,nonneg_dec,has_bit (show m<256 by omega) (show x<8 by omega),wrap8 hx hn]
  by_cases hb:m.testBit x=true
  ·have hp:=Nat.two_pow_pos x
   obtain ⟨s1,s2⟩:=sub_add m (by omega) x (by omega) hb
   have w1:IntKind.wrap .i64 ((m:Int)-((2 ^ x:Nat):Int))=((m-2 ^ x:Nat):Int):=by rw [wrap_in _ (by omega) (by omega)];omega
   have hiT:m-2 ^ x<T.length:=by omega
   rw [if_pos hb] at hih |-
   have hneg:bst F m x<0↔(List.range x).filter (fun y=>m.testBit y)=[]:=by
    unfold bst
    by_cases he:(List.range x).filter (fun y=>m.testBit y)=[]
    ·simp [he]
    ·rw [if_neg he]
     have:=minF_pos hF0 ((List.range x).filter fun y=>m.testBit y)
     exact ⟨fun h=>by omega,fun h=>absurd h he⟩
   simp only [shl_one (show x<8 by omega),w1,idxIn_nat hiT,if_true,Int.toNat_natCast,hF x hx hb]
   by_cases hq:bst F m x<0
   ·rw [if_pos ⟨hq,hneg.1 hq⟩] at hih
    rw [if_pos (decide_eq_true hq)]
    exact hih
   ·rw [if_neg (fun h=>hq h.1)] at hih
    rw [if_neg (by simpa using hq)]
    by_cases hf:F x<bst F m x
    ·rw [if_pos hf] at hih
     rw [if_pos (decide_eq_true hf)]
     exact hih
    ·rw [if_neg hf] at hih
     rw [if_neg (by simpa using hf)]
     exact hih
  ·rw [if_neg hb] at hih |-
   exact hih
theorem szP_pos (n:Nat) (es:List E) (m:Nat):0<=szP n es m:=by unfold szP;omega
theorem lwd_l0 (N:Nat) (hN:20<=N) {n:Nat} {es:List E} {v:Unit} (hg:grB ((n:Int),es,v)=true) (hn:n<=8):∀(k c f:Nat),c+k=2 ^ n->k<f->1<=c ->
  q51q_l0 N f (((n:Int),es,v),(List.range c).map (wOr n (szP n es) 8),(c:Int),())=some (.inl ((List.range (2 ^ n)).map (wOr n (szP n es) 8),())):=by
 have h256:=pow8 hn
 intro k
 induction k with
 | zero=>
  intro c f h1 h2 hc
  obtain ⟨f,rfl⟩:∃m,f=m+1:=⟨f-1,by omega⟩
  have e:c=2 ^ n:=by omega
  subst e
  show q51q_l0_r _ _ _=_
  unfold q51q_l0_r
  simp only [nonneg_dec,if_true,shl_n n (by omega),lt_not,Bool.false_eq_true,if_false]
 | succ k ih=>
  intro c f h1 h2 hc
  obtain ⟨f,rfl⟩:∃m,f=m+1:=⟨f-1,by omega⟩
  have hlt:c<2 ^ n:=by omega
  have hT:((List.range c).map (wOr n (szP n es) 8)).length=c:=by simp
  have h3:=lwd_l2 N (g:=((n:Int),es,v)) rfl hn hlt _ hT (fun x=>wOr n (szP n es) 8 (c-2 ^ x)) (fun x=>wOr_pos (szP_pos n es) _ _) (fun x hx hb=>by
   have hp:=Nat.two_pow_pos x
   obtain ⟨s1,_⟩:=sub_add c (by omega) x (by omega) hb
   have hi:c-2 ^ x<((List.range c).map (wOr n (szP n es) 8)).length:=by rw [hT];omega
   rw [at_get (e:=I) hi]
   simp) n 0 N (Nat.zero_add _) (by omega)
  have hb0:bst (fun x=>wOr n (szP n es) 8 (c-2 ^ x)) c 0 = -1:=rfl
  rw [hb0] at h3
  simp only [Int.natCast_zero] at h3
  have i1:inB 0 8 (n:Int)=true:=inB_iff.2 (by omega)
  have i2:inB 0 255 (c:Int)=true:=inB_iff.2 (by omega)
  have hbits:G_l2Bits ((n:Int),(c:Int),())=some (setF c.testBit n 0,()):=by
   unfold G_l2Bits
   simp only [i1,i2,Bool.and_self,if_true,Int.toNat_natCast]
  have hne:(List.range n).filter (fun x=>c.testBit x)≠[]:=fun he=>by
   have:=(zero_iff n (by omega) c hlt).1 he
   omega
  have hval:(if bst (fun x=>wOr n (szP n es) 8 (c-2 ^ x)) c n<((setF (frP n es c.testBit) n 0).length:Int) then ((setF (frP n es c.testBit) n 0).length:Int) else bst (fun x=>wOr n (szP n es) 8 (c-2 ^ x)) c n)=wOr n (szP n es) 8 c:=by
   have e1:bst (fun x=>wOr n (szP n es) 8 (c-2 ^ x)) c n=minF (fun x=>wOr n (szP n es) 7 (c-2 ^ x)) ((List.range n).filter fun x=>c.testBit x):=by
    unfold bst
    rw [if_neg hne]
    refine minF_congr fun x hx => ?_
    obtain ⟨x1,x2⟩:=mem_in.1 hx
    have h4:=ones_sub hn (show c<256 by omega) x1 x2
    have h5:=ones_le (n:=n) (m:=c)
    exact wOr_fuel hn (szP_pos n es) (Nat.lt_of_le_of_lt (Nat.sub_le _ _) hlt) (by omega) (by omega)
   have e3:wOr n (szP n es) 8 c=if minF (fun x=>wOr n (szP n es) 7 (c-2 ^ x)) ((List.range n).filter fun x=>c.testBit x)<szP n es c then szP n es c else minF (fun x=>wOr n (szP n es) 7 (c-2 ^ x)) ((List.range n).filter fun x=>c.testBit x):=by
    show (if c=0 then 0 else _)=_
    rw [if_neg (show ¬c=0 by omega)]
   rw [e1,e3]
   rfl
  have hl:decide (((List.range c).map (wOr n (szP n es) 8)).length+List.length [wOr n (szP n es) 8 c]<=lim)=true:=decide_eq_true (by unfold lim;simp;omega)
  have hap:(List.range c).map (wOr n (szP n es) 8)++[wOr n (szP n es) 8 c]=(List.range (c+1)).map (wOr n (szP n es) 8):=by
   rw [List.range_succ,List.map_append]
   rfl
  show q51q_l0_r _ _ _=_
  unfold q51q_l0_r
  simp only [nonneg_dec,if_true,shl_n n (by omega),lt_dec hlt,h3,Option.bind_some,hbits,front_some hg rfl hn,most_eq,hval,hl,hap,small_wrap (show c<=100000 by omega)]
  exact ih (c+1) f (by omega) (by omega) (by omega)
theorem widths_lim (d) (r) (h:G_widths d=some r):∃N,F_q51q N d=some r:=by
 obtain ⟨⟨n,es,v⟩,u⟩:=d
 unfold G_widths at h
 split at h
 ·rename_i hg
  have hg:grB (n,es,v)=true:=hg
  cases h
  have hg2:=hg
  unfold grB at hg2
  simp only [Bool.and_eq_true,decide_eq_true_eq] at hg2
  obtain ⟨⟨⟨ho,h0⟩,h8⟩,_⟩:=hg2
  obtain ⟨m,rfl⟩:=nat_of h0
  have m8:m<=8:=by omega
  have h256:=pow8 m8
  have hp:=Nat.two_pow_pos m
  refine ⟨300,?_⟩
  have key:=lwd_l0 300 (by omega) hg m8 (2 ^ m-1) 1 300 (by omega) (by omega) (Nat.le_refl _)
  have e1:(List.range 1).map (wOr m (szP m es) 8)=[(0:Int)]:=rfl
  rw [e1] at key
  simp only [Int.natCast_one] at key
  unfold F_q51q
  simp only [key,Option.bind_some,Int.toNat_natCast]
 ·cases h
theorem fromI_net (ms:List Nat):fromI (toI ms)=ms:=by
 unfold fromI toI
 rw [List.map_map]
 have:(Int.toNat∘fun m:Nat=>(m:Int))=id:=by funext m;simp
 rw [this,List.map_id]
theorem bOr_congr {n:Nat} (hn:n<=8) {sz sz':Nat->Int} (h:∀m,m<2 ^ n->sz m=sz' m):∀k m,m<2 ^ n->bOr n sz k m=bOr n sz' k m:=by
 intro k
 induction k with
 | zero=>intro m _;rfl
 | succ k ih=>
  intro m hm
  simp only [bOr]
  refine minF_congr fun x hx => ?_
  obtain ⟨x1,x2⟩:=mem_out.1 hx
  have hlt:=add_lt n (by omega) m hm x x1 x2
  rw [h _ hlt,ih _ hlt]
theorem sz_same {n:Nat} (hn:n<=8) {es:List E} (h:es.all (edgeB (n:Int))=true) {m:Nat} (hm:m<2 ^ n):szM (netN n es) m=szP n es m:=by
 unfold szM szP
 have e1:setF (frM (netN n es) m) 8 0=setF (frP n es m.testBit) n 0:=by
  have hlen:(8:Nat)=n+(8-n):=by omega
  rw [hlen,setF_split]
  have e2:setF (frM (netN n es) m) (8-n) (0+n)=[]:=by
   rw [List.eq_nil_iff_forall_not_mem]
   intro z hz
   obtain ⟨y,y1,y2,h2,_⟩:=setF_mem.1 hz
   unfold frM at h2
   rw [Bool.and_eq_true] at h2
   rw [Nat.testBit_lt_two_pow (Nat.lt_of_lt_of_le hm (Nat.pow_le_pow_right (by omega) (by omega)))] at h2
   cases h2.1
  rw [e2,List.append_nil]
  refine setF_congr fun x _ hx => ?_
  unfold frM frP
  congr 1
  rw [Bool.eq_iff_iff,List.any_eq_true,List.any_eq_true]
  have hb:∀y,((netN n es).getD x 0).testBit y=nearI es (x:Int) (y:Int):=fun y=>by
   have:=netN_bit hn h x y
   unfold hasN at this
   rw [this,isE_near es h]
  constructor
  ·rintro ⟨y,hy,h2⟩
   rw [hb y] at h2
   have h3:=h2
   rw [Bool.and_eq_true] at h3
   exact ⟨y,List.mem_range.2 (near_lt h h3.1),h2⟩
  ·rintro ⟨y,hy,h2⟩
   exact ⟨y,List.mem_range.2 (by have:=List.mem_range.1 hy;omega),by rw [hb y];exact h2⟩
 rw [e1]
def pwI (n:Nat) (es:List E):Int:=wOr n (szP n es) 8 (2 ^ n-1)
theorem implPW {m:Nat} {es:List E} {v:Unit} (hg:graphB ((m:Int),es,v)=true) (ho:okL es=true) (u:Unit):F_q31q 0 (((m:Int),es,v),u)=some (pwI m es,true,()):=by
 obtain ⟨n0,n8⟩:=graphB_n hg
 have m8:m<=8:=by omega
 obtain ⟨g1,_⟩:=graphB_edges hg
 obtain ⟨b1,b2⟩:=netB_net m8 g1
 have hp:=Nat.two_pow_pos m
 have gb:G_bestO ((toI (netN m es),()),0,(((toI (netN m es),()),()),()),())=some ((List.range (2 ^ m)).map (bOr m (szM (netN m es)) 8),()):=by
  unfold G_bestO
  simp only [b1,decide_true,Bool.and_self,if_true,b2,fromI_net]
 have hi:0<((List.range (2 ^ m)).map (bOr m (szM (netN m es)) 8)).length:=by simp;omega
 have i0:idxIn (0:Int) ((List.range (2 ^ m)).map (bOr m (szM (netN m es)) 8)).length=true:=idxIn_nat (i:=0) hi
 have z0:(0:Int).toNat=0:=rfl
 have e0:at_ I ((List.range (2 ^ m)).map (bOr m (szM (netN m es)) 8)) 0=pwI m es:=by
  rw [at_get (e:=I) hi]
  simp only [List.get_eq_getElem,List.getElem_map,List.getElem_range]
  rw [bOr_congr m8 (fun x hx=>sz_same m8 g1 hx) 8 0 hp]
  exact (width_eq m8 (szP_pos m es)).1
 unfold F_q31q F_q18q G_graph
 simp only [ho,if_true,Option.bind_some,hg,Bool.not_true,Bool.false_eq_true,if_false,net_some hg ho,gb,i0,z0,e0]
theorem specPW {m:Nat} {es:List E} {v:Unit} (hg:graphB ((m:Int),es,v)=true) (ho:okL es=true) (u:Unit):F_q33q 0 (((m:Int),es,v),u)=some (pwI m es,true,()):=by
 obtain ⟨n0,n8⟩:=graphB_n hg
 have m8:m<=8:=by omega
 have h256:=pow8 m8
 have hp:=Nat.two_pow_pos m
 have gw:G_widths (((m:Int),es,v),())=some ((List.range (2 ^ m)).map (wOr m (szP m es) 8),()):=by
  unfold G_widths
  simp only [graph_grB hg ho,if_true,Int.toNat_natCast]
 have hi:2 ^ m-1<((List.range (2 ^ m)).map (wOr m (szP m es) 8)).length:=by simp;omega
 have w1:IntKind.wrap .i64 (((2 ^ m:Nat):Int)-1)=((2 ^ m-1:Nat):Int):=by rw [wrap_in _ (by omega) (by omega)];omega
 have e0:at_ I ((List.range (2 ^ m)).map (wOr m (szP m es) 8)) (2 ^ m-1)=pwI m es:=by
  rw [at_get (e:=I) hi]
  simp only [List.get_eq_getElem,List.getElem_map,List.getElem_range]
  rfl
 unfold F_q33q F_q27q G_graph
 simp only [ho,if_true,Option.bind_some,hg,Bool.not_true,Bool.false_eq_true,if_false,gw,nonneg_dec,shl_n m (by omega),w1,idxIn_nat hi,Int.toNat_natCast,e0]
theorem field_k {n:Int} {es:List E} {v:Unit} (h:fieldB (n,es,v) 1=true) {q:Nat} (h1:1<=q) (h3:q<=3):fieldB (n,es,v) (q:Int)=true:=by
 unfold fieldB at h |-
 rw [Bool.and_eq_true] at h |-
 exact ⟨h.1,inB_iff.2 (by omega)⟩
theorem cn_impl (N f:Nat) {m:Nat} {es:List E} {v:Unit} (hg:graphB ((m:Int),es,v)=true) (ho:okL es=true) (h1:1<=m) {q:Nat} (hq:q<=3):q40q_l0 N (f+1) (((m:Int),es,v),(q:Int),())=if winB (tmG ((m:Int),es,v) q)=true then some (.inl ((q:Int),true,())) else q40q_l0 N f (((m:Int),es,v),((q+1:Nat):Int),()):=by
 obtain ⟨e1,e2⟩:=game_impl (v:=v) hg ho h1 hq ()
 have h3:G_copBest (((toI (netN m es),()),cfG ((m:Int),es,v) q,mvG ((m:Int),es,v) q,tmG ((m:Int),es,v) q,()),())=some (bestOut (cfG ((m:Int),es,v) q) (bestRow (tmG ((m:Int),es,v) q) 0 (-1) 0)):=by
  unfold G_copBest
  simp only [e2,tm_low,Bool.and_self,if_true]
 have hle:decide ((q:Int)<=3)=true:=decide_eq_true (by omega)
 show q40q_l0_r _ _ _=_
 unfold q40q_l0_r
 simp only [hle,if_true,net_some hg ho,Option.bind_some,e1,h3,best_win,small_wrap (show q<=100000 by omega)]
theorem cn_spec (N f:Nat) {m:Nat} {es:List E} {v:Unit} (hg:graphB ((m:Int),es,v)=true) (ho:okL es=true) {q:Nat} (hq:q<=3):q44q_l0 N (f+1) (((m:Int),es,v),(q:Int),())=if winB (tmG ((m:Int),es,v) q)=true then some (.inl ((q:Int),true,())) else q44q_l0 N f (((m:Int),es,v),((q+1:Nat):Int),()):=by
 have hk:inB 0 3 (q:Int)=true:=inB_iff.2 (by omega)
 have h3:G_l4Wins (((m:Int),es,v),(q:Int),())=some (winB (tmG ((m:Int),es,v) q),()):=by
  unfold G_l4Wins
  simp only [hg,ho,hk,Bool.and_self,if_true,Int.toNat_natCast]
 have hle:decide ((q:Int)<=3)=true:=decide_eq_true (by omega)
 show q44q_l0_r _ _ _=_
 unfold q44q_l0_r
 simp only [hle,if_true,h3,Option.bind_some,small_wrap (show q<=100000 by omega)]
theorem implCN_lim (d) (r) (h:G_copNum d=some r):∃N,F_q40q N d=some r:=by
 obtain ⟨⟨n,es,v⟩,u⟩:=d
 unfold G_copNum at h
 split at h
 ·rename_i ho
  have ho:okL es=true:=ho
  cases h
  refine ⟨10,?_⟩
  unfold F_q40q cnB
  simp only [implField (g:=(n,es,v)) ho,Option.bind_some]
  cases hf:fieldB (n,es,v) 1 with
  | false=>simp only [Bool.not_false,if_true,Bool.false_eq_true,if_false]
  | true=>
   obtain ⟨hg,m,q,rfl,_,m1,m8,_,_⟩:=field_parts hf
   have a1:=cn_impl 10 9 hg ho m1 (q:=1) (by omega)
   have a2:=cn_impl 10 8 hg ho m1 (q:=2) (by omega)
   have a3:=cn_impl 10 7 hg ho m1 (q:=3) (by omega)
   have a4:q40q_l0 10 7 (((m:Int),es,v),((3+1:Nat):Int),())=some (.inr (.inl ())):=rfl
   rw [a4] at a3
   simp only [Bool.not_true,Bool.false_eq_true,if_false,if_true]
   have z1:((1:Nat):Int)=1:=rfl
   rw [z1] at a1
   rw [a1]
   by_cases h1:winB (tmG ((m:Int),es,v) 1)=true
   ·rw [if_pos h1,if_pos h1];rfl
   ·rw [if_neg h1,if_neg h1]
    have e2:((1+1:Nat):Int)=((2:Nat):Int):=rfl
    rw [e2,a2]
    by_cases h2:winB (tmG ((m:Int),es,v) 2)=true
    ·rw [if_pos h2,if_pos h2];rfl
    ·rw [if_neg h2,if_neg h2]
     have e3:((2+1:Nat):Int)=((3:Nat):Int):=rfl
     rw [e3,a3]
     by_cases h3:winB (tmG ((m:Int),es,v) 3)=true
     ·rw [if_pos h3,if_pos h3];rfl
     ·rw [if_neg h3,if_neg h3];rfl
 ·cases h
theorem specCN_lim (d) (r) (h:G_copNum d=some r):∃N,F_q44q N d=some r:=by
 obtain ⟨⟨n,es,v⟩,u⟩:=d
 unfold G_copNum at h
 split at h
 ·rename_i ho
  have ho:okL es=true:=ho
  cases h
  refine ⟨10,?_⟩
  unfold F_q44q cnB
  simp only [specField (g:=(n,es,v)) ho,Option.bind_some]
  cases hf:fieldB (n,es,v) 1 with
  | false=>simp only [Bool.not_false,if_true,Bool.false_eq_true,if_false]
  | true=>
   obtain ⟨hg,m,q,rfl,_,m1,m8,_,_⟩:=field_parts hf
   have a1:=cn_spec 10 9 hg ho (q:=1) (by omega)
   have a2:=cn_spec 10 8 hg ho (q:=2) (by omega)
   have a3:=cn_spec 10 7 hg ho (q:=3) (by omega)
   have a4:q44q_l0 10 7 (((m:Int),es,v),((3+1:Nat):Int),())=some (.inr (.inl ())):=rfl
   rw [a4] at a3
   simp only [Bool.not_true,Bool.false_eq_true,if_false,if_true]
   have z1:((1:Nat):Int)=1:=rfl
   rw [z1] at a1
   rw [a1]
   by_cases h1:winB (tmG ((m:Int),es,v) 1)=true
   ·rw [if_pos h1,if_pos h1];rfl
   ·rw [if_neg h1,if_neg h1]
    have e2:((1+1:Nat):Int)=((2:Nat):Int):=rfl
    rw [e2,a2]
    by_cases h2:winB (tmG ((m:Int),es,v) 2)=true
    ·rw [if_pos h2,if_pos h2];rfl
    ·rw [if_neg h2,if_neg h2]
     have e3:((2+1:Nat):Int)=((3:Nat):Int):=rfl
     rw [e3,a3]
     by_cases h3:winB (tmG ((m:Int),es,v) 3)=true
     ·rw [if_pos h3,if_pos h3];rfl
     ·rw [if_neg h3,if_neg h3];rfl
 ·cases h
end Go.V.W
