/- What the law FnWorkshops leans on, part 7: an interpreter of the model as plain data, its soundness, the functions as it tells them, and their laws. -/
import Derived.Shelf.Lays
import Derived.Shelf.LaysM
import Derived.Test.YtcajgbmhldgmfaaGreatVF
set_option linter.unusedVariables false
set_option linter.unusedSimpArgs false
set_option maxRecDepth 100000
namespace Go.V.W
open Go.Proofs
theorem togE_twice {es:List E} {e:E} (h1:risingE es=true) (h2:risingE (togE (togE es e) e)=true):togE (togE es e) e=es:=by
 refine sorted_ext (rising_pair h2) (rising_pair h1) fun x => ?_
 rw [togE_mem,togE_mem,togE_mem]
 by_cases hx:x=e
 ·subst hx
  by_cases hm:x∈es<;>simp [hm]
 ·simp [hx]
theorem setF_has {n:Nat} {p:Nat->Bool} {y:Nat} (hy:y<n):hasL (setF p n 0) (y:Int)=p y:=any_setF hy
theorem marks_set {n:Nat} {S:List Int} (h1:S.all (inB 0 ((n:Int)-1))=true) (h2:risingB S=true):S=setF (fun y=>hasL S (y:Int)) n 0:=by
 refine rising_setF n 0 S h2 fun y hy => ?_
 have:=inB_iff.1 (List.all_eq_true.1 h1 y hy)
 omega
theorem mark_twice {n:Nat} {S:List Int} (a:Int) (h1:S.all (inB 0 ((n:Int)-1))=true) (h2:risingB S=true) :
  setF (fun y=>Bool.xor (hasL (setF (fun y=>Bool.xor (hasL S (y:Int)) (decide ((y:Int)=a))) n 0) (y:Int)) (decide ((y:Int)=a))) n 0=S:=by
 conv=>rhs;rw [marks_set h1 h2]
 refine setF_congr fun y _ hy => ?_
 rw [setF_has (by omega)]
 cases hasL S (y:Int)<;>cases decide ((y:Int)=a)<;>rfl
theorem flip_twice {n:Nat} {S:List Int} (h1:S.all (inB 0 ((n:Int)-1))=true) (h2:risingB S=true) :
  setF (fun y => !hasL (setF (fun y => !hasL S (y:Int)) n 0) (y:Int)) n 0=S:=by
 conv=>rhs;rw [marks_set h1 h2]
 refine setF_congr fun y _ hy => ?_
 rw [setF_has (by omega),Bool.not_not]
theorem workB_parts2 {w:Wk} (h:workB w=true):graphB w.1=true/\w.2.2.2.1.all (inB 0 (w.1.1-1))=true/\risingB w.2.2.2.1=true /\ ∃n:Nat,w.1.1=(n:Int)/\risingE w.1.2.1=true:=by
 unfold workB at h
 simp only [Bool.and_eq_true] at h
 obtain ⟨⟨⟨⟨h1,_⟩,_⟩,h4⟩,_⟩:=h
 obtain ⟨⟨n,es,v⟩,p,q,m,t,u⟩:=w
 have hn:=graphB_n h1
 exact ⟨h1,h4.1,h4.2,n.toNat,by simp only;omega,(graphB_edges h1).2⟩
theorem outW_yes {b:Bool} {w:Wk} (h:(outW b w).2.1=true):b=true/\workB (cntW w)=true/\outW b w=(cntW w,true,()):=by
 unfold outW at h |-
 by_cases hb:(b&&workB (cntW w))=true
 ·rw [if_pos hb]
  rw [Bool.and_eq_true] at hb
  exact ⟨hb.1,hb.2,rfl⟩
 ·rw [if_neg hb] at h
  cases h
theorem doW_back {w:Wk} {x:Wo} (hw:workB w=true) (hx:x.1=3\/x.1=8) (h:(doW w x).2.1=true) (h2:(doW (doW w x).1 x).2.1=true):(doW (doW w x).1 x).1.1.1=w.1.1/\(doW (doW w x).1 x).1.1.2.1=w.1.2.1/\(doW (doW w x).1 x).1.2.2.2.1=w.2.2.2.1:=by
 obtain ⟨p1,p2,p3,n,pn,p4⟩:=workB_parts2 hw
 obtain ⟨k,a,b,u⟩:=x
 rcases hx with rfl | rfl
 ·have e:∀w:Wk,doW w (3,a,b,u)=outW (inB 0 (w.1.1-1) a&&inB 0 (w.1.1-1) b && !(a==b)) ((w.1.1,togE w.1.2.1 (eE a b),()),w.2):=fun _=>rfl
  rw [e] at h
  obtain ⟨q1,q2,q3⟩:=outW_yes h
  have q4:=(e w).trans q3
  rw [q4,e] at h2
  obtain ⟨r1,r2,r3⟩:=outW_yes h2
  rw [q4,e,r3]
  obtain ⟨_,_,_,_,_,s4⟩:=workB_parts2 r2
  exact ⟨rfl,togE_twice p4 s4,rfl⟩
 ·have e:∀w:Wk,doW w (8,a,b,u)=outW (b==0&&inB 0 (w.1.1-1) a) (setM w (setF (fun y=>Bool.xor (hasL w.2.2.2.1 (y:Int)) (decide ((y:Int)=a))) w.1.1.toNat 0)):=fun _=>rfl
  rw [e] at h
  obtain ⟨q1,q2,q3⟩:=outW_yes h
  have q4:=(e w).trans q3
  rw [q4,e] at h2
  obtain ⟨r1,r2,r3⟩:=outW_yes h2
  rw [q4,e,r3]
  refine ⟨rfl,rfl,?_⟩
  have hn:w.1.1.toNat=n:=by omega
  show setF (fun y=>Bool.xor (hasL (setF (fun y=>Bool.xor (hasL w.2.2.2.1 (y:Int)) (decide ((y:Int)=a))) w.1.1.toNat 0) (y:Int)) (decide ((y:Int)=a))) w.1.1.toNat 0=_
  rw [hn]
  exact mark_twice a (by rw [<- pn];exact p2) p3
theorem doW_flip {w:Wk} (hw:workB w=true) (h:(doW w (10,0,0,())).2.1=true) (h2:(doW (doW w (10,0,0,())).1 (10,0,0,())).2.1=true):(doW (doW w (10,0,0,())).1 (10,0,0,())).1.2.2.2.1=w.2.2.2.1:=by
 obtain ⟨p1,p2,p3,n,pn,p4⟩:=workB_parts2 hw
 have e:∀w:Wk,doW w (10,0,0,())=outW ((0:Int)==0&&(0:Int)==0) (setM w (setF (fun y => !hasL w.2.2.2.1 (y:Int)) w.1.1.toNat 0)):=fun _=>rfl
 rw [e] at h
 obtain ⟨q1,q2,q3⟩:=outW_yes h
 have q4:=(e w).trans q3
 rw [q4,e] at h2
 obtain ⟨r1,r2,r3⟩:=outW_yes h2
 rw [q4,e,r3]
 have hn:w.1.1.toNat=n:=by omega
 show setF (fun y => !hasL (setF (fun y => !hasL w.2.2.2.1 (y:Int)) w.1.1.toNat 0) (y:Int)) w.1.1.toNat 0=_
 rw [hn]
 exact flip_twice (by rw [<- pn];exact p2) p3
end Go.V.W
namespace Go.V.W
open Go.Proofs
theorem pickA {c0 c:Cur} {k n:Int} {u:Unit} (h:Adv k c0 c) (hf:c0.2.1+k+2<=far_):Ok (F_q37q 0 (c,n,u)) fun r=>0<=r.1/\(r.1<n\/r.1=0)/\Adv (k+2) c0 r.2.1:=by
 have:=h.2
 exact (pick_ok h.1 (by omega)).mono fun r hr=>⟨hr.1,hr.2.1,h.trans hr.2.2⟩
theorem oneA {c0 c:Cur} {k n:Int} {u:Unit} (h:Adv k c0 c) (hf:c0.2.1+k+2<=far_):Ok (F_q50q 0 (c,n,u)) fun r=>Adv (k+2) c0 r.2.1:=by
 have:=h.2
 exact (one_ok h.1 (by omega)).mono fun r hr=>h.trans hr
theorem amongA {c0 c:Cur} {k:Int} {l:List Int} {u:Unit} (h:Adv k c0 c) (hf:c0.2.1+k+2<=far_) (hl:0<l.length):Ok (F_q21q 0 (c,l,u)) fun r=>Adv (k+2) c0 r.2.1:=by
 have:=h.2
 exact (among_ok h.1 (by omega) hl).mono fun r hr=>h.trans hr.2
noncomputable def w12T (c:Cur) (K A B:Int):Option (Wo×Cur×Unit):=
 (F_q37q 0 (c,32,())).bind fun r=>
  if (r.1==(0:Int))=true then (F_q21q 0 (r.2.1,[(-1:Int),(8:Int),(4611686018427387904:Int)],())).bind fun s=>some ((K,s.1,B,()),s.2.1,())
  else if (r.1==(1:Int))=true then (F_q21q 0 (r.2.1,[(-1:Int),(1:Int),(8:Int)],())).bind fun s=>some ((K,A,s.1,()),s.2.1,())
  else if (r.1==(2:Int))=true then (F_q21q 0 (r.2.1,[(0:Int),(11:Int),(-1:Int)],())).bind fun s=>some ((s.1,A,B,()),s.2.1,())
  else some ((K,A,B,()),r.2.1,())
theorem w12T_ok {c0 c:Cur} {k:Int} (h:Adv k c0 c) (hf:c0.2.1+k+4<=far_) (K A B:Int):Ok (w12T c K A B) fun r=>Adv (k+4) c0 r.2.1:=by
 unfold w12T
 refine Ok.bind (pickA h (by omega)) fun r hr => ?_
 refine Ok.ite (fun _ => ?_) fun _=>Ok.ite (fun _ => ?_) fun _=>Ok.ite (fun _ => ?_) fun _=>Ok.some (hr.2.2.le (by omega))
 all_goals exact Ok.bind (amongA hr.2.2 (by omega) (by simp)) fun s hs=>Ok.some (hs.le (by omega))
noncomputable def w12B (c:Cur) (K A m:Int):Option (Wo×Cur×Unit):=
 if (K==(3:Int))=true then (F_q37q 0 (c,m,())).bind fun r=>w12T r.2.1 K A r.1
 else if (K==(6:Int))=true then (F_q37q 0 (c,m,())).bind fun r=>w12T r.2.1 K A r.1
 else w12T c K A 0
theorem w12B_ok {c0 c:Cur} {k:Int} (h:Adv k c0 c) (hf:c0.2.1+k+6<=far_) (K A m:Int):Ok (w12B c K A m) fun r=>Adv (k+6) c0 r.2.1:=by
 unfold w12B
 refine Ok.ite (fun _ => ?_) fun _=>Ok.ite (fun _ => ?_) fun _=>(w12T_ok h (by omega) K A 0).mono fun r hr=>hr.le (by omega)
 all_goals exact Ok.bind (pickA h (by omega)) fun r hr=>(w12T_ok hr.2.2 (by omega) K A r.1).mono fun r hr=>hr.le (by omega)
theorem work12_ok {c:Cur} {g:Gr} {u:Unit} (h:CurB c) (hf:c.2.1+10<=far_):Ok (F_q16q 0 (c,g,u)) fun r=>Adv 10 c r.2.1:=by
 have e:F_q16q 0 (c,g,u)=(F_q21q 0 (c,[(1:Int),(2:Int),(3:Int),(3:Int),(4:Int),(5:Int),(6:Int),(6:Int),(7:Int),(7:Int),(8:Int),(8:Int),(9:Int),(10:Int)],())).bind fun r=>
   if (r.1 != (1:Int))=true then
    if (r.1 != (7:Int))=true then
     if (decide (r.1<(9:Int)))=true then (F_q37q 0 (r.2.1,(g_q87q (1,(g_q76q (g.1,8,())).1,())).1,())).bind fun s=>w12B s.2.1 r.1 s.1 (g_q87q (1,(g_q76q (g.1,8,())).1,())).1
     else w12B r.2.1 r.1 0 (g_q87q (1,(g_q76q (g.1,8,())).1,())).1
    else w12B r.2.1 r.1 0 (g_q87q (1,(g_q76q (g.1,8,())).1,())).1
   else w12B r.2.1 r.1 0 (g_q87q (1,(g_q76q (g.1,8,())).1,())).1:=rfl
 rw [e]
 refine Ok.bind (among_ok h (by omega) (by simp)) fun r hr => ?_
 have hr:=hr.2
 refine Ok.ite (fun _=>Ok.ite (fun _=>Ok.ite (fun _ => ?_) fun _ => ?_) fun _ => ?_) fun _ => ?_
 ·exact Ok.bind (pickA hr (by omega)) fun s hs=>(w12B_ok hs.2.2 (by omega) _ _ _).mono fun r hr=>hr.le (by omega)
 all_goals exact (w12B_ok hr (by omega) _ _ _).mono fun r hr=>hr.le (by omega)
theorem work_small {w:Wk} (h:workB w=true):w.1.2.1.length<=200/\w.2.2.2.1.length<=20:=by
 obtain ⟨⟨n,es,v⟩,p,q,m,t,u⟩:=w
 have h':=h
 unfold workB at h'
 simp only [Bool.and_eq_true] at h'
 obtain ⟨⟨⟨⟨h1,h2⟩,h3⟩,h4,h5⟩,h6⟩:=h'
 have h1:graphB (n,es,v)=true:=h1
 obtain ⟨n0,n8⟩:=graphB_n h1
 obtain ⟨a,rfl⟩:=nat_of n0
 have hm:m.length<=8:=by
  have:=marked_set (n:=a) h5 fun y hy=>inB_iff.1 (List.all_eq_true.1 h4 y hy)
  rw [this]
  have:=setF_len (p:=fun y=>hasL m (y:Int)) (k:=a) (x:=0)
  omega
 have hl:=graph_len h1
 exact ⟨by show es.length<=200;omega,by show m.length<=20;omega⟩
theorem shop_l0 (N:Nat) (z:Wk):∀(k f:Nat) (s:Int) (c:Cur) (w:Wk),s<=(k:Int)->0<=s->k<f->s<=100->CurB c->c.2.1+10*(k:Int)<=far_->w.1.2.1.length<=200->w.2.2.2.1.length<=20 ->
  Ok (q11q_l0 N f (c,z,w,s,())) fun o => ∃c' w',o=.inl (c',z,w',())/\Adv (10*(k:Int)) c c'/\w'.1.2.1.length<=200/\w'.2.2.2.1.length<=20:=by
 intro k
 induction k with
 | zero=>
  intro f s c w h1 h0 h2 h3 h4 h5 h6 h7
  obtain ⟨f,rfl⟩:∃m,f=m+1:=⟨f-1,by omega⟩
  have hs:decide (s>0)=false:=decide_eq_false (by omega)
  show Ok (q11q_l0_r _ _ _) _
  unfold q11q_l0_r
  simp only [hs,Bool.false_eq_true,if_false]
  exact Ok.some ⟨c,w,rfl,⟨h4,by omega⟩,h6,h7⟩
 | succ k ih=>
  intro f s c w h1 h0 h2 h3 h4 h5 h6 h7
  obtain ⟨f,rfl⟩:∃m,f=m+1:=⟨f-1,by omega⟩
  have a0:Adv (10*((k+1:Nat):Int)) c c:=⟨h4,by omega⟩
  show Ok (q11q_l0_r _ _ _) _
  unfold q11q_l0_r
  simp only
  obtain ⟨⟨n,es,v⟩,p,q,m,t,u⟩:=w
  have h6:es.length<=200:=h6
  have h7:m.length<=20:=h7
  have hl:okL es=true:=okL_of (by omega)
  have hm:okL m=true:=okL_of (by omega)
  refine Ok.ite (fun hs => ?_) fun _=>Ok.some ⟨c,_,rfl,a0,h6,h7⟩
  have hs:=of_decide_eq_true hs
  simp only [specGood n es v p q m t u () hl hm,Option.bind_some]
  cases hw:workB ((n,es,v),p,q,m,t,u) with
  | false=>
   simp only [Bool.false_eq_true,if_false]
   exact Ok.some ⟨c,_,rfl,a0,h6,h7⟩
  | true=>
   simp only [if_true]
   refine Ok.bind (work12_ok h4 (by omega)) fun r hr => ?_
   have b1:=hr.2
   simp only [do_some hw,Option.bind_some]
   have hwr:IntKind.wrap .i64 (s-1)=s-1:=wrap_in _ (by omega) (by omega)
   have fin:∀w':Wk,w'.1.2.1.length<=200->w'.2.2.2.1.length<=20->Ok (q11q_l0 N f (r.2.1,z,w',IntKind.wrap .i64 (s-1),())) fun o => ∃c' w',o=.inl (c',z,w',())/\Adv (10*((k+1:Nat):Int)) c c'/\w'.1.2.1.length<=200/\w'.2.2.2.1.length<=20:=fun w' q1 q2=>by
    rw [hwr]
    refine (ih f (s-1) r.2.1 w' (by omega) (by omega) (by omega) (by omega) hr.1 (by omega) q1 q2).mono fun o ho => ?_
    obtain ⟨c',w2,e1,e2,e3,e4⟩:=ho
    exact ⟨c',w2,e1,(hr.trans e2).le (by omega),e3,e4⟩
   refine Ok.ite (fun hd => ?_) fun _=>fin _ h6 h7
   obtain ⟨s1,s2⟩:=work_small (doW_ok hd).1
   exact fin _ s1 s2
theorem shop_tail {c0 c:Cur} {k:Int} (h:Adv k c0 c) (hf:c0.2.1+k+4<=far_) {w:Wk} (h1:w.1.2.1.length<=200) (h2:w.2.2.2.1.length<=20):Ok ((F_q37q 0 (c,(48:Int),())).bind fun r16=>
     if (r16.1==(0:Int))=true then
      (F_q21q 0 (r16.2.1,[(-1:Int),(1000:Int),(1001:Int)],())).bind fun r17=>
      some ((w.1,w.2.1,w.2.2.1,w.2.2.2.1,r17.1,w.2.2.2.2.2),r17.2.1,())
     else
      if (r16.1==(1:Int))=true then
       (F_q21q 0 (r16.2.1,[(-2:Int),(8:Int)],())).bind fun r18=>
       some ((w.1,r18.1,w.2.2),r18.2.1,())
      else
       if (r16.1==(2:Int))=true then
        (F_q21q 0 (r16.2.1,[(-2:Int),(8:Int)],())).bind fun r19=>
        some ((w.1,w.2.1,r19.1,w.2.2.2),r19.2.1,())
       else
        if (r16.1==(3:Int))=true then
         (F_q21q 0 (r16.2.1,[(0:Int),(-1:Int),(8:Int)],())).bind fun r20=>
         if (decide (List.length w.2.2.2.1+List.length ([r20.1])<=lim))=true then
         some ((w.1,w.2.1,w.2.2.1,w.2.2.2.1++[r20.1],w.2.2.2.2),r20.2.1,())
         else none
        else
         some (w,r16.2.1,())) fun r=>smallW r.1/\Adv (k+4) c0 r.2.1:=by
 refine Ok.bind (pickA h (by omega)) fun r hr => ?_
 have hr:=hr.2.2
 refine Ok.ite (fun _ => ?_) fun _=>Ok.ite (fun _ => ?_) fun _=>Ok.ite (fun _ => ?_) fun _=>Ok.ite (fun _ => ?_) fun _=>Ok.some ⟨⟨by show w.1.2.1.length<=1000;omega,by show w.2.2.2.1.length<=1000;omega⟩,hr.le (by omega)⟩
 ·exact Ok.bind (amongA hr (by omega) (by simp)) fun s hs=>Ok.some ⟨⟨by show w.1.2.1.length<=1000;omega,by show w.2.2.2.1.length<=1000;omega⟩,hs.le (by omega)⟩
 ·exact Ok.bind (amongA hr (by omega) (by simp)) fun s hs=>Ok.some ⟨⟨by show w.1.2.1.length<=1000;omega,by show w.2.2.2.1.length<=1000;omega⟩,hs.le (by omega)⟩
 ·exact Ok.bind (amongA hr (by omega) (by simp)) fun s hs=>Ok.some ⟨⟨by show w.1.2.1.length<=1000;omega,by show w.2.2.2.1.length<=1000;omega⟩,hs.le (by omega)⟩
 ·refine Ok.bind (amongA hr (by omega) (by simp)) fun s hs => ?_
  have hl:decide (List.length w.2.2.2.1+List.length ([s.1])<=lim)=true:=decide_eq_true (by unfold lim;simp only [List.length_singleton];omega)
  rw [if_pos hl]
  refine Ok.some ⟨⟨by show w.1.2.1.length<=1000;omega,?_⟩,hs.le (by omega)⟩
  show (w.2.2.2.1++[s.1]).length<=1000
  rw [List.length_append,List.length_singleton]
  omega
theorem shop_ok {c:Cur} {u:Unit} (h:CurB c) (hf:c.2.1+2000<=far_):Ok (pickF F_q11q P_shop (c,u)) (P_shop (c,u)):=by
 refine Ok.pick 50 ?_
 unfold F_q11q
 simp only
 refine Ok.bind (field3_ok h (by omega)) fun r hr => ?_
 obtain ⟨a1,l1⟩:=hr
 obtain ⟨⟨n,es,v⟩,c1,w⟩:=r
 have l1:es.length<=200:=l1
 have a1:Adv 400 c c1:=a1
 have ho:okL es=true:=okL_of (by omega)
 have rest:∀{c2:Cur} {j:Int} (w0:Wk) (s:Int),Adv j c c2->j<=500->0<=s->(s<4\/s=0)->w0.1.2.1.length<=200->w0.2.2.2.1.length<=20 ->
   Ok (q11q_l0 50 50 (c2,(((0:Int),[],()),(0:Int),(0:Int),[],(0:Int),()),w0,s,())) fun o => ∃c' w',o=.inl (c',(((0:Int),[],()),(0:Int),(0:Int),[],(0:Int),()),w',())/\Adv (j+40) c c'/\w'.1.2.1.length<=200/\w'.2.2.2.1.length<=20:=fun {c2 j} w0 s hj hj2 hs0 hs q1 q2=>by
  have:=hj.2
  refine (shop_l0 50 (((0:Int),[],()),(0:Int),(0:Int),[],(0:Int),()) 4 50 s c2 w0 (by omega) hs0 (by omega) (by omega) hj.1 (by omega) q1 q2).mono fun o ho => ?_
  obtain ⟨c',w',e1,e2,e3,e4⟩:=ho
  exact ⟨c',w',e1,(hj.trans e2).le (by omega),e3,e4⟩
 have go:∀{c2:Cur} {j:Int} (w0:Wk),Adv j c c2->j<=490->w0.1.2.1.length<=200->w0.2.2.2.1.length<=20->True:=fun _ _ _ _ _=>trivial
 simp only [G_graph,ho,if_true,Option.bind_some]
 refine Ok.ite (fun hg=>Ok.ite (fun hn => ?_) fun _ => ?_) fun _ => ?_
 ·refine Ok.bind (oneA a1 (by omega)) fun r3 h3 => ?_
  refine Ok.ite (fun _ => ?_) fun _ => ?_
  ·have hn:=of_decide_eq_true hn
   obtain ⟨n0,n8⟩:=graphB_n hg
   refine Ok.bind (pickA h3 (by omega)) fun r4 h4 => ?_
   refine Ok.bind (pickA h4.2.2 (by omega)) fun r5 h5 => ?_
   have hd:decide (0<=n)=true:=decide_eq_true n0
   rw [if_pos hd]
   refine Ok.bind (pickA h5.2.2 (by omega)) fun r6 h6 => ?_
   obtain ⟨a,rfl⟩:=nat_of n0
   have hsh:shl .i64 (1:Int) (a:Int)<=256:=by
    have:a=0\/a=1\/a=2\/a=3\/a=4\/a=5\/a=6\/a=7\/a=8:=by omega
    rcases this with rfl | rfl | rfl | rfl | rfl | rfl | rfl | rfl | rfl<;>decide
   have hb:G_l2Bits ((a:Int),r6.1,())=some (setF (fun y=>r6.1.toNat.testBit y) a 0,()):=by
    unfold G_l2Bits
    have i1:inB 0 8 (a:Int)=true:=inB_iff.2 ⟨n0,n8⟩
    have i2:inB 0 255 r6.1=true:=inB_iff.2 (by have:=h6.1;have:=h6.2.1;omega)
    simp only [i1,i2,Bool.and_self,if_true,Int.toNat_natCast]
   simp only [hb,Option.bind_some]
   have hlen:(setF (fun y=>r6.1.toNat.testBit y) a 0).length<=20:=by
    have:=setF_len (p:=fun y=>r6.1.toNat.testBit y) (k:=a) (x:=0)
    omega
   refine Ok.bind (pickA h6.2.2 (by omega)) fun r8 h8 => ?_
   refine Ok.bind (rest (((a:Int),es,v),r4.1,r5.1,setF (fun y=>r6.1.toNat.testBit y) a 0,(0:Int),()) r8.1 h8.2.2 (by omega) h8.1 h8.2.1 l1 hlen) fun o ho => ?_
   obtain ⟨c',w',rfl,e2,e3,e4⟩:=ho
   exact (shop_tail e2 (by omega) e3 e4).mono fun r hr=>⟨hr.1,hr.2.le (by omega)⟩
  ·refine Ok.bind (pickA h3 (by omega)) fun r8 h8 => ?_
   refine Ok.bind (rest ((n,es,v),(-1:Int),(-1:Int),[],(0:Int),()) r8.1 h8.2.2 (by omega) h8.1 h8.2.1 l1 (Nat.zero_le _)) fun o ho => ?_
   obtain ⟨c',w',rfl,e2,e3,e4⟩:=ho
   exact (shop_tail e2 (by omega) e3 e4).mono fun r hr=>⟨hr.1,hr.2.le (by omega)⟩
 all_goals
  refine Ok.bind (pickA a1 (by omega)) fun r8 h8 => ?_
  refine Ok.bind (rest ((n,es,v),(-1:Int),(-1:Int),[],(0:Int),()) r8.1 h8.2.2 (by omega) h8.1 h8.2.1 l1 (Nat.zero_le _)) fun o ho => ?_
  obtain ⟨c',w',rfl,e2,e3,e4⟩:=ho
  exact (shop_tail e2 (by omega) e3 e4).mono fun r hr=>⟨hr.1,hr.2.le (by omega)⟩
theorem works_l0 (N:Nat) (z w:Wk):∀(k f:Nat) (s:Int) (c:Cur) (l:List Wo),s<=(k:Int)->0<=s->k<f->s<=100->CurB c->c.2.1+10*(k:Int)<=far_->l.length+k<=50 ->
  Ok (q22q_l0 N f (z,c,w,l,s,())) fun o => ∃l',o=.inl (z,w,l',())/\l'.length<=50:=by
 intro k
 induction k with
 | zero=>
  intro f s c l h1 h0 h2 h3 h4 h5 h6
  obtain ⟨f,rfl⟩:∃m,f=m+1:=⟨f-1,by omega⟩
  have hs:decide (s>0)=false:=decide_eq_false (by omega)
  show Ok (q22q_l0_r _ _ _) _
  unfold q22q_l0_r
  simp only [hs,Bool.false_eq_true,if_false]
  exact Ok.some ⟨l,rfl,by omega⟩
 | succ k ih=>
  intro f s c l h1 h0 h2 h3 h4 h5 h6
  obtain ⟨f,rfl⟩:∃m,f=m+1:=⟨f-1,by omega⟩
  show Ok (q22q_l0_r _ _ _) _
  unfold q22q_l0_r
  simp only
  refine Ok.ite (fun hs => ?_) fun _=>Ok.some ⟨l,rfl,by omega⟩
  have hs:=of_decide_eq_true hs
  refine Ok.bind (work12_ok h4 (by omega)) fun r hr => ?_
  have b1:=hr.2
  have hl:decide (List.length l+List.length ([r.1])<=lim)=true:=decide_eq_true (by unfold lim;simp only [List.length_singleton];omega)
  have hwr:IntKind.wrap .i64 (s-1)=s-1:=wrap_in _ (by omega) (by omega)
  rw [if_pos hl,hwr]
  exact ih f (s-1) r.2.1 (l++[r.1]) (by omega) (by omega) (by omega) (by omega) hr.1 (by omega) (by rw [List.length_append,List.length_singleton];omega)
theorem drawDW_ok {code:List Int} (hb:∀x∈code,0<=x/\x<=255):Ok (F_q40q 0 (code,())) fun r=>smallW r.1:=by
 unfold F_q40q
 simp only
 have hc:CurB (code,0,0,()):=⟨hb,Int.le_refl _⟩
 refine Ok.bind (shop_ok hc (by unfold far_;simp only;omega)) fun r hr => ?_
 have b1:=hr.2.2
 simp only at b1
 exact Ok.bind (work12_ok hr.2.1 (by unfold far_;omega)) fun s hs=>Ok.some hr.1
theorem drawDWs_ok {code:List Int} (hb:∀x∈code,0<=x/\x<=255):Ok (pickF F_q22q P_works (code,())) (P_works (code,())):=by
 refine Ok.pick 50 ?_
 unfold F_q22q
 simp only
 have hc:CurB (code,0,0,()):=⟨hb,Int.le_refl _⟩
 refine Ok.bind (shop_ok hc (by unfold far_;simp only;omega)) fun r hr => ?_
 have b1:=hr.2.2
 simp only at b1
 refine Ok.bind (pick_ok hr.2.1 (by unfold far_;omega)) fun s hs => ?_
 have b2:=hs.2.2.2
 refine Ok.bind (works_l0 50 (((0:Int),[],()),(0:Int),(0:Int),[],(0:Int),()) r.1 6 50 s.1 s.2.1 [] (by omega) hs.1 (by omega) (by omega) hs.2.2.1 (by unfold far_;omega) (by simp)) fun o ho => ?_
 obtain ⟨l,rfl,e2⟩:=ho
 exact Ok.some ⟨hr.1,by show l.length<=100;omega⟩
theorem drawNW_ok {code:List Int} (hb:∀x∈code,0<=x/\x<=255):Ok (F_q9q 0 (code,())) fun r=>r.1.2.1.length<=200:=by
 unfold F_q9q
 simp only
 have hc:CurB (code,0,0,()):=⟨hb,Int.le_refl _⟩
 exact Ok.bind (field3_ok hc (by unfold far_;simp only;omega)) fun r hr=>Ok.some hr.2
end Go.V.W
namespace Go.V.W
open Go.Proofs
theorem okL_mil {α:Type} {l:List α} (h:l.length<=1048576):okL l=true:=decide_eq_true (by unfold lim;omega)
theorem vInts_eq {a b:List Int} (h:a=b) (hb:b.length<=1048576) (u:Unit):G_vInts (a,b,u)=some (true,()):=by
 subst h
 unfold G_vInts
 simp only [okL_mil hb,decide_true,Bool.and_self,if_true]
theorem vGraph_eq {g h:Gr} (h1:g.1=h.1) (h2:g.2.1=h.2.1) (hb:h.2.1.length<=1048576) (u:Unit):F_q97q 0 (g,h,u)=some (true,()):=by
 unfold F_q97q G_vPairs
 simp only [h1,h2,beq_self_eq_true,if_true,okL_mil hb,decide_true,Bool.and_self,Option.bind_some]
theorem vShop_same {w:Wk} (h:okR w) (u:Unit):F_laws_vShop 0 (w,w,u)=some (true,()):=by
 unfold F_laws_vShop
 simp only [vGraph_eq (g:=w.1) rfl rfl h.1,Option.bind_some,if_true,beq_self_eq_true,vInts_eq (a:=w.2.2.2.1) rfl h.2]
theorem okR_small {w:Wk} (h:smallW w):okR w:=⟨Nat.le_trans h.1 (by omega),Nat.le_trans h.2 (by omega)⟩
theorem implDWr {w:Wk} (h:okR w) (x:Wo) (u:Unit):F_q96q 0 (w,x,u)=some (dwB w x):=by
 obtain ⟨⟨n,l,v⟩,p,q,m,t,s⟩:=w
 exact implDW1 n l v p q m t s u x (okL_mil h.1) (okL_mil h.2)
theorem specDWr {w:Wk} (h:okR w) (x:Wo) (u:Unit):F_q102q 0 (w,x,u)=some (dwB w x):=by
 obtain ⟨⟨n,l,v⟩,p,q,m,t,s⟩:=w
 exact specDW1 n l v p q m t s u x (okL_mil h.1) (okL_mil h.2)
theorem implIWr {w:Wk} (h:okR w) (u:Unit):F_q38q 0 (w,u)=some (workB w,()):=by
 obtain ⟨⟨n,l,v⟩,p,q,m,t,s⟩:=w
 exact implW n l v p q m t s u (okL_mil h.1) (okL_mil h.2)
theorem specIWr {w:Wk} (h:okR w) (u:Unit):F_q32q 0 (w,u)=some (workB w,()):=by
 obtain ⟨⟨n,l,v⟩,p,q,m,t,s⟩:=w
 rw [good_eq]
 exact specGood n l v p q m t s u (okL_mil h.1) (okL_mil h.2)
theorem dwB_yes {w:Wk} {x:Wo} (h:(dwB w x).2.1=true):workB w=true/\dwB w x=doW w x/\workB (dwB w x).1=true/\(dwB w x).1.2.2.2.2.1=w.2.2.2.2.1+1:=by
 unfold dwB at h |-
 by_cases hw:workB w=true
 ·rw [if_pos hw] at h |-
  obtain ⟨h1,h2⟩:=doW_ok h
  exact ⟨hw,rfl,h1,h2⟩
 ·rw [if_neg hw] at h
  cases h
theorem worksL_ok:∀(l:List Wo) (i:Nat) (w:Wk),workB w=true->workB (worksL l i w).1=true:=by
 intro l
 induction l with
 | nil=>intro i w h;exact h
 | cons x l ih=>
  intro i w h
  unfold worksL
  split
  ·rename_i hd
   exact ih _ _ (doW_ok hd).1
  ·exact h
theorem worksB_yes {w:Wk} {l:List Wo} (h:(worksB w l).2.2.1=true):workB (worksB w l).1=true:=by
 unfold worksB at h |-
 by_cases hw:workB w=true
 ·rw [if_pos hw]
  exact worksL_ok l 0 w hw
 ·rw [if_neg hw] at h
  cases h
theorem newW_res {n:Int} {l:List E} {v:Unit} (hl:l.length<=1000):okR (newW n l v).1:=by
 unfold newW
 split
 ·exact ⟨by show l.length<=1048576;omega,Nat.zero_le _⟩
 ·exact ⟨Nat.zero_le _,Nat.zero_le _⟩
theorem back_ok {w:Wk} {x:Wo} (hx:x.1=3\/x.1=8) (h1:(dwB w x).2.1=true) (h2:(dwB (dwB w x).1 x).2.1=true) :
  (dwB (dwB w x).1 x).1.1.1=w.1.1/\(dwB (dwB w x).1 x).1.1.2.1=w.1.2.1/\(dwB (dwB w x).1 x).1.2.2.2.1=w.2.2.2.1:=by
 obtain ⟨p1,p2,p3,_⟩:=dwB_yes h1
 obtain ⟨q1,q2,q3,_⟩:=dwB_yes h2
 rw [q2] at h2 |-
 rw [p2] at h1 h2 |-
 exact doW_back p1 hx h1 h2
theorem flip_ok {w:Wk} (h1:(dwB w (10,0,0,())).2.1=true) (h2:(dwB (dwB w (10,0,0,())).1 (10,0,0,())).2.1=true) :
  (dwB (dwB w (10,0,0,())).1 (10,0,0,())).1.2.2.2.1=w.2.2.2.1:=by
 obtain ⟨p1,p2,p3,_⟩:=dwB_yes h1
 obtain ⟨q1,q2,q3,_⟩:=dwB_yes h2
 rw [q2] at h2 |-
 rw [p2] at h1 h2 |-
 exact doW_flip p1 h1 h2
theorem law32_of {code:List Int} (hbig:(g_laws_vBig (code,())).1=false) {n:Int} {es:List E} {v:Unit} {u2:Unit} (h2:F_q9q 0 (code,())=some ((n,es,v),u2)) (hes:es.length<=200)
  {c1 c2:List Int×Unit} (h5:F_laws_vCut 0 (code,1,())=some c1) (h9:F_laws_vCut 0 (code,2,())=some c2) {w w2:Wk} {x:Wo} {l:List Wo} {u3 u4:Unit} (h6:F_q40q 0 (c1.1,())=some (w,x,u3)) (hw:smallW w)
  (h10:pickF F_q22q P_works (c2.1,())=some (w2,l,u4)) (hw2:smallW w2) (hl:l.length<=100):F_laws_FnWorkshops 0 (code,())=some (true,()):=by
 have oW:=okR_small hw
 have hDWs:G_DoWorks (w2,l,())=some (worksB w2 l):=by
  unfold G_DoWorks okWs
  have:=okR_small hw2
  rw [if_pos (by simp only [Bool.and_eq_true,decide_eq_true_eq];exact ⟨⟨this.1,this.2⟩,by omega⟩)]
 have hn3:=implNew n es v () (okL_mil (by omega))
 have hn4:=specNew n es v () (okL_mil (by omega))
 have on:=newW_res (n:=n) (v:=v) (show es.length<=1000 by omega)
 have ob:=dwB_res w x
 have ow:=worksB_res w2 l
 have hf0:dwB w (10,0,0,())=dwB w (10,0,0,()):=rfl
 have i1:=implDWr oW x ()
 have s1:=specDWr oW x ()
 have iw:=implIWr oW ()
 have sw:=specIWr oW ()
 have ib:=implIWr ob ()
 have iws:=implIWr ow ()
 have vb:=vShop_same ob ()
 have vws:=vShop_same ow ()
 have vn:=vShop_same on ()
 have i2:=implDWr ob x ()
 have f1:=implDWr oW (10,0,0,()) ()
 have f2:=implDWr (dwB_res w (10,0,0,())) (10,0,0,()) ()
 have hcnt:(dwB w x).2.1=true->((dwB w x).1.2.2.2.2.1 != IntKind.wrap .i64 (w.2.2.2.2.1+1))=false/\workB (dwB w x).1=true:=fun h=>by
  obtain ⟨p1,_,p3,p4⟩:=dwB_yes h
  have:=work_count p1
  rw [p4,wrap_in _ (by omega) (by omega)]
  exact ⟨bne_self_eq_false _,p3⟩
 have hend:=fun h=>worksB_yes (w:=w2) (l:=l) h
 have hback:(dwB w x).2.1=true->x.1=3\/x.1=8->(dwB (dwB w x).1 x).2.1=true->F_q97q 0 ((dwB (dwB w x).1 x).1.1,w.1,())=some (true,())/\G_vInts ((dwB (dwB w x).1 x).1.2.2.2.1,w.2.2.2.1,())=some (true,()):=fun q1 q2 q3=>by
  obtain ⟨b1,b2,b3⟩:=back_ok q2 q1 q3
  exact ⟨vGraph_eq b1 b2 oW.1 (),vInts_eq b3 oW.2 ()⟩
 have hflip:(dwB w (10,0,0,())).2.1=true->(dwB (dwB w (10,0,0,())).1 (10,0,0,())).2.1=true->G_vInts ((dwB (dwB w (10,0,0,())).1 (10,0,0,())).1.2.2.2.1,w.2.2.2.1,())=some (true,()):=fun q1 q2=>vInts_eq (flip_ok q1 q2) oW.2 ()
 generalize dwB (dwB w (10,0,0,())).1 (10,0,0,())=F2 at *
 generalize dwB w (10,0,0,())=F1 at *
 generalize dwB (dwB w x).1 x=B2 at *
 generalize dwB w x=B at *
 generalize worksB w2 l=D at *
 generalize newW n es v=Nw at *
 have tail:(if (!F1.2.1)=true then some (true,()) else if (!F2.2.1)=true then some (true,()) else (G_vInts (F2.1.2.2.2.1,w.2.2.2.1,())).bind fun r=>some (r.1,()))=some (true,()):=by
  cases c1:F1.2.1 with
  | false=>simp only [Bool.not_false,if_true]
  | true=>
   cases c2:F2.2.1 with
   | false=>simp only [Bool.not_false,Bool.not_true,Bool.false_eq_true,if_false,if_true]
   | true=>simp only [Bool.not_true,Bool.false_eq_true,if_false,hflip c1 c2,Option.bind_some]
 unfold F_laws_FnWorkshops
 simp only [hbig,Bool.false_eq_true,if_false,h2,h5,h6,h9,h10,Option.bind_some,hn3,hn4,i1,s1,hDWs,beq_self_eq_true,bne_self_eq_false,Bool.not_true,vn,vb,vws,iw,sw,ib,iws,i2,f1,f2]
 cases cB:B.2.1 with
 | false=>
  cases cD:D.2.2.1 with
  | false=>simp only [Bool.false_eq_true,if_false,if_true,tail]
  | true=>simp only [hend cD,Bool.not_true,Bool.false_eq_true,if_false,if_true,tail]
 | true=>
  obtain ⟨k1,k2⟩:=hcnt cB
  have key:(if (x.1==(3:Int))=true then (if B2.2.1=true then (F_q97q 0 (B2.1.1,w.1,())).bind fun r22=>if (!r22.1)=true then some (false,()) else (G_vInts (B2.1.2.2.2.1,w.2.2.2.1,())).bind fun r23=>if (!r23.1)=true then some (false,()) else some (true,()) else some (true,()))
    else if (x.1==(8:Int))=true then (if B2.2.1=true then (F_q97q 0 (B2.1.1,w.1,())).bind fun r22=>if (!r22.1)=true then some (false,()) else (G_vInts (B2.1.2.2.2.1,w.2.2.2.1,())).bind fun r23=>if (!r23.1)=true then some (false,()) else some (true,()) else some (true,())) else some (true,()))=(some (true,()):Option (Bool×Unit)):=by
   cases c2:B2.2.1 with
   | false=>simp
   | true=>
    by_cases h3:x.1=3
    ·obtain ⟨z1,z2⟩:=hback cB (.inl h3) c2
     simp [h3,z1,z2]
    ·by_cases h8:x.1=8
     ·obtain ⟨z1,z2⟩:=hback cB (.inr h8) c2
      simp [h8,z1,z2]
     ·simp [h3,h8]
  cases cD:D.2.2.1 with
  | false=>simp only [k1,k2,Bool.not_true,Bool.false_eq_true,if_false,if_true,tail,key]
  | true=>simp only [k1,k2,hend cD,Bool.not_true,Bool.false_eq_true,if_false,if_true,tail,key]
theorem law32:∀d,WfD (Kd.tuple ([(K_Su8,false)].map (·.1))) d -> ∃out,F_laws_FnWorkshops 0 d=some out/\(splitT [.bool] [] out).1.1=true:=by
 rintro ⟨code,_⟩ ⟨⟨_,hc⟩,_⟩
 have hb:BytesB code:=fun x hx=>by
  have:=hc x hx
  simp [WfD,Lit.wf,IntKind.min,IntKind.max,IntKind.signed,IntKind.bits] at this
  omega
 refine ⟨(true,()),?_,rfl⟩
 cases hbig:(g_laws_vBig (code,())).1 with
 | true=>
  unfold F_laws_FnWorkshops
  simp only [hbig,if_true]
 | false=>
  have hlen:code.length<=65536:=by
   unfold g_laws_vBig at hbig
   have:=of_decide_eq_false hbig
   simp only at this
   omega
  obtain ⟨⟨⟨n,es,v⟩,u2⟩,e1,e2⟩:=drawNW_ok hb
  obtain ⟨c1,e3,e4⟩:=cut_ok (n:=1) (u:=()) hb hlen (by decide) (by decide)
  obtain ⟨c2,e5,e6⟩:=cut_ok (n:=2) (u:=()) hb hlen (by decide) (by decide)
  obtain ⟨⟨w,x,u3⟩,e7,e8⟩:=drawDW_ok e4
  obtain ⟨⟨w2,l,u4⟩,e9,e10⟩:=drawDWs_ok e6
  exact law32_of hbig e1 e2 e3 e5 e7 e8 e9 e10.1 e10.2
end Go.V.W
namespace Go.V.W
open Go.Proofs Go.Shelf Go.RowKit
-- import Derived.Shelf.Lays
-- import Derived.Shelf.LaysM
-- import Derived.Test.XvLib3
theorem tab:TabOk Tryz.prog (assoc tks) (assoc ars):=tab_of (by kernel_rfl)
theorem mixed:Tryz.prog.follows .mixedOrders=true:=by kernel_rfl
theorem C_laws_vBig_raw (N:Nat):Contract Tryz.prog 18 ⟨[(K_Su8,false)],[.bool],true,F_laws_vBig N⟩:=
  have E:Env Tryz.prog Γ_laws_vBig:=env_of tab trivial
  con_of (body:=bodyOf Tryz.f18) (Pc:=[]) E rfl mixed Tryz.func18 (by kernel_rfl) (by kernel_rfl) (by kernel_rfl) (by kernel_rfl) (fun A hA=>trivial) (fun _=>by kernel_rfl)
theorem C_laws_vBig:Contract Tryz.prog 18 S_laws_vBig:=Contract.less (fun N:Nat=>F_laws_vBig N) C_laws_vBig_raw (fun d r h=>⟨0,(F_laws_vBig_tot 0 d).trans h⟩)
theorem C_q34q_raw (N:Nat):Contract Tryz.prog 101 ⟨[(K_BPSu8iu64q,true)],[I],true,F_q34q N⟩:=
  have E:Env Tryz.prog Γ_q34q:=env_of tab trivial
  con_of (body:=bodyOf Tryz.f101) (Pc:=[]) E rfl mixed Tryz.func101 (by kernel_rfl) (by kernel_rfl) (by kernel_rfl) (by kernel_rfl) (fun A hA=>trivial) (fun _=>by kernel_rfl)
theorem C_q34q:Contract Tryz.prog 101 S_q34q:=C_q34q_raw 0
theorem C_q37q_raw (N:Nat):Contract Tryz.prog 62 ⟨[(K_BPSu8iu64q,true),(I,false)],[I],true,F_q37q N⟩:=
  have E:Env Tryz.prog Γ_q37q:=env_of tab ⟨C_q34q,trivial⟩
  con_of (body:=bodyOf Tryz.f62) (Pc:=[]) E rfl mixed Tryz.func62 (by kernel_rfl) (by kernel_rfl) (by kernel_rfl) (by kernel_rfl) (fun A hA=>trivial) (fun _=>by kernel_rfl)
theorem C_q37q:Contract Tryz.prog 62 S_q37q:=C_q37q_raw 0
theorem C_q50q_raw (N:Nat):Contract Tryz.prog 93 ⟨[(K_BPSu8iu64q,true),(I,false)],[.bool],true,F_q50q N⟩:=
  have E:Env Tryz.prog Γ_q50q:=env_of tab ⟨C_q37q,trivial⟩
  con_of (body:=bodyOf Tryz.f93) (Pc:=[]) E rfl mixed Tryz.func93 (by kernel_rfl) (by kernel_rfl) (by kernel_rfl) (by kernel_rfl) (fun A hA=>trivial) (fun _=>by kernel_rfl)
theorem C_q50q:Contract Tryz.prog 93 S_q50q:=C_q50q_raw 0
theorem C_q100q_raw (N:Nat):Contract Tryz.prog 156 ⟨[(K_PiSPiiqq,false),(I,false),(I,false)],[.bool],true,F_q100q N⟩:=
  have E:Env Tryz.prog Γ_q100q:=env_of tab trivial
  con_of (body:=bodyOf Tryz.f156) (Pc:=[(0,⟨q100q_l0_h,q100q_l0_o,q100q_l0 N N⟩)]) E rfl mixed Tryz.func156 (by kernel_rfl) (by kernel_rfl) (by kernel_rfl) (by kernel_rfl) (fun A hA=>⟨pc_of (body:=loopOf Tryz.f156 0) (inner:=[]) E mixed hA (by kernel_rfl) (by kernel_rfl) (by kernel_rfl) trivial (fun _=>rfl) (fun _ _=>by kernel_rfl) N,trivial⟩) (fun _=>by kernel_rfl)
theorem C_q100q:Contract Tryz.prog 156 S_q100q:=Contract.less (fun N:Nat=>F_q100q N) C_q100q_raw l2Near_lim
theorem C_q23q_raw (N:Nat):Contract Tryz.prog 152 ⟨[(K_PiSPiiqq,false),(I,false)],[K_Si],true,F_q23q N⟩:=
  have E:Env Tryz.prog Γ_q23q:=env_of tab ⟨C_q100q,trivial⟩
  con_of (body:=bodyOf Tryz.f152) (Pc:=[(0,⟨q23q_l0_h,q23q_l0_o,q23q_l0 N N⟩)]) E rfl mixed Tryz.func152 (by kernel_rfl) (by kernel_rfl) (by kernel_rfl) (by kernel_rfl) (fun A hA=>⟨pc_of (body:=loopOf Tryz.f152 0) (inner:=[]) E mixed hA (by kernel_rfl) (by kernel_rfl) (by kernel_rfl) trivial (fun _=>rfl) (fun _ _=>by kernel_rfl) N,trivial⟩) (fun _=>by kernel_rfl)
theorem C_q23q:Contract Tryz.prog 152 S_q23q:=Contract.less (fun N:Nat=>F_q23q N) C_q23q_raw l2Neighbors_lim
theorem C_q79q_raw (N:Nat):ContractG Tryz.prog 122 (⟨[(K_Si,true),(I,false)],[K_Si],true,F_q79q N⟩,{ gone:=[0],deep:=[] }):=
  have E:Env Tryz.prog Γ_q79q:=env_ofG tab trivial trivial (fun _ h=>by cases h) trivial (by kernel_rfl)
  con_ofG (body:=bodyOf Tryz.f122) (Pc:=[(0,⟨q79q_l0_h,q79q_l0_o,q79q_l0 N N⟩)]) E mixed Tryz.func122 (by kernel_rfl) (by kernel_rfl) (by kernel_rfl) (by kernel_rfl) (fun A hA=>⟨pc_of (body:=loopOf Tryz.f122 0) (inner:=[]) E mixed hA (by kernel_rfl) (by kernel_rfl) (by kernel_rfl) trivial (fun _=>rfl) (fun _ _=>by kernel_rfl) N,trivial⟩) (fun _=>by kernel_rfl)
theorem C_q79q:ContractG Tryz.prog 122 (S_q79q,{ gone:=[0],deep:=[] }):=ContractG.less (fun N:Nat=>F_q79q N) C_q79q_raw l1PutW_lim
theorem C_q86q_raw (N:Nat):Contract Tryz.prog 133 ⟨[(K_PiSPiiqq,false),(I,false)],[K_Si],true,F_q86q N⟩:=
  have E:Env Tryz.prog Γ_q86q:=env_ofG tab ⟨C_q23q,trivial⟩ trivial (fun _ h=>by cases h) ⟨C_q79q,trivial⟩ (by kernel_rfl)
  con_of (body:=bodyOf Tryz.f133) (Pc:=[]) E rfl mixed Tryz.func133 (by kernel_rfl) (by kernel_rfl) (by kernel_rfl) (by kernel_rfl) (fun A hA=>trivial) (fun _=>by kernel_rfl)
theorem C_q86q:Contract Tryz.prog 133 S_q86q:=C_q86q_raw 0
theorem C_q53q_raw (N:Nat):Contract Tryz.prog 111 ⟨[(K_Piiq,false),(K_Piiq,false)],[.bool],true,F_q53q N⟩:=
  have E:Env Tryz.prog Γ_q53q:=env_of tab trivial
  con_of (body:=bodyOf Tryz.f111) (Pc:=[]) E rfl mixed Tryz.func111 (by kernel_rfl) (by kernel_rfl) (by kernel_rfl) (by kernel_rfl) (fun A hA=>trivial) (fun _=>by kernel_rfl)
theorem C_q53q:Contract Tryz.prog 111 S_q53q:=Contract.less (fun N:Nat=>F_q53q N) C_q53q_raw (fun d r h=>⟨0,(F_q53q_tot 0 d).trans h⟩)
theorem C_spec_l2Put_raw (N:Nat):Contract Tryz.prog 134 ⟨[(K_SPiiq,false),(K_Piiq,false)],[K_SPiiq],true,F_spec_l2Put N⟩:=
  have E:Env Tryz.prog Γ_spec_l2Put:=env_of tab ⟨C_q53q,trivial⟩
  con_of (body:=bodyOf Tryz.f134) (Pc:=[(0,⟨spec_l2Put_l0_h,spec_l2Put_l0_o,spec_l2Put_l0 N N⟩)]) E rfl mixed Tryz.func134 (by kernel_rfl) (by kernel_rfl) (by kernel_rfl) (by kernel_rfl) (fun A hA=>⟨pc_of (body:=loopOf Tryz.f134 0) (inner:=[]) E mixed hA (by kernel_rfl) (by kernel_rfl) (by kernel_rfl) trivial (fun _=>rfl) (fun _ _=>by kernel_rfl) N,trivial⟩) (fun _=>by kernel_rfl)
theorem C_spec_l2Put:Contract Tryz.prog 134 S_spec_l2Put:=Contract.less (fun N:Nat=>F_spec_l2Put N) C_spec_l2Put_raw l2Put_lim
theorem C_q21q_raw (N:Nat):Contract Tryz.prog 98 ⟨[(K_BPSu8iu64q,true),(K_Si,false)],[I],true,F_q21q N⟩:=
  have E:Env Tryz.prog Γ_q21q:=env_of tab ⟨C_q37q,trivial⟩
  con_of (body:=bodyOf Tryz.f98) (Pc:=[]) E rfl mixed Tryz.func98 (by kernel_rfl) (by kernel_rfl) (by kernel_rfl) (by kernel_rfl) (fun A hA=>trivial) (fun _=>by kernel_rfl)
theorem C_q21q:Contract Tryz.prog 98 S_q21q:=C_q21q_raw 0
theorem C_q15q_raw (N:Nat):ContractG Tryz.prog 135 (⟨[(K_BPSu8iu64q,true),(K_PiSPiiqq,true)],[K_PiSPiiqq],true,F_q15q N⟩,{ gone:=[1],deep:=[] }):=
  have E:Env Tryz.prog Γ_q15q:=env_ofG tab ⟨C_q37q,⟨C_q21q,trivial⟩⟩ trivial (fun _ h=>by cases h) trivial (by kernel_rfl)
  con_ofG (body:=bodyOf Tryz.f135) (Pc:=[]) E mixed Tryz.func135 (by kernel_rfl) (by kernel_rfl) (by kernel_rfl) (by kernel_rfl) (fun A hA=>trivial) (fun _=>by kernel_rfl)
theorem C_q15q:ContractG Tryz.prog 135 (S_q15q,{ gone:=[1],deep:=[] }):=C_q15q_raw 0
theorem C_q42q_raw (N:Nat):Contract Tryz.prog 94 ⟨[(K_BPSu8iu64q,true),(I,false)],[K_PiSPiiqq],true,F_q42q N⟩:=
  have E:Env Tryz.prog Γ_q42q:=env_ofG tab ⟨C_q37q,⟨C_q50q,⟨C_q86q,⟨C_spec_l2Put,trivial⟩⟩⟩⟩ trivial (fun _ h=>by cases h) ⟨C_q15q,trivial⟩ (by kernel_rfl)
  con_of (body:=bodyOf Tryz.f94) (Pc:=[(0,⟨q42q_l0_h,q42q_l0_o,q42q_l0 N N⟩)]) E rfl mixed Tryz.func94 (by kernel_rfl) (by kernel_rfl) (by kernel_rfl) (by kernel_rfl) (fun A hA=>⟨pc_of (body:=loopOf Tryz.f94 0) (inner:=[(2,⟨q42q_l2_h,q42q_l2_o,q42q_l2 N N⟩)]) E mixed hA (by kernel_rfl) (by kernel_rfl) (by kernel_rfl) ⟨pc_of (body:=loopOf Tryz.f94 2) (inner:=[]) E mixed hA (by kernel_rfl) (by kernel_rfl) (by kernel_rfl) trivial (fun _=>rfl) (fun _ _=>by kernel_rfl) N,trivial⟩ (fun _=>rfl) (fun _ _=>by kernel_rfl) N,trivial⟩) (fun _=>by kernel_rfl)
theorem C_q42q:Contract Tryz.prog 94 S_q42q:=Contract.less (fun N:Nat=>F_q42q N) C_q42q_raw pickF_lim
theorem C_q76q_raw (N:Nat):Contract Tryz.prog 100 ⟨[(I,false),(I,false)],[I],true,F_q76q N⟩:=
  have E:Env Tryz.prog Γ_q76q:=env_of tab trivial
  con_of (body:=bodyOf Tryz.f100) (Pc:=[]) E rfl mixed Tryz.func100 (by kernel_rfl) (by kernel_rfl) (by kernel_rfl) (by kernel_rfl) (fun A hA=>trivial) (fun _=>by kernel_rfl)
theorem C_q76q:Contract Tryz.prog 100 S_q76q:=Contract.less (fun N:Nat=>F_q76q N) C_q76q_raw (fun d r h=>⟨0,(F_q76q_tot 0 d).trans h⟩)
theorem C_q103q_raw (N:Nat):Contract Tryz.prog 153 ⟨[(I,false)],[K_PiSPiiqq],true,F_q103q N⟩:=
  have E:Env Tryz.prog Γ_q103q:=env_of tab trivial
  con_of (body:=bodyOf Tryz.f153) (Pc:=[(0,⟨q103q_l0_h,q103q_l0_o,q103q_l0 N N⟩)]) E rfl mixed Tryz.func153 (by kernel_rfl) (by kernel_rfl) (by kernel_rfl) (by kernel_rfl) (fun A hA=>⟨pc_of (body:=loopOf Tryz.f153 0) (inner:=[]) E mixed hA (by kernel_rfl) (by kernel_rfl) (by kernel_rfl) trivial (fun _=>rfl) (fun _ _=>by kernel_rfl) N,trivial⟩) (fun _=>by kernel_rfl)
theorem C_q103q:Contract Tryz.prog 153 S_q103q:=Contract.less (fun N:Nat=>F_q103q N) C_q103q_raw pickF_lim
theorem C_q82q_raw (N:Nat):Contract Tryz.prog 154 ⟨[(I,false)],[K_PiSPiiqq],true,F_q82q N⟩:=
  have E:Env Tryz.prog Γ_q82q:=env_of tab ⟨C_spec_l2Put,⟨C_q103q,trivial⟩⟩
  con_of (body:=bodyOf Tryz.f154) (Pc:=[]) E rfl mixed Tryz.func154 (by kernel_rfl) (by kernel_rfl) (by kernel_rfl) (by kernel_rfl) (fun A hA=>trivial) (fun _=>by kernel_rfl)
theorem C_q82q:Contract Tryz.prog 154 S_q82q:=C_q82q_raw 0
theorem C_q36q_raw (N:Nat):Contract Tryz.prog 155 ⟨[(I,false)],[K_PiSPiiqq],true,F_q36q N⟩:=
  have E:Env Tryz.prog Γ_q36q:=env_of tab trivial
  con_of (body:=bodyOf Tryz.f155) (Pc:=[(0,⟨q36q_l0_h,q36q_l0_o,q36q_l0 N N⟩)]) E rfl mixed Tryz.func155 (by kernel_rfl) (by kernel_rfl) (by kernel_rfl) (by kernel_rfl) (fun A hA=>⟨pc_of (body:=loopOf Tryz.f155 0) (inner:=[(2,⟨q36q_l2_h,q36q_l2_o,q36q_l2 N N⟩)]) E mixed hA (by kernel_rfl) (by kernel_rfl) (by kernel_rfl) ⟨pc_of (body:=loopOf Tryz.f155 2) (inner:=[]) E mixed hA (by kernel_rfl) (by kernel_rfl) (by kernel_rfl) trivial (fun _=>rfl) (fun _ _=>by kernel_rfl) N,trivial⟩ (fun _=>rfl) (fun _ _=>by kernel_rfl) N,trivial⟩) (fun _=>by kernel_rfl)
theorem C_q36q:Contract Tryz.prog 155 S_q36q:=Contract.less (fun N:Nat=>F_q36q N) C_q36q_raw pickF_lim
theorem C_q87q_raw (N:Nat):Contract Tryz.prog 99 ⟨[(I,false),(I,false)],[I],true,F_q87q N⟩:=
  have E:Env Tryz.prog Γ_q87q:=env_of tab trivial
  con_of (body:=bodyOf Tryz.f99) (Pc:=[]) E rfl mixed Tryz.func99 (by kernel_rfl) (by kernel_rfl) (by kernel_rfl) (by kernel_rfl) (fun A hA=>trivial) (fun _=>by kernel_rfl)
theorem C_q87q:Contract Tryz.prog 99 S_q87q:=Contract.less (fun N:Nat=>F_q87q N) C_q87q_raw (fun d r h=>⟨0,(F_q87q_tot 0 d).trans h⟩)
theorem C_q8q_raw (N:Nat):Contract Tryz.prog 136 ⟨[(K_BPSu8iu64q,true),(I,false)],[K_PiSPiiqq],true,F_q8q N⟩:=
  have E:Env Tryz.prog Γ_q8q:=env_ofG tab ⟨C_q37q,⟨C_q50q,⟨C_q21q,⟨C_q87q,⟨C_q76q,⟨C_spec_l2Put,⟨C_q103q,⟨C_q82q,⟨C_q36q,⟨C_q100q,trivial⟩⟩⟩⟩⟩⟩⟩⟩⟩⟩ trivial (fun _ h=>by cases h) ⟨C_q15q,trivial⟩ (by kernel_rfl)
  con_of (body:=bodyOf Tryz.f136) (Pc:=[(1,⟨q8q_l1_h,q8q_l1_o,q8q_l1 N N⟩)]) E rfl mixed Tryz.func136 (by kernel_rfl) (by kernel_rfl) (by kernel_rfl) (by kernel_rfl) (fun A hA=>⟨pc_of (body:=loopOf Tryz.f136 1) (inner:=[(3,⟨q8q_l3_h,q8q_l3_o,q8q_l3 N N⟩)]) E mixed hA (by kernel_rfl) (by kernel_rfl) (by kernel_rfl) ⟨pc_of (body:=loopOf Tryz.f136 3) (inner:=[]) E mixed hA (by kernel_rfl) (by kernel_rfl) (by kernel_rfl) trivial (fun _=>rfl) (fun _ _=>by kernel_rfl) N,trivial⟩ (fun _=>rfl) (fun _ _=>by kernel_rfl) N,trivial⟩) (fun _=>by kernel_rfl)
theorem C_q8q:Contract Tryz.prog 136 S_q8q:=Contract.less (fun N:Nat=>F_q8q N) C_q8q_raw pickF_lim
theorem C_q27q_raw (N:Nat):Contract Tryz.prog 95 ⟨[(K_BPSu8iu64q,true)],[K_PiSPiiqq],true,F_q27q N⟩:=
  have E:Env Tryz.prog Γ_q27q:=env_of tab ⟨C_q8q,trivial⟩
  con_of (body:=bodyOf Tryz.f95) (Pc:=[]) E rfl mixed Tryz.func95 (by kernel_rfl) (by kernel_rfl) (by kernel_rfl) (by kernel_rfl) (fun A hA=>trivial) (fun _=>by kernel_rfl)
theorem C_q27q:Contract Tryz.prog 95 S_q27q:=C_q27q_raw 0
theorem C_q17q_raw (N:Nat):Contract Tryz.prog 57 ⟨[(K_BPSu8iu64q,true)],[K_PiSPiiqq],true,F_q17q N⟩:=
  have E:Env Tryz.prog Γ_q17q:=env_of tab ⟨C_q50q,⟨C_q42q,⟨C_q27q,trivial⟩⟩⟩
  con_of (body:=bodyOf Tryz.f57) (Pc:=[]) E rfl mixed Tryz.func57 (by kernel_rfl) (by kernel_rfl) (by kernel_rfl) (by kernel_rfl) (fun A hA=>trivial) (fun _=>by kernel_rfl)
theorem C_q17q:Contract Tryz.prog 57 S_q17q:=C_q17q_raw 0
theorem C_q9q_raw (N:Nat):Contract Tryz.prog 19 ⟨[(K_Su8,false)],[K_PiSPiiqq],true,F_q9q N⟩:=
  have E:Env Tryz.prog Γ_q9q:=env_of tab ⟨C_q17q,trivial⟩
  con_of (body:=bodyOf Tryz.f19) (Pc:=[]) E rfl mixed Tryz.func19 (by kernel_rfl) (by kernel_rfl) (by kernel_rfl) (by kernel_rfl) (fun A hA=>trivial) (fun _=>by kernel_rfl)
theorem C_q9q:Contract Tryz.prog 19 S_q9q:=C_q9q_raw 0
theorem C_q92q_raw (N:Nat):Contract Tryz.prog 64 ⟨[(I,false),(I,false),(I,false)],[.bool],true,F_q92q N⟩:=
  have E:Env Tryz.prog Γ_q92q:=env_of tab trivial
  con_of (body:=bodyOf Tryz.f64) (Pc:=[]) E rfl mixed Tryz.func64 (by kernel_rfl) (by kernel_rfl) (by kernel_rfl) (by kernel_rfl) (fun A hA=>trivial) (fun _=>by kernel_rfl)
theorem C_q92q:Contract Tryz.prog 64 S_q92q:=Contract.less (fun N:Nat=>F_q92q N) C_q92q_raw (fun d r h=>⟨0,(F_q92q_tot 0 d).trans h⟩)
theorem C_q59q_raw (N:Nat):Contract Tryz.prog 157 ⟨[(I,false)],[.bool],true,F_q59q N⟩:=
  have E:Env Tryz.prog Γ_q59q:=env_of tab trivial
  con_of (body:=bodyOf Tryz.f157) (Pc:=[]) E rfl mixed Tryz.func157 (by kernel_rfl) (by kernel_rfl) (by kernel_rfl) (by kernel_rfl) (fun A hA=>trivial) (fun _=>by kernel_rfl)
theorem C_q59q:Contract Tryz.prog 157 S_q59q:=Contract.less (fun N:Nat=>F_q59q N) C_q59q_raw (fun d r h=>⟨0,(F_q59q_tot 0 d).trans h⟩)
theorem C_q41q_raw (N:Nat):Contract Tryz.prog 137 ⟨[(I,false),(I,false)],[I],true,F_q41q N⟩:=
  have E:Env Tryz.prog Γ_q41q:=env_of tab ⟨C_q59q,trivial⟩
  con_of (body:=bodyOf Tryz.f137) (Pc:=[]) E rfl mixed Tryz.func137 (by kernel_rfl) (by kernel_rfl) (by kernel_rfl) (by kernel_rfl) (fun A hA=>trivial) (fun _=>by kernel_rfl)
theorem C_q41q:Contract Tryz.prog 137 S_q41q:=Contract.less (fun N:Nat=>F_q41q N) C_q41q_raw (fun d r h=>⟨0,(F_q41q_tot 0 d).trans h⟩)
theorem C_q5q_raw (N:Nat):Contract Tryz.prog 96 ⟨[(K_Si,false),(K_Si,false)],[I],true,F_q5q N⟩:=
  have E:Env Tryz.prog Γ_q5q:=env_of tab ⟨C_q41q,trivial⟩
  con_of (body:=bodyOf Tryz.f96) (Pc:=[(0,⟨q5q_l0_h,q5q_l0_o,q5q_l0 N N⟩)]) E rfl mixed Tryz.func96 (by kernel_rfl) (by kernel_rfl) (by kernel_rfl) (by kernel_rfl) (fun A hA=>⟨pc_of (body:=loopOf Tryz.f96 0) (inner:=[]) E mixed hA (by kernel_rfl) (by kernel_rfl) (by kernel_rfl) trivial (fun _=>rfl) (fun _ _=>by kernel_rfl) N,trivial⟩) (fun _=>by kernel_rfl)
theorem C_q5q:Contract Tryz.prog 96 S_q5q:=Contract.less (fun N:Nat=>F_q5q N) C_q5q_raw compare_lim
theorem C_q71q_raw (N:Nat):Contract Tryz.prog 58 ⟨[(K_PiSPiiqq,false)],[.bool],true,F_q71q N⟩:=
  have E:Env Tryz.prog Γ_q71q:=env_of tab ⟨C_q92q,⟨C_q5q,trivial⟩⟩
  con_of (body:=bodyOf Tryz.f58) (Pc:=[(0,⟨q71q_l0_h,q71q_l0_o,q71q_l0 N N⟩)]) E rfl mixed Tryz.func58 (by kernel_rfl) (by kernel_rfl) (by kernel_rfl) (by kernel_rfl) (fun A hA=>⟨pc_of (body:=loopOf Tryz.f58 0) (inner:=[]) E mixed hA (by kernel_rfl) (by kernel_rfl) (by kernel_rfl) trivial (fun _=>rfl) (fun _ _=>by kernel_rfl) N,trivial⟩) (fun _=>by kernel_rfl)
theorem C_q71q:Contract Tryz.prog 58 S_q71q:=Contract.less (fun N:Nat=>F_q71q N) C_q71q_raw IsGraph_lim
theorem C_q4q_raw (N:Nat):Contract Tryz.prog 59 ⟨[(K_SPiiq,false)],[K_SPiiq],true,F_q4q N⟩:=
  have E:Env Tryz.prog Γ_q4q:=env_of tab trivial
  con_of (body:=bodyOf Tryz.f59) (Pc:=[]) E rfl mixed Tryz.func59 (by kernel_rfl) (by kernel_rfl) (by kernel_rfl) (by kernel_rfl) (fun A hA=>trivial) (fun _=>by kernel_rfl)
theorem C_q4q:Contract Tryz.prog 59 S_q4q:=Contract.less (fun N:Nat=>F_q4q N) C_q4q_raw cloneA2_lim
theorem C_q20q_raw (N:Nat):Contract Tryz.prog 20 ⟨[(K_PiSPiiqq,false)],[K_PPiSPiiqqiiSiiq,.bool],true,F_q20q N⟩:=
  have E:Env Tryz.prog Γ_q20q:=env_of tab ⟨C_q71q,⟨C_q4q,trivial⟩⟩
  con_of (body:=bodyOf Tryz.f20) (Pc:=[]) E rfl mixed Tryz.func20 (by kernel_rfl) (by kernel_rfl) (by kernel_rfl) (by kernel_rfl) (fun A hA=>trivial) (fun _=>by kernel_rfl)
theorem C_q20q:Contract Tryz.prog 20 S_q20q:=C_q20q_raw 0
theorem C_spec_l1In_raw (N:Nat):Contract Tryz.prog 78 ⟨[(I,false),(I,false),(I,false)],[.bool],true,F_spec_l1In N⟩:=
  have E:Env Tryz.prog Γ_spec_l1In:=env_of tab trivial
  con_of (body:=bodyOf Tryz.f78) (Pc:=[]) E rfl mixed Tryz.func78 (by kernel_rfl) (by kernel_rfl) (by kernel_rfl) (by kernel_rfl) (fun A hA=>trivial) (fun _=>by kernel_rfl)
theorem C_spec_l1In:Contract Tryz.prog 78 S_spec_l1In:=Contract.less (fun N:Nat=>F_spec_l1In N) C_spec_l1In_raw (fun d r h=>⟨0,(F_spec_l1In_tot 0 d).trans h⟩)
theorem C_q94q_raw (N:Nat):Contract Tryz.prog 75 ⟨[(K_PiSPiiqq,false)],[.bool],true,F_q94q N⟩:=
  have E:Env Tryz.prog Γ_q94q:=env_of tab ⟨C_spec_l1In,⟨C_q53q,trivial⟩⟩
  con_of (body:=bodyOf Tryz.f75) (Pc:=[(0,⟨q94q_l0_h,q94q_l0_o,q94q_l0 N N⟩)]) E rfl mixed Tryz.func75 (by kernel_rfl) (by kernel_rfl) (by kernel_rfl) (by kernel_rfl) (fun A hA=>⟨pc_of (body:=loopOf Tryz.f75 0) (inner:=[]) E mixed hA (by kernel_rfl) (by kernel_rfl) (by kernel_rfl) trivial (fun _=>rfl) (fun _ _=>by kernel_rfl) N,trivial⟩) (fun _=>by kernel_rfl)
theorem C_q94q:Contract Tryz.prog 75 S_q94q:=Contract.less (fun N:Nat=>F_q94q N) C_q94q_raw l2Good_lim
theorem C_q80q_raw (N:Nat):Contract Tryz.prog 76 ⟨[(K_PiSPiiqq,false),(I,false)],[.bool],true,F_q80q N⟩:=
  have E:Env Tryz.prog Γ_q80q:=env_of tab ⟨C_spec_l1In,trivial⟩
  con_of (body:=bodyOf Tryz.f76) (Pc:=[]) E rfl mixed Tryz.func76 (by kernel_rfl) (by kernel_rfl) (by kernel_rfl) (by kernel_rfl) (fun A hA=>trivial) (fun _=>by kernel_rfl)
theorem C_q80q:Contract Tryz.prog 76 S_q80q:=Contract.less (fun N:Nat=>F_q80q N) C_q80q_raw (fun d r h=>⟨0,(F_q80q_tot 0 d).trans h⟩)
theorem C_q58q_raw (N:Nat):Contract Tryz.prog 112 ⟨[(K_Si,false),(I,false),(I,false)],[.bool],true,F_q58q N⟩:=
  have E:Env Tryz.prog Γ_q58q:=env_of tab ⟨C_spec_l1In,trivial⟩
  con_of (body:=bodyOf Tryz.f112) (Pc:=[(0,⟨q58q_l0_h,q58q_l0_o,q58q_l0 N N⟩)]) E rfl mixed Tryz.func112 (by kernel_rfl) (by kernel_rfl) (by kernel_rfl) (by kernel_rfl) (fun A hA=>⟨pc_of (body:=loopOf Tryz.f112 0) (inner:=[]) E mixed hA (by kernel_rfl) (by kernel_rfl) (by kernel_rfl) trivial (fun _=>rfl) (fun _ _=>by kernel_rfl) N,trivial⟩) (fun _=>by kernel_rfl)
theorem C_q58q:Contract Tryz.prog 112 S_q58q:=Contract.less (fun N:Nat=>F_q58q N) C_q58q_raw l1Rising_lim
theorem C_spec_l2Set_raw (N:Nat):Contract Tryz.prog 77 ⟨[(K_PiSPiiqq,false),(K_Si,false)],[.bool],true,F_spec_l2Set N⟩:=
  have E:Env Tryz.prog Γ_spec_l2Set:=env_of tab ⟨C_q58q,trivial⟩
  con_of (body:=bodyOf Tryz.f77) (Pc:=[]) E rfl mixed Tryz.func77 (by kernel_rfl) (by kernel_rfl) (by kernel_rfl) (by kernel_rfl) (fun A hA=>trivial) (fun _=>by kernel_rfl)
theorem C_spec_l2Set:Contract Tryz.prog 77 S_spec_l2Set:=C_spec_l2Set_raw 0
theorem C_q75q_raw (N:Nat):Contract Tryz.prog 44 ⟨[(K_PPiSPiiqqiiSiiq,false)],[.bool],true,F_q75q N⟩:=
  have E:Env Tryz.prog Γ_q75q:=env_of tab ⟨C_q94q,⟨C_q80q,⟨C_spec_l2Set,⟨C_spec_l1In,trivial⟩⟩⟩⟩
  con_of (body:=bodyOf Tryz.f44) (Pc:=[]) E rfl mixed Tryz.func44 (by kernel_rfl) (by kernel_rfl) (by kernel_rfl) (by kernel_rfl) (fun A hA=>trivial) (fun _=>by kernel_rfl)
theorem C_q75q:Contract Tryz.prog 44 S_q75q:=C_q75q_raw 0
theorem C_spec_l1Own_raw (N:Nat):Contract Tryz.prog 91 ⟨[(K_Si,false)],[K_Si],true,F_spec_l1Own N⟩:=
  have E:Env Tryz.prog Γ_spec_l1Own:=env_of tab trivial
  con_of (body:=bodyOf Tryz.f91) (Pc:=[]) E rfl mixed Tryz.func91 (by kernel_rfl) (by kernel_rfl) (by kernel_rfl) (by kernel_rfl) (fun A hA=>trivial) (fun _=>by kernel_rfl)
theorem C_spec_l1Own:Contract Tryz.prog 91 S_spec_l1Own:=C_spec_l1Own_raw 0
theorem C_q88q_raw (N:Nat):Contract Tryz.prog 55 ⟨[(K_PPiSPiiqqiiSiiq,false)],[K_PPiSPiiqqiiSiiq],true,F_q88q N⟩:=
  have E:Env Tryz.prog Γ_q88q:=env_of tab ⟨C_spec_l1Own,trivial⟩
  con_of (body:=bodyOf Tryz.f55) (Pc:=[]) E rfl mixed Tryz.func55 (by kernel_rfl) (by kernel_rfl) (by kernel_rfl) (by kernel_rfl) (fun A hA=>trivial) (fun _=>by kernel_rfl)
theorem C_q88q:Contract Tryz.prog 55 S_q88q:=C_q88q_raw 0
theorem C_q26q_raw (N:Nat):Contract Tryz.prog 21 ⟨[(K_PiSPiiqq,false)],[K_PPiSPiiqqiiSiiq,.bool],true,F_q26q N⟩:=
  have E:Env Tryz.prog Γ_q26q:=env_of tab ⟨C_q75q,⟨C_q88q,trivial⟩⟩
  con_of (body:=bodyOf Tryz.f21) (Pc:=[]) E rfl mixed Tryz.func21 (by kernel_rfl) (by kernel_rfl) (by kernel_rfl) (by kernel_rfl) (fun A hA=>trivial) (fun _=>by kernel_rfl)
theorem C_q26q:Contract Tryz.prog 21 S_q26q:=C_q26q_raw 0
theorem C_laws_vCut_raw (N:Nat):Contract Tryz.prog 23 ⟨[(K_Su8,false),(I,false)],[K_Su8],true,F_laws_vCut N⟩:=
  have E:Env Tryz.prog Γ_laws_vCut:=env_of tab trivial
  con_of (body:=bodyOf Tryz.f23) (Pc:=[]) E rfl mixed Tryz.func23 (by kernel_rfl) (by kernel_rfl) (by kernel_rfl) (by kernel_rfl) (fun A hA=>trivial) (fun _=>by kernel_rfl)
theorem C_laws_vCut:Contract Tryz.prog 23 S_laws_vCut:=C_laws_vCut_raw 0
theorem C_q95q_raw (N:Nat):Contract Tryz.prog 97 ⟨[(I,false),(I,false)],[K_Si],true,F_q95q N⟩:=
  have E:Env Tryz.prog Γ_q95q:=env_of tab trivial
  con_of (body:=bodyOf Tryz.f97) (Pc:=[(0,⟨q95q_l0_h,q95q_l0_o,q95q_l0 N N⟩)]) E rfl mixed Tryz.func97 (by kernel_rfl) (by kernel_rfl) (by kernel_rfl) (by kernel_rfl) (fun A hA=>⟨pc_of (body:=loopOf Tryz.f97 0) (inner:=[]) E mixed hA (by kernel_rfl) (by kernel_rfl) (by kernel_rfl) trivial (fun _=>rfl) (fun _ _=>by kernel_rfl) N,trivial⟩) (fun _=>by kernel_rfl)
theorem C_q95q:Contract Tryz.prog 97 S_q95q:=Contract.less (fun N:Nat=>F_q95q N) C_q95q_raw l2Bits_lim
theorem C_q16q_raw (N:Nat):Contract Tryz.prog 61 ⟨[(K_BPSu8iu64q,true),(K_PiSPiiqq,false)],[K_Piiiq],true,F_q16q N⟩:=
  have E:Env Tryz.prog Γ_q16q:=env_of tab ⟨C_q37q,⟨C_q21q,⟨C_q87q,⟨C_q76q,trivial⟩⟩⟩⟩
  con_of (body:=bodyOf Tryz.f61) (Pc:=[]) E rfl mixed Tryz.func61 (by kernel_rfl) (by kernel_rfl) (by kernel_rfl) (by kernel_rfl) (fun A hA=>trivial) (fun _=>by kernel_rfl)
theorem C_q16q:Contract Tryz.prog 61 S_q16q:=C_q16q_raw 0
theorem C_q105q_raw (N:Nat):Contract Tryz.prog 113 ⟨[(K_PiSPiiqq,false),(I,false)],[.bool],true,F_q105q N⟩:=
  have E:Env Tryz.prog Γ_q105q:=env_of tab ⟨C_spec_l1In,trivial⟩
  con_of (body:=bodyOf Tryz.f113) (Pc:=[]) E rfl mixed Tryz.func113 (by kernel_rfl) (by kernel_rfl) (by kernel_rfl) (by kernel_rfl) (fun A hA=>trivial) (fun _=>by kernel_rfl)
theorem C_q105q:Contract Tryz.prog 113 S_q105q:=Contract.less (fun N:Nat=>F_q105q N) C_q105q_raw (fun d r h=>⟨0,(F_q105q_tot 0 d).trans h⟩)
theorem C_spec_l3Two_raw (N:Nat):Contract Tryz.prog 114 ⟨[(K_PiSPiiqq,false),(I,false),(I,false)],[.bool],true,F_spec_l3Two N⟩:=
  have E:Env Tryz.prog Γ_spec_l3Two:=env_of tab ⟨C_q94q,⟨C_q105q,trivial⟩⟩
  con_of (body:=bodyOf Tryz.f114) (Pc:=[]) E rfl mixed Tryz.func114 (by kernel_rfl) (by kernel_rfl) (by kernel_rfl) (by kernel_rfl) (fun A hA=>trivial) (fun _=>by kernel_rfl)
theorem C_spec_l3Two:Contract Tryz.prog 114 S_spec_l3Two:=C_spec_l3Two_raw 0
theorem C_q55q_raw (N:Nat):Contract Tryz.prog 116 ⟨[(K_PPiSPiiqqiiSiiq,false)],[.bool],true,F_q55q N⟩:=
  have E:Env Tryz.prog Γ_q55q:=env_of tab trivial
  con_of (body:=bodyOf Tryz.f116) (Pc:=[]) E rfl mixed Tryz.func116 (by kernel_rfl) (by kernel_rfl) (by kernel_rfl) (by kernel_rfl) (fun A hA=>trivial) (fun _=>by kernel_rfl)
theorem C_q55q:Contract Tryz.prog 116 S_q55q:=Contract.less (fun N:Nat=>F_q55q N) C_q55q_raw (fun d r h=>⟨0,(F_q55q_tot 0 d).trans h⟩)
theorem C_spec_l1Has_raw (N:Nat):Contract Tryz.prog 120 ⟨[(K_Si,false),(I,false)],[.bool],true,F_spec_l1Has N⟩:=
  have E:Env Tryz.prog Γ_spec_l1Has:=env_of tab trivial
  con_of (body:=bodyOf Tryz.f120) (Pc:=[(0,⟨spec_l1Has_l0_h,spec_l1Has_l0_o,spec_l1Has_l0 N N⟩)]) E rfl mixed Tryz.func120 (by kernel_rfl) (by kernel_rfl) (by kernel_rfl) (by kernel_rfl) (fun A hA=>⟨pc_of (body:=loopOf Tryz.f120 0) (inner:=[]) E mixed hA (by kernel_rfl) (by kernel_rfl) (by kernel_rfl) trivial (fun _=>rfl) (fun _ _=>by kernel_rfl) N,trivial⟩) (fun _=>by kernel_rfl)
theorem C_spec_l1Has:Contract Tryz.prog 120 S_spec_l1Has:=Contract.less (fun N:Nat=>F_spec_l1Has N) C_spec_l1Has_raw l1Has_lim
theorem C_q51q_raw (N:Nat):Contract Tryz.prog 115 ⟨[(K_PPiSPiiqqiiSiiq,false),(I,false),(I,false)],[.bool],true,F_q51q N⟩:=
  have E:Env Tryz.prog Γ_q51q:=env_of tab ⟨C_q55q,⟨C_spec_l1Has,⟨C_q86q,trivial⟩⟩⟩
  con_of (body:=bodyOf Tryz.f115) (Pc:=[]) E rfl mixed Tryz.func115 (by kernel_rfl) (by kernel_rfl) (by kernel_rfl) (by kernel_rfl) (fun A hA=>trivial) (fun _=>by kernel_rfl)
theorem C_q51q:Contract Tryz.prog 115 S_q51q:=C_q51q_raw 0
theorem C_q101q_raw (N:Nat):Contract Tryz.prog 79 ⟨[(K_PPiSPiiqqiiSiiq,false),(K_Piiiq,false)],[.bool],true,F_q101q N⟩:=
  have E:Env Tryz.prog Γ_q101q:=env_of tab ⟨C_q80q,⟨C_q105q,⟨C_spec_l3Two,⟨C_q51q,⟨C_q55q,trivial⟩⟩⟩⟩⟩
  con_of (body:=bodyOf Tryz.f79) (Pc:=[]) E rfl mixed Tryz.func79 (by kernel_rfl) (by kernel_rfl) (by kernel_rfl) (by kernel_rfl) (fun A hA=>trivial) (fun _=>by kernel_rfl)
theorem C_q101q:Contract Tryz.prog 79 S_q101q:=C_q101q_raw 0
theorem C_spec_l2All_raw (N:Nat):Contract Tryz.prog 144 ⟨[(K_PiSPiiqq,false)],[K_Si],true,F_spec_l2All N⟩:=
  have E:Env Tryz.prog Γ_spec_l2All:=env_of tab ⟨C_q95q,trivial⟩
  con_of (body:=bodyOf Tryz.f144) (Pc:=[]) E rfl mixed Tryz.func144 (by kernel_rfl) (by kernel_rfl) (by kernel_rfl) (by kernel_rfl) (fun A hA=>trivial) (fun _=>by kernel_rfl)
theorem C_spec_l2All:Contract Tryz.prog 144 S_spec_l2All:=C_spec_l2All_raw 0
theorem C_q48q_raw (N:Nat):Contract Tryz.prog 121 ⟨[(K_Si,false),(I,false)],[K_Si],true,F_q48q N⟩:=
  have E:Env Tryz.prog Γ_q48q:=env_of tab trivial
  con_of (body:=bodyOf Tryz.f121) (Pc:=[(0,⟨q48q_l0_h,q48q_l0_o,q48q_l0 N N⟩)]) E rfl mixed Tryz.func121 (by kernel_rfl) (by kernel_rfl) (by kernel_rfl) (by kernel_rfl) (fun A hA=>⟨pc_of (body:=loopOf Tryz.f121 0) (inner:=[]) E mixed hA (by kernel_rfl) (by kernel_rfl) (by kernel_rfl) trivial (fun _=>rfl) (fun _ _=>by kernel_rfl) N,trivial⟩) (fun _=>by kernel_rfl)
theorem C_q48q:Contract Tryz.prog 121 S_q48q:=Contract.less (fun N:Nat=>F_q48q N) C_q48q_raw l2Without_lim
theorem C_q46q_raw (N:Nat):Contract Tryz.prog 143 ⟨[(K_PiSPiiqq,false),(K_Si,false)],[K_PiSPiiqq],true,F_q46q N⟩:=
  have E:Env Tryz.prog Γ_q46q:=env_of tab ⟨C_q100q,trivial⟩
  con_of (body:=bodyOf Tryz.f143) (Pc:=[(0,⟨q46q_l0_h,q46q_l0_o,q46q_l0 N N⟩)]) E rfl mixed Tryz.func143 (by kernel_rfl) (by kernel_rfl) (by kernel_rfl) (by kernel_rfl) (fun A hA=>⟨pc_of (body:=loopOf Tryz.f143 0) (inner:=[(2,⟨q46q_l2_h,q46q_l2_o,q46q_l2 N N⟩)]) E mixed hA (by kernel_rfl) (by kernel_rfl) (by kernel_rfl) ⟨pc_of (body:=loopOf Tryz.f143 2) (inner:=[]) E mixed hA (by kernel_rfl) (by kernel_rfl) (by kernel_rfl) trivial (fun _=>rfl) (fun _ _=>by kernel_rfl) N,trivial⟩ (fun _=>rfl) (fun _ _=>by kernel_rfl) N,trivial⟩) (fun _=>by kernel_rfl)
theorem C_q46q:Contract Tryz.prog 143 S_q46q:=Contract.less (fun N:Nat=>F_q46q N) C_q46q_raw l2Induced_lim
theorem C_q69q_raw (N:Nat):Contract Tryz.prog 145 ⟨[(I,false),(I,false)],[I],true,F_q69q N⟩:=
  have E:Env Tryz.prog Γ_q69q:=env_of tab trivial
  con_of (body:=bodyOf Tryz.f145) (Pc:=[]) E rfl mixed Tryz.func145 (by kernel_rfl) (by kernel_rfl) (by kernel_rfl) (by kernel_rfl) (fun A hA=>trivial) (fun _=>by kernel_rfl)
theorem C_q69q:Contract Tryz.prog 145 S_q69q:=Contract.less (fun N:Nat=>F_q69q N) C_q69q_raw (fun d r h=>⟨0,(F_q69q_tot 0 d).trans h⟩)
theorem C_q65q_raw (N:Nat):Contract Tryz.prog 117 ⟨[(K_PPiSPiiqqiiSiiq,false),(I,false)],[K_PPiSPiiqqiiSiiq],true,F_q65q N⟩:=
  have E:Env Tryz.prog Γ_q65q:=env_of tab ⟨C_q88q,⟨C_q48q,⟨C_q46q,⟨C_spec_l2All,⟨C_q69q,trivial⟩⟩⟩⟩⟩
  con_of (body:=bodyOf Tryz.f117) (Pc:=[(0,⟨q65q_l0_h,q65q_l0_o,q65q_l0 N N⟩)]) E rfl mixed Tryz.func117 (by kernel_rfl) (by kernel_rfl) (by kernel_rfl) (by kernel_rfl) (fun A hA=>⟨pc_of (body:=loopOf Tryz.f117 0) (inner:=[]) E mixed hA (by kernel_rfl) (by kernel_rfl) (by kernel_rfl) trivial (fun _=>rfl) (fun _ _=>by kernel_rfl) N,trivial⟩) (fun _=>by kernel_rfl)
theorem C_q65q:Contract Tryz.prog 117 S_q65q:=Contract.less (fun N:Nat=>F_q65q N) C_q65q_raw l12Drop_lim
theorem C_q39q_raw (N:Nat):Contract Tryz.prog 118 ⟨[(K_PiSPiiqq,false),(I,false),(I,false)],[K_PiSPiiqq,.bool],true,F_q39q N⟩:=
  have E:Env Tryz.prog Γ_q39q:=env_ofG tab ⟨C_q94q,⟨C_q87q,⟨C_q76q,⟨C_q105q,⟨C_spec_l2Put,trivial⟩⟩⟩⟩⟩ trivial (fun _ h=>by cases h) trivial (by kernel_rfl)
  con_of (body:=bodyOf Tryz.f118) (Pc:=[(0,⟨q39q_l0_h,q39q_l0_o,q39q_l0 N N⟩)]) E rfl mixed Tryz.func118 (by kernel_rfl) (by kernel_rfl) (by kernel_rfl) (by kernel_rfl) (fun A hA=>⟨pc_of (body:=loopOf Tryz.f118 0) (inner:=[]) E mixed hA (by kernel_rfl) (by kernel_rfl) (by kernel_rfl) trivial (fun _=>rfl) (fun _ _=>by kernel_rfl) N,trivial⟩) (fun _=>by kernel_rfl)
theorem C_q39q:Contract Tryz.prog 118 S_q39q:=Contract.less (fun N:Nat=>F_q39q N) C_q39q_raw ToggleEdge_lim
theorem C_q85q_raw (N:Nat):Contract Tryz.prog 141 ⟨[(.bool,false)],[I],true,F_q85q N⟩:=
  have E:Env Tryz.prog Γ_q85q:=env_of tab trivial
  con_of (body:=bodyOf Tryz.f141) (Pc:=[]) E rfl mixed Tryz.func141 (by kernel_rfl) (by kernel_rfl) (by kernel_rfl) (by kernel_rfl) (fun A hA=>trivial) (fun _=>by kernel_rfl)
theorem C_q85q:Contract Tryz.prog 141 S_q85q:=Contract.less (fun N:Nat=>F_q85q N) C_q85q_raw (fun d r h=>⟨0,(F_q85q_tot 0 d).trans h⟩)
theorem C_q74q_raw (N:Nat):Contract Tryz.prog 166 ⟨[(K_PiSPiiqq,false),(K_SSi,false),(I,false),(I,false)],[I],true,F_q74q N⟩:=
  have E:Env Tryz.prog Γ_q74q:=env_of tab ⟨C_q87q,⟨C_q86q,trivial⟩⟩
  con_of (body:=bodyOf Tryz.f166) (Pc:=[(0,⟨q74q_l0_h,q74q_l0_o,q74q_l0 N N⟩)]) E rfl mixed Tryz.func166 (by kernel_rfl) (by kernel_rfl) (by kernel_rfl) (by kernel_rfl) (fun A hA=>⟨pc_of (body:=loopOf Tryz.f166 0) (inner:=[]) E mixed hA (by kernel_rfl) (by kernel_rfl) (by kernel_rfl) trivial (fun _=>rfl) (fun _ _=>by kernel_rfl) N,trivial⟩) (fun _=>by kernel_rfl)
theorem C_q74q:Contract Tryz.prog 166 S_q74q:=Contract.less (fun N:Nat=>F_q74q N) C_q74q_raw l3Worst_lim
theorem C_q70q_raw (N:Nat):Contract Tryz.prog 161 ⟨[(K_PiSPiiqq,false),(K_SSi,false),(I,false),(I,false)],[I],true,F_q70q N⟩:=
  have E:Env Tryz.prog Γ_q70q:=env_of tab ⟨C_q74q,trivial⟩
  con_of (body:=bodyOf Tryz.f161) (Pc:=[]) E rfl mixed Tryz.func161 (by kernel_rfl) (by kernel_rfl) (by kernel_rfl) (by kernel_rfl) (fun A hA=>trivial) (fun _=>by kernel_rfl)
theorem C_q70q:Contract Tryz.prog 161 S_q70q:=C_q70q_raw 0
theorem C_q89q_raw (N:Nat):Contract Tryz.prog 142 ⟨[(K_PiSPiiqq,false),(K_SSi,false),(I,false),(I,false)],[I],true,F_q89q N⟩:=
  have E:Env Tryz.prog Γ_q89q:=env_of tab ⟨C_q86q,⟨C_q70q,trivial⟩⟩
  con_of (body:=bodyOf Tryz.f142) (Pc:=[(0,⟨q89q_l0_h,q89q_l0_o,q89q_l0 N N⟩)]) E rfl mixed Tryz.func142 (by kernel_rfl) (by kernel_rfl) (by kernel_rfl) (by kernel_rfl) (fun A hA=>⟨pc_of (body:=loopOf Tryz.f142 0) (inner:=[]) E mixed hA (by kernel_rfl) (by kernel_rfl) (by kernel_rfl) trivial (fun _=>rfl) (fun _ _=>by kernel_rfl) N,trivial⟩) (fun _=>by kernel_rfl)
theorem C_q89q:Contract Tryz.prog 142 S_q89q:=Contract.less (fun N:Nat=>F_q89q N) C_q89q_raw l3Best_lim
theorem C_q62q_raw (N:Nat):Contract Tryz.prog 106 ⟨[(K_PiSPiiqq,false)],[K_SSi],true,F_q62q N⟩:=
  have E:Env Tryz.prog Γ_q62q:=env_of tab ⟨C_spec_l1Own,⟨C_q85q,⟨C_q89q,trivial⟩⟩⟩
  con_of (body:=bodyOf Tryz.f106) (Pc:=[(0,⟨q62q_l0_h,q62q_l0_o,q62q_l0 N N⟩),(4,⟨q62q_l4_h,q62q_l4_o,q62q_l4 N N⟩)]) E rfl mixed Tryz.func106 (by kernel_rfl) (by kernel_rfl) (by kernel_rfl) (by kernel_rfl) (fun A hA=>⟨pc_of (body:=loopOf Tryz.f106 0) (inner:=[(2,⟨q62q_l2_h,q62q_l2_o,q62q_l2 N N⟩)]) E mixed hA (by kernel_rfl) (by kernel_rfl) (by kernel_rfl) ⟨pc_of (body:=loopOf Tryz.f106 2) (inner:=[]) E mixed hA (by kernel_rfl) (by kernel_rfl) (by kernel_rfl) trivial (fun _=>rfl) (fun _ _=>by kernel_rfl) N,trivial⟩ (fun _=>rfl) (fun _ _=>by kernel_rfl) N,⟨pc_of (body:=loopOf Tryz.f106 4) (inner:=[(6,⟨q62q_l6_h,q62q_l6_o,q62q_l6 N N⟩)]) E mixed hA (by kernel_rfl) (by kernel_rfl) (by kernel_rfl) ⟨pc_of (body:=loopOf Tryz.f106 6) (inner:=[(8,⟨q62q_l8_h,q62q_l8_o,q62q_l8 N N⟩)]) E mixed hA (by kernel_rfl) (by kernel_rfl) (by kernel_rfl) ⟨pc_of (body:=loopOf Tryz.f106 8) (inner:=[]) E mixed hA (by kernel_rfl) (by kernel_rfl) (by kernel_rfl) trivial (fun _=>rfl) (fun _ _=>by kernel_rfl) N,trivial⟩ (fun _=>rfl) (fun _ _=>by kernel_rfl) N,trivial⟩ (fun _=>rfl) (fun _ _=>by kernel_rfl) N,trivial⟩⟩) (fun _=>by kernel_rfl)
theorem C_q62q:Contract Tryz.prog 106 S_q62q:=Contract.less (fun N:Nat=>F_q62q N) C_q62q_raw l3Times_lim
theorem C_q78q_raw (N:Nat):Contract Tryz.prog 162 ⟨[(K_PiSPiiqq,false),(K_SSi,false),(I,false),(I,false)],[I],true,F_q78q N⟩:=
  have E:Env Tryz.prog Γ_q78q:=env_of tab ⟨C_q86q,⟨C_q70q,trivial⟩⟩
  con_of (body:=bodyOf Tryz.f162) (Pc:=[(0,⟨q78q_l0_h,q78q_l0_o,q78q_l0 N N⟩)]) E rfl mixed Tryz.func162 (by kernel_rfl) (by kernel_rfl) (by kernel_rfl) (by kernel_rfl) (fun A hA=>⟨pc_of (body:=loopOf Tryz.f162 0) (inner:=[]) E mixed hA (by kernel_rfl) (by kernel_rfl) (by kernel_rfl) trivial (fun _=>rfl) (fun _ _=>by kernel_rfl) N,trivial⟩) (fun _=>by kernel_rfl)
theorem C_q78q:Contract Tryz.prog 162 S_q78q:=Contract.less (fun N:Nat=>F_q78q N) C_q78q_raw l3Chase_lim
theorem C_q83q_raw (N:Nat):Contract Tryz.prog 146 ⟨[(K_PiSPiiqq,false),(I,false),(I,false)],[I,.bool],true,F_q83q N⟩:=
  have E:Env Tryz.prog Γ_q83q:=env_of tab ⟨C_q62q,⟨C_spec_l3Two,⟨C_q78q,trivial⟩⟩⟩
  con_of (body:=bodyOf Tryz.f146) (Pc:=[]) E rfl mixed Tryz.func146 (by kernel_rfl) (by kernel_rfl) (by kernel_rfl) (by kernel_rfl) (fun A hA=>trivial) (fun _=>by kernel_rfl)
theorem C_q83q:Contract Tryz.prog 146 S_q83q:=C_q83q_raw 0
theorem C_q98q_raw (N:Nat):Contract Tryz.prog 163 ⟨[(K_PiSPiiqq,false),(K_SSi,false),(I,false),(I,false)],[I],true,F_q98q N⟩:=
  have E:Env Tryz.prog Γ_q98q:=env_of tab ⟨C_q86q,trivial⟩
  con_of (body:=bodyOf Tryz.f163) (Pc:=[(0,⟨q98q_l0_h,q98q_l0_o,q98q_l0 N N⟩)]) E rfl mixed Tryz.func163 (by kernel_rfl) (by kernel_rfl) (by kernel_rfl) (by kernel_rfl) (fun A hA=>⟨pc_of (body:=loopOf Tryz.f163 0) (inner:=[]) E mixed hA (by kernel_rfl) (by kernel_rfl) (by kernel_rfl) trivial (fun _=>rfl) (fun _ _=>by kernel_rfl) N,trivial⟩) (fun _=>by kernel_rfl)
theorem C_q98q:Contract Tryz.prog 163 S_q98q:=Contract.less (fun N:Nat=>F_q98q N) C_q98q_raw l3Flee_lim
theorem C_q35q_raw (N:Nat):Contract Tryz.prog 147 ⟨[(K_PiSPiiqq,false),(I,false),(I,false)],[I,.bool],true,F_q35q N⟩:=
  have E:Env Tryz.prog Γ_q35q:=env_of tab ⟨C_q62q,⟨C_spec_l3Two,⟨C_q98q,trivial⟩⟩⟩
  con_of (body:=bodyOf Tryz.f147) (Pc:=[]) E rfl mixed Tryz.func147 (by kernel_rfl) (by kernel_rfl) (by kernel_rfl) (by kernel_rfl) (fun A hA=>trivial) (fun _=>by kernel_rfl)
theorem C_q35q:Contract Tryz.prog 147 S_q35q:=C_q35q_raw 0
theorem C_q68q_raw (N:Nat):Contract Tryz.prog 119 ⟨[(K_PPiSPiiqqiiSiiq,false)],[K_PPiSPiiqqiiSiiq],true,F_q68q N⟩:=
  have E:Env Tryz.prog Γ_q68q:=env_of tab ⟨C_q88q,⟨C_q83q,⟨C_q35q,trivial⟩⟩⟩
  con_of (body:=bodyOf Tryz.f119) (Pc:=[]) E rfl mixed Tryz.func119 (by kernel_rfl) (by kernel_rfl) (by kernel_rfl) (by kernel_rfl) (fun A hA=>trivial) (fun _=>by kernel_rfl)
theorem C_q68q:Contract Tryz.prog 119 S_q68q:=C_q68q_raw 0
theorem C_q72q_raw (N:Nat):Contract Tryz.prog 164 ⟨[(K_PiSPiiqq,false),(K_Si,false),(I,false)],[K_Si],true,F_q72q N⟩:=
  have E:Env Tryz.prog Γ_q72q:=env_of tab ⟨C_spec_l1Has,⟨C_q23q,trivial⟩⟩
  con_of (body:=bodyOf Tryz.f164) (Pc:=[(0,⟨q72q_l0_h,q72q_l0_o,q72q_l0 N N⟩)]) E rfl mixed Tryz.func164 (by kernel_rfl) (by kernel_rfl) (by kernel_rfl) (by kernel_rfl) (fun A hA=>⟨pc_of (body:=loopOf Tryz.f164 0) (inner:=[]) E mixed hA (by kernel_rfl) (by kernel_rfl) (by kernel_rfl) trivial (fun _=>rfl) (fun _ _=>by kernel_rfl) N,trivial⟩) (fun _=>by kernel_rfl)
theorem C_q72q:Contract Tryz.prog 164 S_q72q:=Contract.less (fun N:Nat=>F_q72q N) C_q72q_raw l5Among_lim
theorem C_q93q_raw (N:Nat):Contract Tryz.prog 148 ⟨[(K_PiSPiiqq,false),(K_Si,false),(I,false)],[K_Si],true,F_q93q N⟩:=
  have E:Env Tryz.prog Γ_q93q:=env_of tab ⟨C_q72q,trivial⟩
  con_of (body:=bodyOf Tryz.f148) (Pc:=[]) E rfl mixed Tryz.func148 (by kernel_rfl) (by kernel_rfl) (by kernel_rfl) (by kernel_rfl) (fun A hA=>trivial) (fun _=>by kernel_rfl)
theorem C_q93q:Contract Tryz.prog 148 S_q93q:=C_q93q_raw 0
theorem C_q104q_raw (N:Nat):Contract Tryz.prog 123 ⟨[(K_PiSPiiqq,false),(K_Si,false),(.bool,false)],[K_Si],true,F_q104q N⟩:=
  have E:Env Tryz.prog Γ_q104q:=env_ofG tab ⟨C_spec_l1Own,⟨C_spec_l1Has,⟨C_q93q,trivial⟩⟩⟩ trivial (fun _ h=>by cases h) ⟨C_q79q,trivial⟩ (by kernel_rfl)
  con_of (body:=bodyOf Tryz.f123) (Pc:=[(0,⟨q104q_l0_h,q104q_l0_o,q104q_l0 N N⟩)]) E rfl mixed Tryz.func123 (by kernel_rfl) (by kernel_rfl) (by kernel_rfl) (by kernel_rfl) (fun A hA=>⟨pc_of (body:=loopOf Tryz.f123 0) (inner:=[]) E mixed hA (by kernel_rfl) (by kernel_rfl) (by kernel_rfl) trivial (fun _=>rfl) (fun _ _=>by kernel_rfl) N,trivial⟩) (fun _=>by kernel_rfl)
theorem C_q104q:Contract Tryz.prog 123 S_q104q:=Contract.less (fun N:Nat=>F_q104q N) C_q104q_raw l9Once_lim
theorem C_q90q_raw (N:Nat):Contract Tryz.prog 124 ⟨[(K_PiSPiiqq,false),(K_Si,false)],[K_Si],true,F_q90q N⟩:=
  have E:Env Tryz.prog Γ_q90q:=env_of tab ⟨C_spec_l1Has,trivial⟩
  con_of (body:=bodyOf Tryz.f124) (Pc:=[(0,⟨q90q_l0_h,q90q_l0_o,q90q_l0 N N⟩)]) E rfl mixed Tryz.func124 (by kernel_rfl) (by kernel_rfl) (by kernel_rfl) (by kernel_rfl) (fun A hA=>⟨pc_of (body:=loopOf Tryz.f124 0) (inner:=[]) E mixed hA (by kernel_rfl) (by kernel_rfl) (by kernel_rfl) trivial (fun _=>rfl) (fun _ _=>by kernel_rfl) N,trivial⟩) (fun _=>by kernel_rfl)
theorem C_q90q:Contract Tryz.prog 124 S_q90q:=Contract.less (fun N:Nat=>F_q90q N) C_q90q_raw l5Rest_lim
theorem C_q67q_raw (N:Nat):Contract Tryz.prog 122 ⟨[(K_Si,false),(I,false)],[K_Si],true,F_q67q N⟩:=
  have E:Env Tryz.prog Γ_q67q:=env_of tab trivial
  con_of (body:=bodyOf Tryz.f122) (Pc:=[(0,⟨q67q_l0_h,q67q_l0_o,q67q_l0 N N⟩)]) E rfl mixed Tryz.func122 (by kernel_rfl) (by kernel_rfl) (by kernel_rfl) (by kernel_rfl) (fun A hA=>⟨pc_of (body:=loopOf Tryz.f122 0) (inner:=[]) E mixed hA (by kernel_rfl) (by kernel_rfl) (by kernel_rfl) trivial (fun _=>rfl) (fun _ _=>by kernel_rfl) N,trivial⟩) (fun _=>by kernel_rfl)
theorem C_q67q:Contract Tryz.prog 122 S_q67q:=Contract.less (fun N:Nat=>F_q67q N) C_q67q_raw l1PutN_lim
theorem C_q73q_raw (N:Nat):Contract Tryz.prog 80 ⟨[(K_PPiSPiiqqiiSiiq,false),(K_Piiiq,false)],[K_PPiSPiiqqiiSiiq],true,F_q73q N⟩:=
  have E:Env Tryz.prog Γ_q73q:=env_of tab ⟨C_q88q,⟨C_q65q,⟨C_q39q,⟨C_q68q,⟨C_spec_l1Has,⟨C_q48q,⟨C_q67q,⟨C_q104q,⟨C_q90q,trivial⟩⟩⟩⟩⟩⟩⟩⟩⟩
  con_of (body:=bodyOf Tryz.f80) (Pc:=[]) E rfl mixed Tryz.func80 (by kernel_rfl) (by kernel_rfl) (by kernel_rfl) (by kernel_rfl) (fun A hA=>trivial) (fun _=>by kernel_rfl)
theorem C_q73q:Contract Tryz.prog 80 S_q73q:=C_q73q_raw 0
theorem C_spec_l12Do_raw (N:Nat):Contract Tryz.prog 45 ⟨[(K_PPiSPiiqqiiSiiq,false),(K_Piiiq,false)],[K_PPiSPiiqqiiSiiq,.bool],true,F_spec_l12Do N⟩:=
  have E:Env Tryz.prog Γ_spec_l12Do:=env_of tab ⟨C_q75q,⟨C_q101q,⟨C_q73q,trivial⟩⟩⟩
  con_of (body:=bodyOf Tryz.f45) (Pc:=[]) E rfl mixed Tryz.func45 (by kernel_rfl) (by kernel_rfl) (by kernel_rfl) (by kernel_rfl) (fun A hA=>trivial) (fun _=>by kernel_rfl)
theorem C_spec_l12Do:Contract Tryz.prog 45 S_spec_l12Do:=Contract.less (fun N:Nat=>F_spec_l12Do N) C_spec_l12Do_raw l12Do_lim
theorem C_q45q:Contract Tryz.prog 44 S_q45q:=Contract.same (Contract.soft1 (k:=K_PPiZPiiqqiiSiiq) C_q75q) (fun _=>rfl)
theorem C_q81q:ContractG Tryz.prog 45 (S_q81q,{ fr:=true }):=ContractG.same (Contract.soft2 (k:=K_PPiZPiiqqiiSiiq) rfl C_spec_l12Do) (fun d=>map_eta (G_do d) _ fun _=>rfl)
theorem tabLz:TabOk Tryz.prog (assoc tksLz) (assoc arsLz):=tab_of (by kernel_rfl)
theorem C_q11q_raw (N:Nat):Contract Tryz.prog 60 ⟨[(K_BPSu8iu64q,true)],[K_PPiZPiiqqiiSiiq],true,F_q11q N⟩:=
  have E:Env Tryz.prog Γ_q11q:=env_ofG tabLz ⟨C_q45q,⟨C_q17q,⟨C_q16q,⟨C_q37q,⟨C_q94q,⟨C_q50q,⟨C_q95q,⟨C_q21q,trivial⟩⟩⟩⟩⟩⟩⟩⟩ trivial (fun _ h=>by cases h) ⟨C_q81q,trivial⟩ (by kernel_rfl)
  con_of (body:=bodyOf Tryz.f60) (Pc:=[(0,⟨q11q_l0_h,q11q_l0_o,q11q_l0 N N⟩)]) E rfl mixed Tryz.func60 (by kernel_rfl) (by kernel_rfl) (by kernel_rfl) (by kernel_rfl) (fun A hA=>⟨pc_of (body:=loopOf Tryz.f60 0) (inner:=[]) E mixed hA (by kernel_rfl) (by kernel_rfl) (by kernel_rfl) trivial (fun _=>rfl) (fun _ _=>by kernel_rfl) N,trivial⟩) (fun _=>by kernel_rfl)
theorem C_q11q:Contract Tryz.prog 60 S_q11q:=Contract.same (Contract.hard (k:=K_PPiZPiiqqiiSiiq) (Contract.less (fun N:Nat=>F_q11q N) C_q11q_raw pickF_lim)) (fun d=>map_eta ((pickF F_q11q P_shop) d) _ fun _=>rfl)
theorem C_q40q_raw (N:Nat):Contract Tryz.prog 22 ⟨[(K_Su8,false)],[K_PPiSPiiqqiiSiiq,K_Piiiq],false,F_q40q N⟩:=
  have E:Env Tryz.prog Γ_q40q:=env_of tab ⟨C_q11q,⟨C_q16q,trivial⟩⟩
  con_of (body:=bodyOf Tryz.f22) (Pc:=[]) E rfl mixed Tryz.func22 (by kernel_rfl) (by kernel_rfl) (by kernel_rfl) (by kernel_rfl) (fun A hA=>trivial) (fun _=>by kernel_rfl)
theorem C_q40q:Contract Tryz.prog 22 S_q40q:=C_q40q_raw 0
theorem C_q49q_raw (N:Nat):Contract Tryz.prog 107 ⟨[(K_Si,false),(I,false),(I,false)],[.bool],true,F_q49q N⟩:=
  have E:Env Tryz.prog Γ_q49q:=env_of tab ⟨C_q92q,trivial⟩
  con_of (body:=bodyOf Tryz.f107) (Pc:=[(0,⟨q49q_l0_h,q49q_l0_o,q49q_l0 N N⟩)]) E rfl mixed Tryz.func107 (by kernel_rfl) (by kernel_rfl) (by kernel_rfl) (by kernel_rfl) (fun A hA=>⟨pc_of (body:=loopOf Tryz.f107 0) (inner:=[]) E mixed hA (by kernel_rfl) (by kernel_rfl) (by kernel_rfl) trivial (fun _=>rfl) (fun _ _=>by kernel_rfl) N,trivial⟩) (fun _=>by kernel_rfl)
theorem C_q49q:Contract Tryz.prog 107 S_q49q:=Contract.less (fun N:Nat=>F_q49q N) C_q49q_raw allWithin_lim
theorem C_q61q_raw (N:Nat):Contract Tryz.prog 70 ⟨[(K_PiSPiiqq,false),(K_Si,false)],[.bool],true,F_q61q N⟩:=
  have E:Env Tryz.prog Γ_q61q:=env_of tab ⟨C_q71q,⟨C_q49q,trivial⟩⟩
  con_of (body:=bodyOf Tryz.f70) (Pc:=[]) E rfl mixed Tryz.func70 (by kernel_rfl) (by kernel_rfl) (by kernel_rfl) (by kernel_rfl) (fun A hA=>trivial) (fun _=>by kernel_rfl)
theorem C_q61q:Contract Tryz.prog 70 S_q61q:=C_q61q_raw 0
theorem C_q33q_raw (N:Nat):Contract Tryz.prog 102 ⟨[(K_Si,false)],[.bool],true,F_q33q N⟩:=
  have E:Env Tryz.prog Γ_q33q:=env_of tab trivial
  con_of (body:=bodyOf Tryz.f102) (Pc:=[(0,⟨q33q_l0_h,q33q_l0_o,q33q_l0 N N⟩)]) E rfl mixed Tryz.func102 (by kernel_rfl) (by kernel_rfl) (by kernel_rfl) (by kernel_rfl) (fun A hA=>⟨pc_of (body:=loopOf Tryz.f102 0) (inner:=[]) E mixed hA (by kernel_rfl) (by kernel_rfl) (by kernel_rfl) trivial (fun _=>rfl) (fun _ _=>by kernel_rfl) N,trivial⟩) (fun _=>by kernel_rfl)
theorem C_q33q:Contract Tryz.prog 102 S_q33q:=Contract.less (fun N:Nat=>F_q33q N) C_q33q_raw increasing_lim
theorem C_impl_isSet_raw (N:Nat):Contract Tryz.prog 63 ⟨[(K_PiSPiiqq,false),(K_Si,false)],[.bool],true,F_impl_isSet N⟩:=
  have E:Env Tryz.prog Γ_impl_isSet:=env_of tab ⟨C_q61q,⟨C_q33q,trivial⟩⟩
  con_of (body:=bodyOf Tryz.f63) (Pc:=[]) E rfl mixed Tryz.func63 (by kernel_rfl) (by kernel_rfl) (by kernel_rfl) (by kernel_rfl) (fun A hA=>trivial) (fun _=>by kernel_rfl)
theorem C_impl_isSet:Contract Tryz.prog 63 S_impl_isSet:=C_impl_isSet_raw 0
theorem C_q38q_raw (N:Nat):Contract Tryz.prog 28 ⟨[(K_PPiSPiiqqiiSiiq,false)],[.bool],true,F_q38q N⟩:=
  have E:Env Tryz.prog Γ_q38q:=env_of tab ⟨C_impl_isSet,⟨C_q92q,trivial⟩⟩
  con_of (body:=bodyOf Tryz.f28) (Pc:=[]) E rfl mixed Tryz.func28 (by kernel_rfl) (by kernel_rfl) (by kernel_rfl) (by kernel_rfl) (fun A hA=>trivial) (fun _=>by kernel_rfl)
theorem C_q38q:Contract Tryz.prog 28 S_q38q:=C_q38q_raw 0
theorem C_q66q_raw (N:Nat):Contract Tryz.prog 82 ⟨[(K_Piiiq,false)],[.bool],true,F_q66q N⟩:=
  have E:Env Tryz.prog Γ_q66q:=env_of tab trivial
  con_of (body:=bodyOf Tryz.f82) (Pc:=[]) E rfl mixed Tryz.func82 (by kernel_rfl) (by kernel_rfl) (by kernel_rfl) (by kernel_rfl) (fun A hA=>trivial) (fun _=>by kernel_rfl)
theorem C_q66q:Contract Tryz.prog 82 S_q66q:=Contract.less (fun N:Nat=>F_q66q N) C_q66q_raw (fun d r h=>⟨0,(F_q66q_tot 0 d).trans h⟩)
theorem C_q7q_raw (N:Nat):Contract Tryz.prog 92 ⟨[(K_Si,false)],[K_Si],true,F_q7q N⟩:=
  have E:Env Tryz.prog Γ_q7q:=env_of tab trivial
  con_of (body:=bodyOf Tryz.f92) (Pc:=[]) E rfl mixed Tryz.func92 (by kernel_rfl) (by kernel_rfl) (by kernel_rfl) (by kernel_rfl) (fun A hA=>trivial) (fun _=>by kernel_rfl)
theorem C_q7q:Contract Tryz.prog 92 S_q7q:=Contract.less (fun N:Nat=>F_q7q N) C_q7q_raw cloneI_lim
theorem C_q12q:Contract Tryz.prog 56 S_q12q:=con_cloneWs C_q4q C_q7q
theorem C_impl_netOf_raw (N:Nat):Contract Tryz.prog 67 ⟨[(K_PiSPiiqq,false)],[K_PSiq],true,F_impl_netOf N⟩:=
  have E:Env Tryz.prog Γ_impl_netOf:=env_of tab trivial
  con_of (body:=bodyOf Tryz.f67) (Pc:=[(0,⟨impl_netOf_l0_h,impl_netOf_l0_o,impl_netOf_l0 N N⟩)]) E rfl mixed Tryz.func67 (by kernel_rfl) (by kernel_rfl) (by kernel_rfl) (by kernel_rfl) (fun A hA=>⟨pc_of (body:=loopOf Tryz.f67 0) (inner:=[]) E mixed hA (by kernel_rfl) (by kernel_rfl) (by kernel_rfl) trivial (fun _=>rfl) (fun _ _=>by kernel_rfl) N,trivial⟩) (fun _=>by kernel_rfl)
theorem C_impl_netOf:Contract Tryz.prog 67 S_impl_netOf:=Contract.less (fun N:Nat=>F_impl_netOf N) C_impl_netOf_raw netOf_lim
theorem C_q64q_raw (N:Nat):Contract Tryz.prog 131 ⟨[(K_PSiq,false)],[I],true,F_q64q N⟩:=
  have E:Env Tryz.prog Γ_q64q:=env_of tab trivial
  con_of (body:=bodyOf Tryz.f131) (Pc:=[]) E rfl mixed Tryz.func131 (by kernel_rfl) (by kernel_rfl) (by kernel_rfl) (by kernel_rfl) (fun A hA=>trivial) (fun _=>by kernel_rfl)
theorem C_q64q:Contract Tryz.prog 131 S_q64q:=C_q64q_raw 0
theorem C_impl_setOf_raw (N:Nat):Contract Tryz.prog 108 ⟨[(I,false)],[K_Si],true,F_impl_setOf N⟩:=
  have E:Env Tryz.prog Γ_impl_setOf:=env_of tab trivial
  con_of (body:=bodyOf Tryz.f108) (Pc:=[(0,⟨impl_setOf_l0_h,impl_setOf_l0_o,impl_setOf_l0 N N⟩)]) E rfl mixed Tryz.func108 (by kernel_rfl) (by kernel_rfl) (by kernel_rfl) (by kernel_rfl) (fun A hA=>⟨pc_of (body:=loopOf Tryz.f108 0) (inner:=[]) E mixed hA (by kernel_rfl) (by kernel_rfl) (by kernel_rfl) trivial (fun _=>rfl) (fun _ _=>by kernel_rfl) N,trivial⟩) (fun _=>by kernel_rfl)
theorem C_impl_setOf:Contract Tryz.prog 108 S_impl_setOf:=Contract.less (fun N:Nat=>F_impl_setOf N) C_impl_setOf_raw setOf_lim
theorem C_q63q_raw (N:Nat):Contract Tryz.prog 151 ⟨[(K_PSiq,false),(I,false),(I,false)],[.bool],true,F_q63q N⟩:=
  have E:Env Tryz.prog Γ_q63q:=env_of tab trivial
  con_of (body:=bodyOf Tryz.f151) (Pc:=[]) E rfl mixed Tryz.func151 (by kernel_rfl) (by kernel_rfl) (by kernel_rfl) (by kernel_rfl) (fun A hA=>trivial) (fun _=>by kernel_rfl)
theorem C_q63q:Contract Tryz.prog 151 S_q63q:=C_q63q_raw 0
theorem C_q14q_raw (N:Nat):Contract Tryz.prog 165 ⟨[(I,false),(I,false),(K_BPSiq,false),(K_BSi,false)],[.bool],true,F_q14q N⟩:=
  have E:Env Tryz.prog Γ_q14q:=env_of tab ⟨C_q63q,trivial⟩
  con_of (body:=bodyOf Tryz.f165) (Pc:=[]) E rfl mixed Tryz.func165 (by kernel_rfl) (by kernel_rfl) (by kernel_rfl) (by kernel_rfl) (fun A hA=>trivial) (fun _=>by kernel_rfl)
theorem C_q14q:Contract Tryz.prog 165 S_q14q:=C_q14q_raw 0
theorem CV_q14q:ContractV Tryz.prog SV_q14q:=conV_0_2_2 C_q14q
theorem C_q2q_raw (N:Nat):Contract Tryz.prog 150 ⟨[(I,false),(K_F_q14q_qPBPSiqBSiq,false)],[K_PiSPiiqq],true,F_q2q N⟩:=
  have E:Env Tryz.prog Γ_q2q:=env_ofV tab trivial ⟨CV_q14q,trivial⟩ (fun _ h=>by cases h)
  con_of (body:=bodyOf Tryz.f150) (Pc:=[(0,⟨q2q_l0_h,q2q_l0_o,q2q_l0 N N⟩)]) E rfl mixed Tryz.func150 (by kernel_rfl) (by kernel_rfl) (by kernel_rfl) (by kernel_rfl) (fun A hA=>⟨pc_of (body:=loopOf Tryz.f150 0) (inner:=[(2,⟨q2q_l2_h,q2q_l2_o,q2q_l2 N N⟩)]) E mixed hA (by kernel_rfl) (by kernel_rfl) (by kernel_rfl) ⟨pc_of (body:=loopOf Tryz.f150 2) (inner:=[]) E mixed hA (by kernel_rfl) (by kernel_rfl) (by kernel_rfl) trivial (fun _=>rfl) (fun _ _=>by kernel_rfl) N,trivial⟩ (fun _=>rfl) (fun _ _=>by kernel_rfl) N,trivial⟩) (fun _=>by kernel_rfl)
theorem C_q2q:Contract Tryz.prog 150 S_q2q:=Contract.less (fun N:Nat=>F_q2q N) C_q2q_raw graphByInd_lim
theorem C_q24q_raw (N:Nat):Contract Tryz.prog 149 ⟨[(K_PSiq,false),(K_Si,false)],[K_PiSPiiqq],true,F_q24q N⟩:=
  have E:Env Tryz.prog Γ_q24q:=env_ofV tab ⟨C_q2q,trivial⟩ trivial (fun _ h=>by cases h)
  con_of (body:=bodyOf Tryz.f149) (Pc:=[]) E rfl mixed Tryz.func149 (by kernel_rfl) (by kernel_rfl) (by kernel_rfl) (by kernel_rfl) (fun A hA=>trivial) (fun _=>by kernel_rfl)
theorem C_q24q:Contract Tryz.prog 149 S_q24q:=C_q24q_raw 0
theorem C_q28q_raw (N:Nat):Contract Tryz.prog 126 ⟨[(K_PiSPiiqq,false),(I,false)],[K_PiSPiiqq,.bool],true,F_q28q N⟩:=
  have E:Env Tryz.prog Γ_q28q:=env_of tab ⟨C_impl_netOf,⟨C_q61q,⟨C_impl_setOf,⟨C_q64q,⟨C_q24q,trivial⟩⟩⟩⟩⟩
  con_of (body:=bodyOf Tryz.f126) (Pc:=[]) E rfl mixed Tryz.func126 (by kernel_rfl) (by kernel_rfl) (by kernel_rfl) (by kernel_rfl) (fun A hA=>trivial) (fun _=>by kernel_rfl)
theorem C_q28q:Contract Tryz.prog 126 S_q28q:=C_q28q_raw 0
theorem C_q56q_raw (N:Nat):ContractG Tryz.prog 83 (⟨[(K_BPPiSPiiqqiiSiiq,true),(I,false)],[.bool],true,F_q56q N⟩,{ gone:=[],deep:=[0] }):=
  have E:Env Tryz.prog Γ_q56q:=env_ofG tab ⟨C_q28q,trivial⟩ trivial (fun _ h=>by cases h) trivial (by kernel_rfl)
  con_ofG (body:=bodyOf Tryz.f83) (Pc:=[(0,⟨q56q_l0_h,q56q_l0_o,q56q_l0 N N⟩)]) E mixed Tryz.func83 (by kernel_rfl) (by kernel_rfl) (by kernel_rfl) (by kernel_rfl) (fun A hA=>⟨pc_of (body:=loopOf Tryz.f83 0) (inner:=[]) E mixed hA (by kernel_rfl) (by kernel_rfl) (by kernel_rfl) trivial (fun _=>rfl) (fun _ _=>by kernel_rfl) N,trivial⟩) (fun _=>by kernel_rfl)
theorem C_q56q:ContractG Tryz.prog 83 (S_q56q,{ gone:=[],deep:=[0] }):=ContractG.less (fun N:Nat=>F_q56q N) C_q56q_raw dropNode_lim
theorem C_q60q_raw (N:Nat):Contract Tryz.prog 103 ⟨[(K_PSiq,false)],[I],true,F_q60q N⟩:=
  have E:Env Tryz.prog Γ_q60q:=env_of tab trivial
  con_of (body:=bodyOf Tryz.f103) (Pc:=[]) E rfl mixed Tryz.func103 (by kernel_rfl) (by kernel_rfl) (by kernel_rfl) (by kernel_rfl) (fun A hA=>trivial) (fun _=>by kernel_rfl)
theorem C_q60q:Contract Tryz.prog 103 S_q60q:=Contract.less (fun N:Nat=>F_q60q N) C_q60q_raw (fun d r h=>⟨0,(F_q60q_tot 0 d).trans h⟩)
theorem CV_q63q:ContractV Tryz.prog SV_q63q:=conV_1_2_0 C_q63q
theorem C_q3q_raw (N:Nat):Contract Tryz.prog 150 ⟨[(I,false),(K_F_q63q_PPSiqqq,false)],[K_PiSPiiqq],true,F_q3q N⟩:=
  have E:Env Tryz.prog Γ_q3q:=env_ofV tab trivial ⟨CV_q63q,trivial⟩ (fun _ h=>by cases h)
  con_of (body:=bodyOf Tryz.f150) (Pc:=[(0,⟨q3q_l0_h,q3q_l0_o,q3q_l0 N N⟩)]) E rfl mixed Tryz.func150 (by kernel_rfl) (by kernel_rfl) (by kernel_rfl) (by kernel_rfl) (fun A hA=>⟨pc_of (body:=loopOf Tryz.f150 0) (inner:=[(2,⟨q3q_l2_h,q3q_l2_o,q3q_l2 N N⟩)]) E mixed hA (by kernel_rfl) (by kernel_rfl) (by kernel_rfl) ⟨pc_of (body:=loopOf Tryz.f150 2) (inner:=[]) E mixed hA (by kernel_rfl) (by kernel_rfl) (by kernel_rfl) trivial (fun _=>rfl) (fun _ _=>by kernel_rfl) N,trivial⟩ (fun _=>rfl) (fun _ _=>by kernel_rfl) N,trivial⟩) (fun _=>by kernel_rfl)
theorem C_q3q:Contract Tryz.prog 150 S_q3q:=Contract.less (fun N:Nat=>F_q3q N) C_q3q_raw graphBy135_lim
theorem C_q47q_raw (N:Nat):Contract Tryz.prog 127 ⟨[(K_PSiq,false)],[K_PiSPiiqq],true,F_q47q N⟩:=
  have E:Env Tryz.prog Γ_q47q:=env_of tab ⟨C_q60q,⟨C_q3q,trivial⟩⟩
  con_of (body:=bodyOf Tryz.f127) (Pc:=[]) E rfl mixed Tryz.func127 (by kernel_rfl) (by kernel_rfl) (by kernel_rfl) (by kernel_rfl) (fun A hA=>trivial) (fun _=>by kernel_rfl)
theorem C_q47q:Contract Tryz.prog 127 S_q47q:=C_q47q_raw 0
theorem C_q31q_raw (N:Nat):Contract Tryz.prog 84 ⟨[(K_PiSPiiqq,false),(I,false),(I,false)],[K_PiSPiiqq,.bool],true,F_q31q N⟩:=
  have E:Env Tryz.prog Γ_q31q:=env_of tab ⟨C_impl_netOf,⟨C_q61q,⟨C_q47q,trivial⟩⟩⟩
  con_of (body:=bodyOf Tryz.f84) (Pc:=[]) E rfl mixed Tryz.func84 (by kernel_rfl) (by kernel_rfl) (by kernel_rfl) (by kernel_rfl) (fun A hA=>trivial) (fun _=>by kernel_rfl)
theorem C_q31q:Contract Tryz.prog 84 S_q31q:=C_q31q_raw 0
theorem C_q57q_raw (N:Nat):Contract Tryz.prog 128 ⟨[(K_BPPiSPiiqqiiSiiq,false)],[.bool],true,F_q57q N⟩:=
  have E:Env Tryz.prog Γ_q57q:=env_of tab trivial
  con_of (body:=bodyOf Tryz.f128) (Pc:=[]) E rfl mixed Tryz.func128 (by kernel_rfl) (by kernel_rfl) (by kernel_rfl) (by kernel_rfl) (fun A hA=>trivial) (fun _=>by kernel_rfl)
theorem C_q57q:Contract Tryz.prog 128 S_q57q:=Contract.less (fun N:Nat=>F_q57q N) C_q57q_raw (fun d r h=>⟨0,(F_q57q_tot 0 d).trans h⟩)
theorem C_q43q_raw (N:Nat):Contract Tryz.prog 109 ⟨[(K_PSiq,false),(I,false)],[I],true,F_q43q N⟩:=
  have E:Env Tryz.prog Γ_q43q:=env_of tab trivial
  con_of (body:=bodyOf Tryz.f109) (Pc:=[]) E rfl mixed Tryz.func109 (by kernel_rfl) (by kernel_rfl) (by kernel_rfl) (by kernel_rfl) (fun A hA=>trivial) (fun _=>by kernel_rfl)
theorem C_q43q:Contract Tryz.prog 109 S_q43q:=C_q43q_raw 0
theorem C_q54q_raw (N:Nat):ContractG Tryz.prog 85 (⟨[(K_BPPiSPiiqqiiSiiq,true),(I,false),(I,false)],[.bool],true,F_q54q N⟩,{ gone:=[],deep:=[0] }):=
  have E:Env Tryz.prog Γ_q54q:=env_ofG tab ⟨C_impl_netOf,⟨C_q61q,⟨C_q43q,⟨C_q57q,trivial⟩⟩⟩⟩ trivial (fun _ h=>by cases h) trivial (by kernel_rfl)
  con_ofG (body:=bodyOf Tryz.f85) (Pc:=[]) E mixed Tryz.func85 (by kernel_rfl) (by kernel_rfl) (by kernel_rfl) (by kernel_rfl) (fun A hA=>trivial) (fun _=>by kernel_rfl)
theorem C_q54q:ContractG Tryz.prog 85 (S_q54q,{ gone:=[],deep:=[0] }):=C_q54q_raw 0
theorem C_q13q_raw (N:Nat):Contract Tryz.prog 110 ⟨[(K_PSiq,false),(K_Si,false),(I,false)],[I],true,F_q13q N⟩:=
  have E:Env Tryz.prog Γ_q13q:=env_of tab ⟨C_impl_setOf,⟨C_q43q,trivial⟩⟩
  con_of (body:=bodyOf Tryz.f110) (Pc:=[(0,⟨q13q_l0_h,q13q_l0_o,q13q_l0 N N⟩)]) E rfl mixed Tryz.func110 (by kernel_rfl) (by kernel_rfl) (by kernel_rfl) (by kernel_rfl) (fun A hA=>⟨pc_of (body:=loopOf Tryz.f110 0) (inner:=[]) E mixed hA (by kernel_rfl) (by kernel_rfl) (by kernel_rfl) trivial (fun _=>rfl) (fun _ _=>by kernel_rfl) N,trivial⟩) (fun _=>by kernel_rfl)
theorem C_q13q:Contract Tryz.prog 110 S_q13q:=Contract.less (fun N:Nat=>F_q13q N) C_q13q_raw timeAfter_lim
theorem C_q18q_raw (N:Nat):Contract Tryz.prog 140 ⟨[(I,false),(K_Bi,false),(K_BPSiq,false),(K_BSSi,false)],[.bool],true,F_q18q N⟩:=
  have E:Env Tryz.prog Γ_q18q:=env_of tab ⟨C_q13q,trivial⟩
  con_of (body:=bodyOf Tryz.f140) (Pc:=[]) E rfl mixed Tryz.func140 (by kernel_rfl) (by kernel_rfl) (by kernel_rfl) (by kernel_rfl) (fun A hA=>trivial) (fun _=>by kernel_rfl)
theorem C_q18q:Contract Tryz.prog 140 S_q18q:=C_q18q_raw 0
theorem CV_q18q:ContractV Tryz.prog SV_q18q:=conV_0_1_3 C_q18q
theorem C_q1q_raw (N:Nat):Contract Tryz.prog 160 ⟨[(K_Si,false),(K_F_q18q_qPBiBPSiqBSSiq,false)],[I],true,F_q1q N⟩:=
  have E:Env Tryz.prog Γ_q1q:=env_ofV tab trivial ⟨CV_q18q,trivial⟩ (fun _ h=>by cases h)
  con_of (body:=bodyOf Tryz.f160) (Pc:=[(0,⟨q1q_l0_h,q1q_l0_o,q1q_l0 N N⟩)]) E rfl mixed Tryz.func160 (by kernel_rfl) (by kernel_rfl) (by kernel_rfl) (by kernel_rfl) (fun A hA=>⟨pc_of (body:=loopOf Tryz.f160 0) (inner:=[]) E mixed hA (by kernel_rfl) (by kernel_rfl) (by kernel_rfl) trivial (fun _=>rfl) (fun _ _=>by kernel_rfl) N,trivial⟩) (fun _=>by kernel_rfl)
theorem C_q1q:Contract Tryz.prog 160 S_q1q:=Contract.less (fun N:Nat=>F_q1q N) C_q1q_raw index154_lim
theorem C_q0q_raw (N:Nat):Contract Tryz.prog 139 ⟨[(K_Si,false),(K_F_q18q_qPBiBPSiqBSSiq,false)],[.bool],true,F_q0q N⟩:=
  have E:Env Tryz.prog Γ_q0q:=env_of tab ⟨C_q1q,trivial⟩
  con_of (body:=bodyOf Tryz.f139) (Pc:=[]) E rfl mixed Tryz.func139 (by kernel_rfl) (by kernel_rfl) (by kernel_rfl) (by kernel_rfl) (fun A hA=>trivial) (fun _=>by kernel_rfl)
theorem C_q0q:Contract Tryz.prog 139 S_q0q:=C_q0q_raw 0
theorem C_q29q_raw (N:Nat):Contract Tryz.prog 105 ⟨[(K_PSiq,false),(K_SSi,false),(I,false),(I,false)],[.bool],true,F_q29q N⟩:=
  have E:Env Tryz.prog Γ_q29q:=env_ofV tab ⟨C_impl_setOf,⟨C_q43q,⟨C_q0q,trivial⟩⟩⟩ trivial (fun _ h=>by cases h)
  con_of (body:=bodyOf Tryz.f105) (Pc:=[]) E rfl mixed Tryz.func105 (by kernel_rfl) (by kernel_rfl) (by kernel_rfl) (by kernel_rfl) (fun A hA=>trivial) (fun _=>by kernel_rfl)
theorem C_q29q:Contract Tryz.prog 105 S_q29q:=C_q29q_raw 0
theorem C_q19q_raw (N:Nat):Contract Tryz.prog 68 ⟨[(K_PSiq,false)],[K_SSi],true,F_q19q N⟩:=
  have E:Env Tryz.prog Γ_q19q:=env_of tab ⟨C_q60q,⟨C_q6q,⟨C_q29q,trivial⟩⟩⟩
  con_of (body:=bodyOf Tryz.f68) (Pc:=[(0,⟨q19q_l0_h,q19q_l0_o,q19q_l0 N N⟩),(2,⟨q19q_l2_h,q19q_l2_o,q19q_l2 N N⟩)]) E rfl mixed Tryz.func68 (by kernel_rfl) (by kernel_rfl) (by kernel_rfl) (by kernel_rfl) (fun A hA=>⟨pc_of (body:=loopOf Tryz.f68 0) (inner:=[]) E mixed hA (by kernel_rfl) (by kernel_rfl) (by kernel_rfl) trivial (fun _=>rfl) (fun _ _=>by kernel_rfl) N,⟨pc_of (body:=loopOf Tryz.f68 2) (inner:=[(4,⟨q19q_l4_h,q19q_l4_o,q19q_l4 N N⟩),(8,⟨q19q_l8_h,q19q_l8_o,q19q_l8 N N⟩)]) E mixed hA (by kernel_rfl) (by kernel_rfl) (by kernel_rfl) ⟨pc_of (body:=loopOf Tryz.f68 4) (inner:=[(6,⟨q19q_l6_h,q19q_l6_o,q19q_l6 N N⟩)]) E mixed hA (by kernel_rfl) (by kernel_rfl) (by kernel_rfl) ⟨pc_of (body:=loopOf Tryz.f68 6) (inner:=[]) E mixed hA (by kernel_rfl) (by kernel_rfl) (by kernel_rfl) trivial (fun _=>rfl) (fun _ _=>by kernel_rfl) N,trivial⟩ (fun _=>rfl) (fun _ _=>by kernel_rfl) N,⟨pc_of (body:=loopOf Tryz.f68 8) (inner:=[]) E mixed hA (by kernel_rfl) (by kernel_rfl) (by kernel_rfl) trivial (fun _=>rfl) (fun _ _=>by kernel_rfl) N,trivial⟩⟩ (fun _=>rfl) (fun _ _=>by kernel_rfl) N,trivial⟩⟩) (fun _=>by kernel_rfl)
theorem C_q19q:Contract Tryz.prog 68 S_q19q:=Contract.less (fun N:Nat=>F_q19q N) C_q19q_raw copTimes_lim
theorem C_q25q_raw (N:Nat):Contract Tryz.prog 71 ⟨[(K_PSiq,false),(K_SSi,false),(I,false),(I,false)],[I],true,F_q25q N⟩:=
  have E:Env Tryz.prog Γ_q25q:=env_of tab ⟨C_impl_setOf,⟨C_q43q,⟨C_q13q,trivial⟩⟩⟩
  con_of (body:=bodyOf Tryz.f71) (Pc:=[(0,⟨q25q_l0_h,q25q_l0_o,q25q_l0 N N⟩)]) E rfl mixed Tryz.func71 (by kernel_rfl) (by kernel_rfl) (by kernel_rfl) (by kernel_rfl) (fun A hA=>⟨pc_of (body:=loopOf Tryz.f71 0) (inner:=[]) E mixed hA (by kernel_rfl) (by kernel_rfl) (by kernel_rfl) trivial (fun _=>rfl) (fun _ _=>by kernel_rfl) N,trivial⟩) (fun _=>by kernel_rfl)
theorem C_q25q:Contract Tryz.prog 71 S_q25q:=Contract.less (fun N:Nat=>F_q25q N) C_q25q_raw copMove_lim
theorem C_q10q_raw (N:Nat):Contract Tryz.prog 72 ⟨[(K_PSiq,false),(K_Si,false),(I,false)],[I],true,F_q10q N⟩:=
  have E:Env Tryz.prog Γ_q10q:=env_of tab ⟨C_impl_setOf,⟨C_q43q,trivial⟩⟩
  con_of (body:=bodyOf Tryz.f72) (Pc:=[(0,⟨q10q_l0_h,q10q_l0_o,q10q_l0 N N⟩)]) E rfl mixed Tryz.func72 (by kernel_rfl) (by kernel_rfl) (by kernel_rfl) (by kernel_rfl) (fun A hA=>⟨pc_of (body:=loopOf Tryz.f72 0) (inner:=[]) E mixed hA (by kernel_rfl) (by kernel_rfl) (by kernel_rfl) trivial (fun _=>rfl) (fun _ _=>by kernel_rfl) N,trivial⟩) (fun _=>by kernel_rfl)
theorem C_q10q:Contract Tryz.prog 72 S_q10q:=Contract.less (fun N:Nat=>F_q10q N) C_q10q_raw robberMove_lim
theorem C_q52q_raw (N:Nat):ContractG Tryz.prog 86 (⟨[(K_BPPiSPiiqqiiSiiq,true)],[.bool],true,F_q52q N⟩,{ gone:=[],deep:=[0] }):=
  have E:Env Tryz.prog Γ_q52q:=env_ofG tab ⟨C_impl_netOf,⟨C_q19q,⟨C_q25q,⟨C_q10q,⟨C_q57q,trivial⟩⟩⟩⟩⟩ trivial (fun _ h=>by cases h) trivial (by kernel_rfl)
  con_ofG (body:=bodyOf Tryz.f86) (Pc:=[]) E mixed Tryz.func86 (by kernel_rfl) (by kernel_rfl) (by kernel_rfl) (by kernel_rfl) (fun A hA=>trivial) (fun _=>by kernel_rfl)
theorem C_q52q:ContractG Tryz.prog 86 (S_q52q,{ gone:=[],deep:=[0] }):=C_q52q_raw 0
theorem C_q91q_raw (N:Nat):Contract Tryz.prog 129 ⟨[(K_Si,false)],[I],true,F_q91q N⟩:=
  have E:Env Tryz.prog Γ_q91q:=env_of tab trivial
  con_of (body:=bodyOf Tryz.f129) (Pc:=[(0,⟨q91q_l0_h,q91q_l0_o,q91q_l0 N N⟩)]) E rfl mixed Tryz.func129 (by kernel_rfl) (by kernel_rfl) (by kernel_rfl) (by kernel_rfl) (fun A hA=>⟨pc_of (body:=loopOf Tryz.f129 0) (inner:=[]) E mixed hA (by kernel_rfl) (by kernel_rfl) (by kernel_rfl) trivial (fun _=>rfl) (fun _ _=>by kernel_rfl) N,trivial⟩) (fun _=>by kernel_rfl)
theorem C_q91q:Contract Tryz.prog 129 S_q91q:=Contract.less (fun N:Nat=>F_q91q N) C_q91q_raw maskOf_lim
theorem C_q30q_raw (N:Nat):Contract Tryz.prog 130 ⟨[(K_PSiq,false),(I,false),(.bool,false)],[I],true,F_q30q N⟩:=
  have E:Env Tryz.prog Γ_q30q:=env_of tab trivial
  con_of (body:=bodyOf Tryz.f130) (Pc:=[(0,⟨q30q_l0_h,q30q_l0_o,q30q_l0 N N⟩)]) E rfl mixed Tryz.func130 (by kernel_rfl) (by kernel_rfl) (by kernel_rfl) (by kernel_rfl) (fun A hA=>⟨pc_of (body:=loopOf Tryz.f130 0) (inner:=[]) E mixed hA (by kernel_rfl) (by kernel_rfl) (by kernel_rfl) trivial (fun _=>rfl) (fun _ _=>by kernel_rfl) N,trivial⟩) (fun _=>by kernel_rfl)
theorem C_q30q:Contract Tryz.prog 130 S_q30q:=Contract.less (fun N:Nat=>F_q30q N) C_q30q_raw forced_lim
theorem C_q44q_raw (N:Nat):ContractG Tryz.prog 87 (⟨[(K_BPPiSPiiqqiiSiiq,true),(K_Piiiq,false)],[.bool],true,F_q44q N⟩,{ gone:=[],deep:=[0] }):=
  have E:Env Tryz.prog Γ_q44q:=env_ofG tab ⟨C_q92q,⟨C_impl_netOf,⟨C_impl_setOf,⟨C_q91q,⟨C_q30q,⟨C_q64q,trivial⟩⟩⟩⟩⟩⟩ trivial (fun _ h=>by cases h) trivial (by kernel_rfl)
  con_ofG (body:=bodyOf Tryz.f87) (Pc:=[]) E mixed Tryz.func87 (by kernel_rfl) (by kernel_rfl) (by kernel_rfl) (by kernel_rfl) (fun A hA=>trivial) (fun _=>by kernel_rfl)
theorem C_q44q:ContractG Tryz.prog 87 (S_q44q,{ gone:=[],deep:=[0] }):=C_q44q_raw 0
theorem C_q99q_raw (N:Nat):Contract Tryz.prog 48 ⟨[(K_PPiSPiiqqiiSiiq,false),(K_Piiiq,false)],[K_PPiSPiiqqiiSiiq,.bool],true,F_q99q N⟩:=
  have E:Env Tryz.prog Γ_q99q:=env_ofG tab ⟨C_q38q,⟨C_q12q,⟨C_q66q,⟨C_q31q,trivial⟩⟩⟩⟩ trivial (fun _ h=>by cases h) ⟨C_q56q,⟨C_q54q,⟨C_q52q,⟨C_q44q,trivial⟩⟩⟩⟩ (by kernel_rfl)
  con_of (body:=bodyOf Tryz.f48) (Pc:=[]) E rfl mixed Tryz.func48 (by kernel_rfl) (by kernel_rfl) (by kernel_rfl) (by kernel_rfl) (fun A hA=>trivial) (fun _=>by kernel_rfl)
theorem C_q99q:Contract Tryz.prog 48 S_q99q:=Contract.less (fun N:Nat=>F_q99q N) C_q99q_raw doWork_lim
theorem C_q96q_raw (N:Nat):Contract Tryz.prog 12 ⟨[(K_PPiSPiiqqiiSiiq,false),(K_Piiiq,false)],[K_PPiSPiiqqiiSiiq,.bool],true,F_q96q N⟩:=
  have E:Env Tryz.prog Γ_q96q:=env_of tab ⟨C_q38q,⟨C_q99q,trivial⟩⟩
  con_of (body:=bodyOf Tryz.f12) (Pc:=[]) E rfl mixed Tryz.func12 (by kernel_rfl) (by kernel_rfl) (by kernel_rfl) (by kernel_rfl) (fun A hA=>trivial) (fun _=>by kernel_rfl)
theorem C_q96q:Contract Tryz.prog 12 S_q96q:=C_q96q_raw 0
theorem C_q102q_raw (N:Nat):Contract Tryz.prog 9 ⟨[(K_PPiSPiiqqiiSiiq,false),(K_Piiiq,false)],[K_PPiSPiiqqiiSiiq,.bool],true,F_q102q N⟩:=
  have E:Env Tryz.prog Γ_q102q:=env_of tab ⟨C_q75q,⟨C_spec_l12Do,trivial⟩⟩
  con_of (body:=bodyOf Tryz.f9) (Pc:=[]) E rfl mixed Tryz.func9 (by kernel_rfl) (by kernel_rfl) (by kernel_rfl) (by kernel_rfl) (fun A hA=>trivial) (fun _=>by kernel_rfl)
theorem C_q102q:Contract Tryz.prog 9 S_q102q:=C_q102q_raw 0
theorem C_q22q_raw (N:Nat):Contract Tryz.prog 24 ⟨[(K_Su8,false)],[K_PPiSPiiqqiiSiiq,K_SPiiiq],false,F_q22q N⟩:=
  have E:Env Tryz.prog Γ_q22q:=env_of tab ⟨C_q11q,⟨C_q16q,⟨C_q37q,trivial⟩⟩⟩
  con_of (body:=bodyOf Tryz.f24) (Pc:=[(0,⟨q22q_l0_h,q22q_l0_o,q22q_l0 N N⟩)]) E rfl mixed Tryz.func24 (by kernel_rfl) (by kernel_rfl) (by kernel_rfl) (by kernel_rfl) (fun A hA=>⟨pc_of (body:=loopOf Tryz.f24 0) (inner:=[]) E mixed hA (by kernel_rfl) (by kernel_rfl) (by kernel_rfl) trivial (fun _=>rfl) (fun _ _=>by kernel_rfl) N,trivial⟩) (fun _=>by kernel_rfl)
theorem C_q22q:Contract Tryz.prog 24 S_q22q:=Contract.less (fun N:Nat=>F_q22q N) C_q22q_raw pickF_lim
theorem C_q77q_raw (N:Nat):Contract Tryz.prog 25 ⟨[(K_PPiSPiiqqiiSiiq,false),(K_SPiiiq,false)],[K_PPiSPiiqqiiSiiq,I,.bool],true,F_q77q N⟩:=
  have E:Env Tryz.prog Γ_q77q:=env_of tab ⟨C_q38q,⟨C_q99q,⟨C_q12q,trivial⟩⟩⟩
  con_of (body:=bodyOf Tryz.f25) (Pc:=[(0,⟨q77q_l0_h,q77q_l0_o,q77q_l0 N N⟩)]) E rfl mixed Tryz.func25 (by kernel_rfl) (by kernel_rfl) (by kernel_rfl) (by kernel_rfl) (fun A hA=>⟨pc_of (body:=loopOf Tryz.f25 0) (inner:=[]) E mixed hA (by kernel_rfl) (by kernel_rfl) (by kernel_rfl) trivial (fun _=>rfl) (fun _ _=>by kernel_rfl) N,trivial⟩) (fun _=>by kernel_rfl)
theorem C_q77q:Contract Tryz.prog 25 S_q77q:=Contract.less (fun N:Nat=>F_q77q N) C_q77q_raw implDW_lim
theorem C_q84q_raw (N:Nat):Contract Tryz.prog 26 ⟨[(K_PPiSPiiqqiiSiiq,false),(K_SPiiiq,false)],[K_PPiSPiiqqiiSiiq,I,.bool],true,F_q84q N⟩:=
  have E:Env Tryz.prog Γ_q84q:=env_of tab ⟨C_q75q,⟨C_spec_l12Do,⟨C_q88q,trivial⟩⟩⟩
  con_of (body:=bodyOf Tryz.f26) (Pc:=[(0,⟨q84q_l0_h,q84q_l0_o,q84q_l0 N N⟩)]) E rfl mixed Tryz.func26 (by kernel_rfl) (by kernel_rfl) (by kernel_rfl) (by kernel_rfl) (fun A hA=>⟨pc_of (body:=loopOf Tryz.f26 0) (inner:=[]) E mixed hA (by kernel_rfl) (by kernel_rfl) (by kernel_rfl) trivial (fun _=>rfl) (fun _ _=>by kernel_rfl) N,trivial⟩) (fun _=>by kernel_rfl)
theorem C_q84q:Contract Tryz.prog 26 S_q84q:=Contract.less (fun N:Nat=>F_q84q N) C_q84q_raw specDW_lim
theorem C_q106q_raw (N:Nat):Contract Tryz.prog 65 ⟨[(K_SPiiq,false),(K_SPiiq,false)],[.bool],true,F_q106q N⟩:=
  have E:Env Tryz.prog Γ_q106q:=env_ofG tab trivial trivial (fun _ h=>by cases h) trivial (by kernel_rfl)
  con_of (body:=bodyOf Tryz.f65) (Pc:=[(0,⟨q106q_l0_h,q106q_l0_o,q106q_l0 N N⟩)]) E rfl mixed Tryz.func65 (by kernel_rfl) (by kernel_rfl) (by kernel_rfl) (by kernel_rfl) (fun A hA=>⟨pc_of (body:=loopOf Tryz.f65 0) (inner:=[]) E mixed hA (by kernel_rfl) (by kernel_rfl) (by kernel_rfl) trivial (fun _=>rfl) (fun _ _=>by kernel_rfl) N,trivial⟩) (fun _=>by kernel_rfl)
theorem C_q106q:Contract Tryz.prog 65 S_q106q:=Contract.less (fun N:Nat=>F_q106q N) C_q106q_raw vPairs_lim
theorem C_q97q_raw (N:Nat):Contract Tryz.prog 30 ⟨[(K_PiSPiiqq,false),(K_PiSPiiqq,false)],[.bool],true,F_q97q N⟩:=
  have E:Env Tryz.prog Γ_q97q:=env_of tab ⟨C_q106q,trivial⟩
  con_of (body:=bodyOf Tryz.f30) (Pc:=[]) E rfl mixed Tryz.func30 (by kernel_rfl) (by kernel_rfl) (by kernel_rfl) (by kernel_rfl) (fun A hA=>trivial) (fun _=>by kernel_rfl)
theorem C_q97q:Contract Tryz.prog 30 S_q97q:=C_q97q_raw 0
theorem C_laws_vInts_raw (N:Nat):Contract Tryz.prog 31 ⟨[(K_Si,false),(K_Si,false)],[.bool],true,F_laws_vInts N⟩:=
  have E:Env Tryz.prog Γ_laws_vInts:=env_of tab trivial
  con_of (body:=bodyOf Tryz.f31) (Pc:=[(0,⟨laws_vInts_l0_h,laws_vInts_l0_o,laws_vInts_l0 N N⟩)]) E rfl mixed Tryz.func31 (by kernel_rfl) (by kernel_rfl) (by kernel_rfl) (by kernel_rfl) (fun A hA=>⟨pc_of (body:=loopOf Tryz.f31 0) (inner:=[]) E mixed hA (by kernel_rfl) (by kernel_rfl) (by kernel_rfl) trivial (fun _=>rfl) (fun _ _=>by kernel_rfl) N,trivial⟩) (fun _=>by kernel_rfl)
theorem C_laws_vInts:Contract Tryz.prog 31 S_laws_vInts:=Contract.less (fun N:Nat=>F_laws_vInts N) C_laws_vInts_raw vInts_lim
theorem C_laws_vShop_raw (N:Nat):Contract Tryz.prog 27 ⟨[(K_PPiSPiiqqiiSiiq,false),(K_PPiSPiiqqiiSiiq,false)],[.bool],true,F_laws_vShop N⟩:=
  have E:Env Tryz.prog Γ_laws_vShop:=env_of tab ⟨C_q97q,⟨C_laws_vInts,trivial⟩⟩
  con_of (body:=bodyOf Tryz.f27) (Pc:=[]) E rfl mixed Tryz.func27 (by kernel_rfl) (by kernel_rfl) (by kernel_rfl) (by kernel_rfl) (fun A hA=>trivial) (fun _=>by kernel_rfl)
theorem C_laws_vShop:Contract Tryz.prog 27 S_laws_vShop:=C_laws_vShop_raw 0
theorem C_q32q_raw (N:Nat):Contract Tryz.prog 29 ⟨[(K_PPiSPiiqqiiSiiq,false)],[.bool],true,F_q32q N⟩:=
  have E:Env Tryz.prog Γ_q32q:=env_of tab ⟨C_q75q,trivial⟩
  con_of (body:=bodyOf Tryz.f29) (Pc:=[]) E rfl mixed Tryz.func29 (by kernel_rfl) (by kernel_rfl) (by kernel_rfl) (by kernel_rfl) (fun A hA=>trivial) (fun _=>by kernel_rfl)
theorem C_q32q:Contract Tryz.prog 29 S_q32q:=C_q32q_raw 0
theorem C_laws_FnWorkshops_raw (N:Nat):Contract Tryz.prog 5 ⟨[(K_Su8,false)],[.bool],true,F_laws_FnWorkshops N⟩:=
  have E:Env Tryz.prog Γ_laws_FnWorkshops:=env_of tab ⟨C_q102q,⟨C_q96q,⟨C_laws_vBig,⟨C_q9q,⟨C_q20q,⟨C_q26q,⟨C_q40q,⟨C_laws_vCut,⟨C_q22q,⟨C_q77q,⟨C_q84q,⟨C_laws_vShop,⟨C_q38q,⟨C_q32q,⟨C_q97q,⟨C_laws_vInts,trivial⟩⟩⟩⟩⟩⟩⟩⟩⟩⟩⟩⟩⟩⟩⟩⟩
  con_of (body:=bodyOf Tryz.f5) (Pc:=[]) E rfl mixed Tryz.func5 (by kernel_rfl) (by kernel_rfl) (by kernel_rfl) (by kernel_rfl) (fun A hA=>trivial) (fun _=>by kernel_rfl)
theorem C_laws_FnWorkshops:Contract Tryz.prog 5 S_laws_FnWorkshops:=C_laws_FnWorkshops_raw 0
end Go.V.W
