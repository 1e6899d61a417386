/- What the law FnCapture leans on, part 8: an interpreter of the model as plain data, its soundness, the functions as it tells them, and their laws. -/
import Derived.Shelf.Lays
import Derived.Shelf.LaysM
import Derived.Shelf.SortM.Plain
import Derived.Shelf.SortM.SortNone
import Derived.Shelf.SlSortCmp.NoneTotal
import Derived.Test.YtnieoolfkakmdaaGreatVG
set_option linter.unusedVariables false
set_option linter.unusedSimpArgs false
set_option maxRecDepth 100000
namespace Go.V.W
open Go.Proofs
theorem insE_lenU (e:E):∀l:List E,(insE e l).length=l.length+1:=by
 intro l
 induction l with
 | nil=>rfl
 | cons a l ih=>unfold insE;split<;>simp [ih]
theorem put_ok {es:List E} {e:E} {u:Unit} (h:es.length<=1000):Ok (G_l2Put (es,e,u)) fun r=>r.1.length=es.length+1:=by
 unfold G_l2Put
 rw [if_pos (decide_eq_true h)]
 exact Ok.some (insE_lenU _ _)
theorem near_ok {g:Gr} {x y:Int} {u:Unit} (h:g.2.1.length<=1000):Ok (G_l2Near (g,x,y,u)) fun _=>True:=by
 unfold G_l2Near
 rw [if_pos (show okL g.2.1=true from decide_eq_true (by unfold lim;omega))]
 exact Ok.some trivial
theorem cycle_ok (n:Nat) (hn:n<=8):Ok (F_q63q 0 ((n:Int),())) fun r=>r.1.2.1.length<=101:=by
 unfold F_q63q
 simp only
 refine Ok.bind (path_ok n hn) fun r hr => ?_
 have hr:r.1.2.1.length<=100:=hr
 refine Ok.bind (put_ok (by omega)) fun q hq=>Ok.some ?_
 simp only
 omega
theorem sg_l3 (N:Nat) (n:Nat) (hn:n<=8) (z:Gr) (a w:Int) (b:Bool) (x:Int):∀k y f (c:Cur) (es:List E),y+k=n->k<f->CurB c->c.2.1+2*(k:Int)<=far_->es.length+k<=1000 ->
  Ok (q18q_l3 N f (c,z,(n:Int),(a,es,()),w,b,x,(y:Int),())) fun o => ∃c' es',o=.inl (c',z,(n:Int),(a,es',()),w,b,x,())/\Adv (2*(k:Int)) c c'/\es'.length<=es.length+k:=by
 intro k
 induction k with
 | zero=>
  intro y f c es h1 h2 h3 h4 h5
  obtain ⟨f,rfl⟩:∃m,f=m+1:=⟨f-1,by omega⟩
  have hlt:decide ((y:Int)<(n:Int))=false:=decide_eq_false (by omega)
  show Ok (q18q_l3_r _ _ _) _
  unfold q18q_l3_r
  simp only [hlt,Bool.false_eq_true,if_false]
  exact Ok.some ⟨c,es,rfl,⟨h3,by omega⟩,by omega⟩
 | succ k ih=>
  intro y f c es h1 h2 h3 h4 h5
  obtain ⟨f,rfl⟩:∃m,f=m+1:=⟨f-1,by omega⟩
  have hlt:decide ((y:Int)<(n:Int))=true:=decide_eq_true (by omega)
  show Ok (q18q_l3_r _ _ _) _
  unfold q18q_l3_r
  simp only [hlt,if_true,small_wrap (show y<=100000 by omega)]
  refine Ok.bind (pick_ok h3 (by omega)) fun r hr => ?_
  have r3:=hr.2.2.2
  refine Ok.ite (fun _ => ?_) (fun _ => ?_)
  ·refine Ok.bind (put_ok (by omega)) fun q hq => ?_
   refine (ih (y+1) f r.2.1 q.1 (by omega) (by omega) hr.2.2.1 (by omega) (by omega)).mono fun o ho => ?_
   obtain ⟨c',es',e1,e2,e3⟩:=ho
   exact ⟨c',es',e1,(hr.2.2.trans e2).le (by omega),by omega⟩
  ·refine (ih (y+1) f r.2.1 es (by omega) (by omega) hr.2.2.1 (by omega) (by omega)).mono fun o ho => ?_
   obtain ⟨c',es',e1,e2,e3⟩:=ho
   exact ⟨c',es',e1,(hr.2.2.trans e2).le (by omega),by omega⟩
theorem sg_l1 (N:Nat) (hN:20<=N) (n:Nat) (hn:n<=8) (z:Gr) (a w:Int) (b:Bool):∀k x f (c:Cur) (es:List E),x+k=n->k<f->CurB c->c.2.1+20*(k:Int)<=far_->es.length<=10*x ->
  Ok (q18q_l1 N f (c,z,(n:Int),(a,es,()),w,b,(x:Int),())) fun o => ∃c' es',o=.inl (c',z,(a,es',()),())/\Adv (20*(k:Int)) c c'/\es'.length<=10*n:=by
 intro k
 induction k with
 | zero=>
  intro x f c es h1 h2 h3 h4 h5
  obtain ⟨f,rfl⟩:∃m,f=m+1:=⟨f-1,by omega⟩
  have hlt:decide ((x:Int)<(n:Int))=false:=decide_eq_false (by omega)
  show Ok (q18q_l1_r _ _ _) _
  unfold q18q_l1_r
  simp only [hlt,Bool.false_eq_true,if_false]
  exact Ok.some ⟨c,es,rfl,⟨h3,by omega⟩,by omega⟩
 | succ k ih=>
  intro x f c es h1 h2 h3 h4 h5
  obtain ⟨f,rfl⟩:∃m,f=m+1:=⟨f-1,by omega⟩
  have hlt:decide ((x:Int)<(n:Int))=true:=decide_eq_true (by omega)
  show Ok (q18q_l1_r _ _ _) _
  unfold q18q_l1_r
  simp only [hlt,if_true,small_wrap (show x<=100000 by omega)]
  refine Ok.bind (sg_l3 N n hn z a w b (x:Int) (n-(x+1)) (x+1) N c es (by omega) (by omega) h3 (by omega) (by omega)) fun o ho => ?_
  obtain ⟨c1,e1,rfl,a1,l1⟩:=ho
  have b1:=a1.2
  simp only [small_wrap (show x<=100000 by omega)]
  refine Ok.bind (pick_ok a1.1 (by omega)) fun r hr => ?_
  have r3:=hr.2.2.2
  have more:∀es2:List E,es2.length<=10*(x+1)->Ok (q18q_l1 N f (r.2.1,z,(n:Int),(a,es2,()),w,b,((x+1:Nat):Int),())) fun o => ∃c' es',o=.inl (c',z,(a,es',()),())/\Adv (20*((k+1:Nat):Int)) c c'/\es'.length<=10*n:=fun es2 h=>by
   refine (ih (x+1) f r.2.1 es2 (by omega) (by omega) hr.2.2.1 (by omega) (by omega)).mono fun o ho => ?_
   obtain ⟨c',es',e1,e2,e3⟩:=ho
   exact ⟨c',es',e1,((a1.trans hr.2.2).trans e2).le (by omega),by omega⟩
  refine Ok.ite (fun _=>Ok.ite (fun _ => ?_) fun _=>more _ (by omega)) fun _=>more _ (by omega)
  refine Ok.bind (near_ok (by simp only;omega)) fun _ _=>Ok.ite (fun _ => ?_) fun _=>more _ (by omega)
  refine Ok.bind (put_ok (by omega)) fun q hq=>more _ (by omega)
noncomputable def sgTail (N:Nat) (c:Cur) (n:Int):Option (Gr×Cur×Unit):=
  ((F_q40q 0) ((c,((8:Int),())))).bind fun r49=>
  if (r49.1==(0:Int))=true then
   ((pickF F_q74q P_path) (n,())).bind fun r50=>
   ((F_q29q 0) ((r49.2.1,(r50.1,())))).bind fun r51=>
   some ((r51.1,(r51.2.1,())))
  else
   if (r49.1==(1:Int))=true then
    if (decide (n>(2:Int)))=true then
     ((F_q63q 0) (n,())).bind fun r52=>
     ((F_q29q 0) ((r49.2.1,(r52.1,())))).bind fun r53=>
     some ((r53.1,(r53.2.1,())))
    else
     ((F_q29q 0) ((r49.2.1,((n,(([]:List (Int×Int×Unit)),())),())))).bind fun r54=>
     some ((r54.1,(r54.2.1,())))
   else
    if (r49.1==(2:Int))=true then
     ((pickF F_q46q P_path) (n,())).bind fun r55=>
     ((F_q29q 0) ((r49.2.1,(r55.1,())))).bind fun r56=>
     some ((r56.1,(r56.2.1,())))
    else
     ((F_q36q 0) ((r49.2.1,([(3:Int),(4:Int),(6:Int)],())))).bind fun r57=>
     ((F_q50q 0) ((r57.2.1,((6:Int),())))).bind fun r58=>
     (q18q_l1 N N ((r58.2.1,(((0:Int),(([]:List (Int×Int×Unit)),())),(n,((n,(([]:List (Int×Int×Unit)),())),(r57.1,(r58.1,((0:Int),()))))))))).bind fun o59=>match o59 with
     | .inl d60=>
      ((F_q29q 0) ((d60.1,(d60.2.2.1,())))).bind fun r61=>
      some ((r61.1,(r61.2.1,())))
theorem sgTail_ok {c:Cur} {n:Int} {m:Nat} (hm:m<=8) (he:n=m) (h:CurB c) (hf:c.2.1+250<=far_):Ok (sgTail 20 c n) fun r=>Adv 200 c r.2.1/\r.1.2.1.length<=200:=by
 subst he
 have mar:∀(c1:Cur) (g:Gr),Adv 180 c c1->g.2.1.length<=150->Ok ((F_q29q 0 (c1,g,())).bind fun r=>some (r.1,r.2.1,())) fun r=>Adv 200 c r.2.1/\r.1.2.1.length<=200:=by
  intro c1 g h1 h2
  have:=h1.2
  obtain ⟨n,es,u⟩:=g
  refine Ok.bind (marred_ok h1.1 (by omega) h2) fun r hr=>Ok.some ⟨(h1.trans hr.2).le (by omega),?_⟩
  have:=hr.1
  simp only at h2 |-
  omega
 unfold sgTail
 refine Ok.bind (pick_ok h (by omega)) fun r hr => ?_
 have a1:=hr.2.2
 have b1:=a1.2
 refine Ok.ite (fun _ => ?_) fun _=>Ok.ite (fun _=>Ok.ite (fun _ => ?_) fun _=>mar _ _ (a1.le (by omega)) (by simp)) fun _=>Ok.ite (fun _ => ?_) fun _ => ?_
 ·refine Ok.bind (path_ok m hm) fun q hq=>mar _ _ (a1.le (by omega)) ?_
  have:q.1.2.1.length<=100:=hq
  omega
 ·refine Ok.bind (cycle_ok m hm) fun q hq=>mar _ _ (a1.le (by omega)) (by omega)
 ·refine Ok.bind (whole_ok m hm) fun q hq=>mar _ _ (a1.le (by omega)) ?_
  have:q.1.2.1.length<=100:=hq
  omega
 ·refine Ok.bind (among_ok a1.1 (by omega) (by simp)) fun q hq => ?_
  have a2:=a1.trans hq.2
  have b2:=a2.2
  refine Ok.bind (one_ok a2.1 (by omega)) fun s hs => ?_
  have a3:=a2.trans hs
  have b3:=a3.2
  have hl:=sg_l1 20 (by omega) m hm (0,[],()) (m:Int) q.1 s.1 m 0 20 s.2.1 [] (by omega) (by omega) a3.1 (by omega) (by simp)
  simp only [Int.natCast_zero] at hl
  refine Ok.bind hl fun o ho => ?_
  obtain ⟨c',es',rfl,e2,e3⟩:=ho
  exact mar _ _ ((a3.trans e2).le (by omega)) (by simp only;omega)
theorem least_in {x y:Int} {u:Unit} (h:0<=x) (h2:0<=y) (h3:y<=8):∃m:Nat,m<=8/\(g_q69q (x,y,u)).1=(m:Int):=by
 unfold g_q69q
 simp only
 split
 ·rename_i hh
  have:=of_decide_eq_true hh
  exact ⟨x.toNat,by omega,by simp only;omega⟩
 ·exact ⟨y.toNat,by omega,by simp only;omega⟩
theorem someGraph_ok {c:Cur} {a:Int} (h:CurB c) (hf:c.2.1+300<=far_) (h0:0<=a) (h8:a<=8):Ok (pickF F_q18q P_someG (c,a,())) (P_someG (c,a,())):=by
 refine Ok.pick 20 ?_
 have fin:∀(c1:Cur) (n:Int) (m:Nat),m<=8->n=m->Adv 50 c c1->Ok (sgTail 20 c1 n) (P_someG (c,a,())):=fun c1 n m hm he h1=>by
  have:=h1.2
  exact (sgTail_ok hm he h1.1 (by omega)).mono fun r hr=>⟨(h1.trans hr.1).le (by omega),hr.2⟩
 unfold F_q18q
 simp only
 refine Ok.bind (among_ok h (by omega) (by simp)) fun r hr => ?_
 have r0:0<=r.1:=by
  have:=hr.1
  simp at this
  omega
 have a1:=hr.2
 have b1:=a1.2
 refine Ok.ite (fun _ => ?_) fun _ => ?_
 ·refine Ok.bind (one_ok a1.1 (by omega)) fun s hs => ?_
  have a2:=a1.trans hs
  have b2:=a2.2
  refine Ok.ite (fun _ => ?_) fun _ => ?_
  ·refine Ok.bind (pick_ok a2.1 (by omega)) fun t ht => ?_
   have a3:=a2.trans ht.2.2
   have w:IntKind.wrap .i64 ((7:Int)+t.1)=7+t.1:=wrap_in _ (by have:=ht.1;omega) (by have:=ht.2.1;omega)
   obtain ⟨m,hm,em⟩:=least_in (x:=IntKind.wrap .i64 ((7:Int)+t.1)) (u:=()) (by rw [w];have:=ht.1;omega) h0 h8
   exact fin _ _ m hm em (a3.le (by omega))
  ·obtain ⟨m,hm,em⟩:=least_in (u:=()) r0 h0 h8
   exact fin _ _ m hm em (a2.le (by omega))
 ·obtain ⟨m,hm,em⟩:=least_in (u:=()) r0 h0 h8
  exact fin _ _ m hm em (a1.le (by omega))
theorem bigGraph_ok {c:Cur} {u:Unit} (h:CurB c) (hf:c.2.1+300<=far_):Ok (F_q21q 0 (c,u)) fun r=>Adv 300 c r.2.1/\r.1.2.1.length<=200:=by
 unfold F_q21q
 simp only
 exact Ok.bind (someGraph_ok h hf (by omega) (by omega)) fun r hr=>Ok.some hr
theorem many_ok {c:Cur} {u:Unit} (h:CurB c) (hf:c.2.1+10<=far_):Ok (F_q45q 0 (c,u)) fun r=>Adv 10 c r.2.1:=by
 unfold F_q45q
 simp only
 refine Ok.bind (one_ok h (by omega)) fun r hr => ?_
 have b1:=hr.2
 refine Ok.ite (fun _ => ?_) fun _ => ?_
 ·exact Ok.bind (among_ok hr.1 (by omega) (by simp)) fun s hs=>Ok.some ((hr.trans hs.2).le (by omega))
 ·exact Ok.bind (among_ok hr.1 (by omega) (by simp)) fun s hs=>Ok.some ((hr.trans hs.2).le (by omega))
theorem chase_ok {c:Cur} {u:Unit} (h:CurB c) (hf:c.2.1+400<=far_):Ok (F_q35q 0 (c,u)) fun r=>Adv 400 c r.2.2.1/\r.1.2.1.length<=200:=by
 unfold F_q35q
 simp only
 refine Ok.bind (one_ok h (by omega)) fun r hr => ?_
 have b1:=hr.2
 refine Ok.ite (fun _ => ?_) fun _ => ?_
 ·exact Ok.bind (bigGraph_ok hr.1 (by omega)) fun s hs=>Ok.some ⟨(hr.trans hs.1).le (by omega),hs.2⟩
 ·refine Ok.bind (one_ok hr.1 (by omega)) fun s hs => ?_
  have a2:=hr.trans hs
  have b2:=a2.2
  refine Ok.ite (fun _ => ?_) fun _ => ?_
  ·exact Ok.bind (bigGraph_ok a2.1 (by omega)) fun q hq=>Ok.some ⟨(a2.trans hq.1).le (by omega),hq.2⟩
  ·refine Ok.bind (one_ok a2.1 (by omega)) fun q hq => ?_
   have a3:=a2.trans hq
   have b3:=a3.2
   refine Ok.ite (fun _ => ?_) fun _ => ?_
   ·exact Ok.bind (someGraph_ok a3.1 (by omega) (by omega) (by omega)) fun s hs=>Ok.some ⟨(a3.trans hs.1).le (by omega),hs.2⟩
   ·refine Ok.bind (someGraph_ok a3.1 (by omega) (by omega) (by omega)) fun s hs => ?_
    have a4:=a3.trans hs.1
    have b4:=a4.2
    exact Ok.bind (many_ok a4.1 (by omega)) fun t ht=>Ok.some ⟨(a4.trans ht).le (by omega),hs.2⟩
end Go.V.W
namespace Go.V.W
open Go.Proofs
def TB (T:Tab):Prop:=T.length<=120 /\ ∀r∈T,r.length<=8 /\ ∀v∈r,v<=9223372036854775807
theorem wrap_max (x:Int):IntKind.wrap .i64 x<=9223372036854775807:=by
 unfold IntKind.wrap
 simp [IntKind.bits,IntKind.signed]
 split<;>omega
theorem TB_at {T:Tab} (h:TB T) {i:Nat} (hi:i<T.length):at_ K_Si T i∈T:=by
 rw [at_get (e:=K_Si) hi]
 exact List.getElem_mem hi
theorem TB_set {T:Tab} (h:TB T) {i y:Nat} (hi:i<T.length) {v:Int} (hv:v<=9223372036854775807):TB (T.set i (List.set (at_ K_Si T i) y v)):=by
 refine ⟨by rw [List.length_set];exact h.1,fun r hr => ?_⟩
 rcases List.mem_or_eq_of_mem_set hr with hr | rfl
 ·exact h.2 r hr
 ·have:=h.2 _ (TB_at h hi)
  refine ⟨by rw [List.length_set];exact this.1,fun w hw => ?_⟩
  rcases List.mem_or_eq_of_mem_set hw with hw | rfl
  ·exact this.2 w hw
  ·exact hv
theorem dp_l3 (N:Nat) (z g:Gr) (q:Int):∀k y f i (T:Tab),i<T.length->(at_ K_Si T i).length=y+k->k<f->TB T -> ∃T',q11q_l3 N f (z,g,q,T,(i:Int),(y:Int),())=some (.inl (z,g,q,T',(i:Int),()))/\TB T'/\T'.length=T.length:=by
 intro k
 induction k with
 | zero=>
  intro y f i T h1 h2 h3 h4
  obtain ⟨f,rfl⟩:∃m,f=m+1:=⟨f-1,by omega⟩
  have hi:idxIn (i:Int) T.length=true:=idxIn_nat h1
  have hlt:decide ((y:Int)<((at_ K_Si T i).length:Int))=false:=decide_eq_false (by omega)
  refine ⟨T,?_,h4,rfl⟩
  show q11q_l3_r _ _ _=_
  unfold q11q_l3_r
  simp only [hi,Int.toNat_natCast,hlt,Bool.false_eq_true,if_false,if_true]
 | succ k ih=>
  intro y f i T h1 h2 h3 h4
  obtain ⟨f,rfl⟩:∃m,f=m+1:=⟨f-1,by omega⟩
  have hl:=(h4.2 _ (TB_at h4 h1)).1
  have hi:idxIn (i:Int) T.length=true:=idxIn_nat h1
  have hy:idxIn (y:Int) (at_ K_Si T i).length=true:=idxIn_nat (by omega)
  have hlt:decide ((y:Int)<((at_ K_Si T i).length:Int))=true:=decide_eq_true (by omega)
  by_cases hp:at_ I (at_ K_Si T i) y>0
  ·have hp1:decide (at_ I (at_ K_Si T i) y>(0:Int))=true:=decide_eq_true hp
   generalize hv:IntKind.wrap .i64 (IntKind.wrap .i64 ((2:Int)*at_ I (at_ K_Si T i) y)+(1:Int))=v
   have hv2:v<=9223372036854775807:=by rw [<- hv];exact wrap_max _
   have hT:=TB_set (y:=y) h4 h1 hv2
   have el:(at_ K_Si (T.set i (List.set (at_ K_Si T i) y v)) i).length=(at_ K_Si T i).length:=by
    rw [at_get (e:=K_Si) (l:=T.set i (List.set (at_ K_Si T i) y v)) (i:=i) (by rw [List.length_set];exact h1)]
    simp
   obtain ⟨T',e1,e2,e3⟩:=ih (y+1) f i _ (by rw [List.length_set];exact h1) (by rw [el];omega) (by omega) hT
   refine ⟨T',?_,e2,by rw [e3,List.length_set]⟩
   rw [<- e1]
   show q11q_l3_r _ _ _=_
   unfold q11q_l3_r
   simp only [hi,Int.toNat_natCast,hlt,hy,hp1,if_true,hv,small_wrap (show y<=100000 by omega)]
  ·have hp1:decide (at_ I (at_ K_Si T i) y>(0:Int))=false:=decide_eq_false hp
   obtain ⟨T',e1,e2,e3⟩:=ih (y+1) f i T h1 (by omega) (by omega) h4
   refine ⟨T',?_,e2,e3⟩
   rw [<- e1]
   show q11q_l3_r _ _ _=_
   unfold q11q_l3_r
   simp only [hi,Int.toNat_natCast,hlt,hy,hp1,if_true,Bool.false_eq_true,if_false,small_wrap (show y<=100000 by omega)]
theorem dp_l1 (N:Nat) (hN:20<=N) (z g:Gr) (q:Int):∀k i f (T:Tab),T.length=i+k->k<f->TB T -> ∃T',q11q_l1 N f (z,g,q,T,(i:Int),())=some (.inl (z,g,q,T',()))/\TB T':=by
 intro k
 induction k with
 | zero=>
  intro i f T h1 h2 h3
  obtain ⟨f,rfl⟩:∃m,f=m+1:=⟨f-1,by omega⟩
  have hlt:decide ((i:Int)<(T.length:Int))=false:=decide_eq_false (by omega)
  refine ⟨T,?_,h3⟩
  show q11q_l1_r _ _ _=_
  unfold q11q_l1_r
  simp only [hlt,Bool.false_eq_true,if_false]
 | succ k ih=>
  intro i f T h1 h2 h3
  obtain ⟨f,rfl⟩:∃m,f=m+1:=⟨f-1,by omega⟩
  have hlt:decide ((i:Int)<(T.length:Int))=true:=decide_eq_true (by omega)
  have hl:=(h3.2 _ (TB_at h3 (i:=i) (by omega))).1
  have hb:=h3.1
  obtain ⟨T1,q1,q2,q3⟩:=dp_l3 N z g q (at_ K_Si T i).length 0 N i T (by omega) (by omega) (by omega) h3
  obtain ⟨T',e1,e2⟩:=ih (i+1) f T1 (by omega) (by omega) q2
  refine ⟨T',?_,e2⟩
  rw [<- e1]
  show q11q_l1_r _ _ _=_
  unfold q11q_l1_r
  simp only [Int.natCast_zero] at q1
  simp only [hlt,if_true,q1,Option.bind_some,small_wrap (show i<=100000 by omega)]
theorem cap_TB {n:Int} {es:List E} {v:Unit} {k:Int}:TB (capB (n,es,v) k).1 /\ ∃w,∀r∈(capB (n,es,v) k).1,r.length=w:=by
 obtain ⟨h1,h2⟩:=cap_small (g:=(n,es,v)) (k:=k)
 unfold capB at h1 h2 |-
 split at h1
 ·rename_i hb
  rw [if_pos hb] at h2 |-
  have hh:=tm_high (n,es,v) k.toNat
  unfold highB at hh
  have hr:=tm_rc (n,es,v) k.toNat
  unfold rcB at hr
  simp only [Bool.and_eq_true,decide_eq_true_eq,List.all_eq_true] at hr
  refine ⟨⟨h1,fun r hr=>⟨h2 r hr,fun z hz => ?_⟩⟩,_,fun r h=>hr.2 r h⟩
  have:=of_decide_eq_true (List.all_eq_true.1 (List.all_eq_true.1 hh r hr) z hz)
  omega
 ·rename_i hb
  rw [if_neg hb] at h2 |-
  exact ⟨⟨by simp,fun r hr=>by simp at hr⟩,0,fun r hr=>by simp at hr⟩
theorem TB_sm {T:Tab} (h:TB T):smT T=true:=smT_8 h.1 h.2
theorem drawCap_ok {code:List Int} (hb:∀x∈code,0<=x/\x<=255):Ok (pickF F_q11q P_drawCap (code,())) (P_drawCap (code,())):=by
 refine Ok.pick 200 ?_
 unfold F_q11q
 simp only
 have hc:CurB (code,0,0,()):=⟨hb,Int.le_refl _⟩
 refine Ok.bind (chase_ok hc (by unfold far_;simp only;omega)) fun r hr => ?_
 obtain ⟨⟨n,es,v⟩,k,c,w⟩:=r
 obtain ⟨a1,l1⟩:=hr
 have b1:=a1.2
 simp only at a1 l1 b1
 have ff:c.2.1<=400:=by omega
 have ho:okL es=true:=decide_eq_true (by unfold lim;omega)
 simp only [specCT ho,Option.bind_some]
 obtain ⟨hT,w,hw⟩:=cap_TB (n:=n) (es:=es) (v:=v) (k:=k)
 generalize (capB (n,es,v) k).1=T at hT hw
 have done:∀T':Tab,TB T'->Ok (some ((n,es,v),k,T',())) (P_drawCap (code,())):=fun T' h=>Ok.some ⟨by simp only;omega,TB_sm h⟩
 refine Ok.ite (fun hp => ?_) fun _=>done T hT
 have hp:=of_decide_eq_true hp
 have h0:(0:Int).toNat=0:=rfl
 refine Ok.pos (idxIn_nat (i:=0) (by omega)) (Ok.ite (fun hq => ?_) fun _=>done T hT)
 have hq:=of_decide_eq_true hq
 have hw0:0<w:=by
  have:=hw _ (TB_at hT (i:=0) (by omega))
  rw [h0] at hq
  omega
 refine Ok.bind (pick_ok a1.1 (by unfold far_;omega)) fun i hi => ?_
 obtain ⟨i1,i2,i3⟩:=hi
 have ib:=i3.2
 obtain ⟨j,hj⟩:∃j:Nat,i.1=j:=⟨i.1.toNat,by omega⟩
 have hjl:j<T.length:=by omega
 rw [hj]
 simp only [Int.toNat_natCast]
 have hidx:idxIn (j:Int) T.length=true:=idxIn_nat hjl
 have hwj:=hw _ (TB_at hT hjl)
 refine Ok.pos hidx (Ok.bind (pick_ok i3.1 (by unfold far_;omega)) fun x hx => ?_)
 obtain ⟨x1,x2,x3⟩:=hx
 have xb:=x3.2
 obtain ⟨y,hy⟩:∃j:Nat,x.1=j:=⟨x.1.toNat,by omega⟩
 have hyl:y<(at_ K_Si T j).length:=by omega
 rw [hy]
 simp only [Int.toNat_natCast]
 have hidy:idxIn (y:Int) (at_ K_Si T j).length=true:=idxIn_nat hyl
 refine Ok.bind (pick_ok x3.1 (by unfold far_;omega)) fun p hp3 => ?_
 have pb:=hp3.2.2.2
 refine Ok.ite (fun _ => ?_) fun _=>Ok.ite (fun _ => ?_) fun _=>Ok.ite (fun _ => ?_) fun _=>Ok.ite (fun _ => ?_) fun _=>done T hT
 ·refine Ok.pos hidx (Ok.pos hidx (Ok.pos hidy (Ok.bind (among_ok hp3.2.2.1 (by unfold far_;omega) (by simp)) fun s hs => ?_)))
  exact Ok.pos hidy (done _ (TB_set hT hjl (wrap_max _)))
 ·refine Ok.pos hidx (Ok.bind (among_ok hp3.2.2.1 (by unfold far_;omega) (by simp)) fun s hs => ?_)
  refine Ok.pos hidy (done _ (TB_set hT hjl ?_))
  have:=hs.1
  simp at this
  omega
 ·refine Ok.pos (by simp;omega) (done _ ⟨?_,fun r hr => ?_⟩)
  ·unfold sub_
   have:=hT.1
   simp
   omega
  ·unfold sub_ at hr
   exact hT.2 r (List.mem_of_mem_take (List.mem_of_mem_drop hr))
 ·have hTl:=hT.1
  obtain ⟨T',e1,e2⟩:=dp_l1 200 (by omega) (0,[],()) (n,es,v) k T.length 0 200 T (by omega) (by omega) hT
  simp only [Int.natCast_zero] at e1
  simp only [e1,Option.bind_some]
  exact done _ e2
theorem lawCapture_lim (d:List Int×Unit) (r:Bool×Unit) (h:G_law d=some r):∃N,F_laws_FnCapture N d=some r:=by
 obtain ⟨code,u⟩:=d
 unfold G_law at h
 split at h
 ·rename_i hh
  cases Option.some.inj h
  simp only [Bool.and_eq_true,List.all_eq_true] at hh
  have hb:∀x∈code,0<=x/\x<=255:=fun x hx=>by
   have:=hh.1 x hx
   unfold inB at this
   simpa using this
  cases hbig:(g_laws_rBig (code,())).1 with
  | true=>
   refine ⟨0,?_⟩
   unfold F_laws_FnCapture
   simp only [hbig,if_true]
  | false=>
   obtain ⟨⟨⟨n,es,v⟩,k,P,w⟩,e1,e2,e3⟩:=drawCap_ok hb
   have ho:okL es=true:=decide_eq_true (by simp only at e2;unfold lim;omega)
   exact ⟨1010,lawCap_of hbig e1 ho e3 fun m q hm hq=>tm_smT hm hq⟩
 ·cases h
theorem law54:∀d,WfD (Kd.tuple ([(K_Su8,false)].map (·.1))) d -> ∃out,G_law d=some out/\(splitT [.bool] [] out).1.1=true:=by
 rintro ⟨code,_⟩ ⟨⟨hl,hc⟩,_⟩
 refine ⟨(true,()),?_,rfl⟩
 unfold G_law
 rw [if_pos]
 simp only [Bool.and_eq_true,List.all_eq_true,decide_eq_true_eq]
 refine ⟨fun x hx => ?_,hl⟩
 have:=hc x hx
 simp [WfD,Lit.wf,IntKind.min,IntKind.max,IntKind.signed,IntKind.bits] at this
 unfold inB
 simp
 omega
end Go.V.W
namespace Go.V.W
open Go.Proofs
structure Sts (m cfn:Nat) (st:List St):Prop where
 at_:∀j (h:j<st.length),(∃c:Nat,st[j].1=(c:Int)/\c<cfn)/\(∃p:Nat->Bool,st[j].2.1=setF p m 0) /\ -1<=st[j].2.2.1/\st[j].2.2.1<(j:Int)
theorem Sts.push {m cfn:Nat} {st:List St} (h:Sts m cfn st) {c:Nat} (hc:c<cfn) (p:Nat->Bool) {b:Int} (h1 : -1<=b) (h2:b<(st.length:Int)):Sts m cfn (st++[((c:Int),setF p m 0,b,())]):=by
 refine ⟨fun j hj => ?_⟩
 by_cases hl:j<st.length
 ·rw [List.getElem_append_left hl]
  exact h.at_ j hl
 ·have e:j=st.length:=by simp at hj;omega
  subst e
  rw [List.getElem_append_right (by omega)]
  simp only [Nat.sub_self,List.getElem_cons_zero]
  exact ⟨⟨c,rfl,hc⟩,⟨p,rfl⟩,h1,h2⟩
def cntT (l:List Bool):Nat:=l.foldr (fun b s=>(if b=true then 1 else 0)+s) 0
structure ShI (m cfn:Nat) (st:List St) (sn:List Bool):Prop where
 sts:Sts m cfn st
 len:sn.length=cfn*2 ^ m
 cnt:st.length<=cfn+cntT sn
end Go.V.W
namespace Go.V.W
open Go.Proofs
def GWalk (g:Gr) (w:List (List Int)):Prop:=g.2.1.length<=200/\w.length<=60 /\ ∀l∈w,l.length<=10
theorem GWalk.ok {g:Gr} {w:List (List Int)} (h:GWalk g w):okL g.2.1=true/\okLL w=true:=⟨okL_of (by have:=h.1;omega),okLL_small (by have:=h.2.1;omega) (List.all_eq_true.2 fun l hl=>decide_eq_true (by have:=h.2.2 l hl;omega))⟩
end Go.V.W
namespace Go.V.W
open Go.Proofs
structure LogIs (d p:List UInt8) (c:Int):Prop where
 size:d.length+p.length<=30000
 all:(openL 60 0 (d++p)).2=(d++p).length
 durable:(openL 60 0 d).2=d.length
 count:((openL 60 0 (d++p)).1.length:Int)=c
end Go.V.W
namespace Go.V.W
open Go.Proofs Go.Shelf Go.RowKit
-- import Derived.Shelf.Lays
-- import Derived.Shelf.LaysM
-- import Derived.Test.XvLib3
-- import Derived.Shelf.SortM.Plain
-- import Derived.Shelf.SortM.SortNone
-- import Derived.Shelf.SlSortCmp.NoneTotal
def layg5_ren:Go.Shelf.Ren:=
{
  f:=fun x=>
    match x with
    | 5=>221
    | 8=>252
    | 7=>251
    | 19=>268
    | 20=>269
    | 10=>260
    | 11=>261
    | 12=>262
    | 13=>263
    | 14=>264
    | 15=>265
    | 16=>250
    | 17=>266
    | 18=>267
    | 30=>280
    | 31=>281
    | 32=>282
    | 33=>283
    | 34=>284
    | 35=>258
    | 40=>288
    | n=>n,
  t:=fun x=>
    match x with
    | 23=>36
    | 25=>3
    | 3=>3
    | 32=>192
    | 22=>36
    | 0=>0
    | 44=>199
    | 46=>94
    | 4=>4
    | 36=>206
    | 35=>205
    | 41=>39
    | 5=>5
    | 9=>9
    | 53=>222
    | 57=>226
    | 63=>230
    | 64=>231
    | n=>n,
  g:=fun x=>
    x }
set_option maxRecDepth 1000000 in
theorem layg5:Go.Proofs.SlLaysM.n5 Go.Proofs.Tryz.prog layg5_ren:=
{ mixed:=by kernel_rfl,
  f5:=⟨Go.Proofs.Tryz.f221.name,of_decide_eq_true (by kernel_rfl),(Go.Proofs.Tryz.func221).trans (congrArg some (by kernel_rfl))⟩,
  f7:=⟨Go.Proofs.Tryz.f251.name,of_decide_eq_true (by kernel_rfl),(Go.Proofs.Tryz.func251).trans (congrArg some (by kernel_rfl))⟩,
  f8:=(Go.Proofs.Tryz.func252).trans (congrArg some (by kernel_rfl)),
  f10:=⟨Go.Proofs.Tryz.f260.name,of_decide_eq_true (by kernel_rfl),(Go.Proofs.Tryz.func260).trans (congrArg some (by kernel_rfl))⟩,
  f11:=⟨Go.Proofs.Tryz.f261.name,of_decide_eq_true (by kernel_rfl),(Go.Proofs.Tryz.func261).trans (congrArg some (by kernel_rfl))⟩,
  f12:=⟨Go.Proofs.Tryz.f262.name,of_decide_eq_true (by kernel_rfl),(Go.Proofs.Tryz.func262).trans (congrArg some (by kernel_rfl))⟩,
  f13:=⟨Go.Proofs.Tryz.f263.name,of_decide_eq_true (by kernel_rfl),(Go.Proofs.Tryz.func263).trans (congrArg some (by kernel_rfl))⟩,
  f14:=⟨Go.Proofs.Tryz.f264.name,of_decide_eq_true (by kernel_rfl),(Go.Proofs.Tryz.func264).trans (congrArg some (by kernel_rfl))⟩,
  f15:=⟨Go.Proofs.Tryz.f265.name,of_decide_eq_true (by kernel_rfl),(Go.Proofs.Tryz.func265).trans (congrArg some (by kernel_rfl))⟩,
  f16:=⟨Go.Proofs.Tryz.f250.name,of_decide_eq_true (by kernel_rfl),(Go.Proofs.Tryz.func250).trans (congrArg some (by kernel_rfl))⟩,
  f17:=⟨Go.Proofs.Tryz.f266.name,of_decide_eq_true (by kernel_rfl),(Go.Proofs.Tryz.func266).trans (congrArg some (by kernel_rfl))⟩,
  f18:=⟨Go.Proofs.Tryz.f267.name,of_decide_eq_true (by kernel_rfl),(Go.Proofs.Tryz.func267).trans (congrArg some (by kernel_rfl))⟩,
  f19:=(Go.Proofs.Tryz.func268).trans (congrArg some (by kernel_rfl)),
  f20:=(Go.Proofs.Tryz.func269).trans (congrArg some (by kernel_rfl)),
  f30:=⟨Go.Proofs.Tryz.f280.name,of_decide_eq_true (by kernel_rfl),(Go.Proofs.Tryz.func280).trans (congrArg some (by kernel_rfl))⟩,
  f31:=(Go.Proofs.Tryz.func281).trans (congrArg some (by kernel_rfl)),
  f32:=(Go.Proofs.Tryz.func282).trans (congrArg some (by kernel_rfl)),
  f33:=⟨Go.Proofs.Tryz.f283.name,of_decide_eq_true (by kernel_rfl),(Go.Proofs.Tryz.func283).trans (congrArg some (by kernel_rfl))⟩,
  f34:=⟨Go.Proofs.Tryz.f284.name,of_decide_eq_true (by kernel_rfl),(Go.Proofs.Tryz.func284).trans (congrArg some (by kernel_rfl))⟩,
  f35:=⟨Go.Proofs.Tryz.f258.name,of_decide_eq_true (by kernel_rfl),(Go.Proofs.Tryz.func258).trans (congrArg some (by kernel_rfl))⟩,
  f40:=⟨Go.Proofs.Tryz.f288.name,of_decide_eq_true (by kernel_rfl),(Go.Proofs.Tryz.func288).trans (congrArg some (by kernel_rfl))⟩,
  t0:=Go.Proofs.Tryz.underlying0,
  a0:=Go.Proofs.Tryz.isAgg0,
  z0:=Go.Proofs.Tryz.sizeOf0,
  v0:=Go.Proofs.Tryz.zeroValue0,
  t3:=Go.Proofs.Tryz.underlying3,
  a3:=Go.Proofs.Tryz.isAgg3,
  z3:=Go.Proofs.Tryz.sizeOf3,
  v3:=Go.Proofs.Tryz.zeroValue3,
  t4:=Go.Proofs.Tryz.underlying4,
  a4:=Go.Proofs.Tryz.isAgg4,
  z4:=Go.Proofs.Tryz.sizeOf4,
  v4:=Go.Proofs.Tryz.zeroValue4,
  t5:=Go.Proofs.Tryz.underlying5,
  a5:=Go.Proofs.Tryz.isAgg5,
  z5:=Go.Proofs.Tryz.sizeOf5,
  v5:=Go.Proofs.Tryz.zeroValue5,
  t9:=Go.Proofs.Tryz.underlying9,
  a9:=Go.Proofs.Tryz.isAgg9,
  z9:=Go.Proofs.Tryz.sizeOf9,
  v9:=Go.Proofs.Tryz.zeroValue9,
  t22:=Go.Proofs.Tryz.underlying36,
  a22:=Go.Proofs.Tryz.isAgg36,
  z22:=Go.Proofs.Tryz.sizeOf36,
  v22:=Go.Proofs.Tryz.zeroValue36,
  t23:=Go.Proofs.Tryz.underlying36,
  a23:=Go.Proofs.Tryz.isAgg36,
  z23:=Go.Proofs.Tryz.sizeOf36,
  v23:=Go.Proofs.Tryz.zeroValue36,
  t25:=Go.Proofs.Tryz.underlying3,
  a25:=Go.Proofs.Tryz.isAgg3,
  z25:=Go.Proofs.Tryz.sizeOf3,
  v25:=Go.Proofs.Tryz.zeroValue3,
  t32:=Go.Proofs.Tryz.underlying192,
  a32:=Go.Proofs.Tryz.isAgg192,
  z32:=Go.Proofs.Tryz.sizeOf192,
  v32:=Go.Proofs.Tryz.zeroValue192,
  t35:=Go.Proofs.Tryz.underlying205,
  a35:=Go.Proofs.Tryz.isAgg205,
  z35:=Go.Proofs.Tryz.sizeOf205,
  v35:=Go.Proofs.Tryz.zeroValue205,
  t36:=Go.Proofs.Tryz.underlying206,
  a36:=Go.Proofs.Tryz.isAgg206,
  z36:=Go.Proofs.Tryz.sizeOf206,
  v36:=Go.Proofs.Tryz.zeroValue206,
  t41:=Go.Proofs.Tryz.underlying39,
  a41:=Go.Proofs.Tryz.isAgg39,
  z41:=Go.Proofs.Tryz.sizeOf39,
  v41:=Go.Proofs.Tryz.zeroValue39,
  t44:=Go.Proofs.Tryz.underlying199,
  a44:=Go.Proofs.Tryz.isAgg199,
  z44:=Go.Proofs.Tryz.sizeOf199,
  v44:=Go.Proofs.Tryz.zeroValue199,
  t46:=Go.Proofs.Tryz.underlying94,
  a46:=Go.Proofs.Tryz.isAgg94,
  z46:=Go.Proofs.Tryz.sizeOf94,
  v46:=Go.Proofs.Tryz.zeroValue94,
  t53:=Go.Proofs.Tryz.underlying222,
  a53:=Go.Proofs.Tryz.isAgg222,
  z53:=Go.Proofs.Tryz.sizeOf222,
  v53:=Go.Proofs.Tryz.zeroValue222,
  t57:=Go.Proofs.Tryz.underlying226,
  a57:=Go.Proofs.Tryz.isAgg226,
  z57:=Go.Proofs.Tryz.sizeOf226,
  v57:=Go.Proofs.Tryz.zeroValue226,
  t63:=Go.Proofs.Tryz.underlying230,
  a63:=Go.Proofs.Tryz.isAgg230,
  z63:=Go.Proofs.Tryz.sizeOf230,
  v63:=Go.Proofs.Tryz.zeroValue230,
  t64:=Go.Proofs.Tryz.underlying231,
  a64:=Go.Proofs.Tryz.isAgg231,
  z64:=Go.Proofs.Tryz.sizeOf231,
  v64:=Go.Proofs.Tryz.zeroValue231 }
def layg6_ren:Go.Shelf.Ren:=
{
  f:=fun x=>
    match x with
    | 6=>222
    | 15=>252
    | 14=>253
    | 28=>268
    | 29=>269
    | 20=>270
    | 21=>271
    | 22=>272
    | 23=>273
    | 24=>274
    | 25=>275
    | 26=>276
    | 27=>277
    | 46=>285
    | 47=>281
    | 48=>282
    | 49=>286
    | 50=>287
    | 57=>289
    | n=>n,
  t:=fun x=>
    match x with
    | 22=>27
    | 24=>36
    | 25=>167
    | 3=>3
    | 39=>192
    | 0=>0
    | 53=>199
    | 55=>94
    | 4=>4
    | 46=>206
    | 45=>205
    | 50=>39
    | 5=>5
    | 9=>9
    | 66=>222
    | 70=>226
    | 76=>230
    | 77=>231
    | n=>n,
  g:=fun x=>
    x }
set_option maxRecDepth 1000000 in
theorem layg6:Go.Proofs.SlLaysF.n6 Go.Proofs.Tryz.prog layg6_ren:=
{ mixed:=by kernel_rfl,
  f6:=⟨Go.Proofs.Tryz.f222.name,of_decide_eq_true (by kernel_rfl),(Go.Proofs.Tryz.func222).trans (congrArg some (by kernel_rfl))⟩,
  f14:=⟨Go.Proofs.Tryz.f253.name,of_decide_eq_true (by kernel_rfl),(Go.Proofs.Tryz.func253).trans (congrArg some (by kernel_rfl))⟩,
  f15:=(Go.Proofs.Tryz.func252).trans (congrArg some (by kernel_rfl)),
  f20:=⟨Go.Proofs.Tryz.f270.name,of_decide_eq_true (by kernel_rfl),(Go.Proofs.Tryz.func270).trans (congrArg some (by kernel_rfl))⟩,
  f21:=⟨Go.Proofs.Tryz.f271.name,of_decide_eq_true (by kernel_rfl),(Go.Proofs.Tryz.func271).trans (congrArg some (by kernel_rfl))⟩,
  f22:=⟨Go.Proofs.Tryz.f272.name,of_decide_eq_true (by kernel_rfl),(Go.Proofs.Tryz.func272).trans (congrArg some (by kernel_rfl))⟩,
  f23:=⟨Go.Proofs.Tryz.f273.name,of_decide_eq_true (by kernel_rfl),(Go.Proofs.Tryz.func273).trans (congrArg some (by kernel_rfl))⟩,
  f24:=⟨Go.Proofs.Tryz.f274.name,of_decide_eq_true (by kernel_rfl),(Go.Proofs.Tryz.func274).trans (congrArg some (by kernel_rfl))⟩,
  f25:=⟨Go.Proofs.Tryz.f275.name,of_decide_eq_true (by kernel_rfl),(Go.Proofs.Tryz.func275).trans (congrArg some (by kernel_rfl))⟩,
  f26:=⟨Go.Proofs.Tryz.f276.name,of_decide_eq_true (by kernel_rfl),(Go.Proofs.Tryz.func276).trans (congrArg some (by kernel_rfl))⟩,
  f27:=⟨Go.Proofs.Tryz.f277.name,of_decide_eq_true (by kernel_rfl),(Go.Proofs.Tryz.func277).trans (congrArg some (by kernel_rfl))⟩,
  f28:=(Go.Proofs.Tryz.func268).trans (congrArg some (by kernel_rfl)),
  f29:=(Go.Proofs.Tryz.func269).trans (congrArg some (by kernel_rfl)),
  f46:=⟨Go.Proofs.Tryz.f285.name,of_decide_eq_true (by kernel_rfl),(Go.Proofs.Tryz.func285).trans (congrArg some (by kernel_rfl))⟩,
  f47:=(Go.Proofs.Tryz.func281).trans (congrArg some (by kernel_rfl)),
  f48:=(Go.Proofs.Tryz.func282).trans (congrArg some (by kernel_rfl)),
  f49:=⟨Go.Proofs.Tryz.f286.name,of_decide_eq_true (by kernel_rfl),(Go.Proofs.Tryz.func286).trans (congrArg some (by kernel_rfl))⟩,
  f50:=⟨Go.Proofs.Tryz.f287.name,of_decide_eq_true (by kernel_rfl),(Go.Proofs.Tryz.func287).trans (congrArg some (by kernel_rfl))⟩,
  f57:=⟨Go.Proofs.Tryz.f289.name,of_decide_eq_true (by kernel_rfl),(Go.Proofs.Tryz.func289).trans (congrArg some (by kernel_rfl))⟩,
  t0:=Go.Proofs.Tryz.underlying0,
  a0:=Go.Proofs.Tryz.isAgg0,
  z0:=Go.Proofs.Tryz.sizeOf0,
  v0:=Go.Proofs.Tryz.zeroValue0,
  t3:=Go.Proofs.Tryz.underlying3,
  a3:=Go.Proofs.Tryz.isAgg3,
  z3:=Go.Proofs.Tryz.sizeOf3,
  v3:=Go.Proofs.Tryz.zeroValue3,
  t4:=Go.Proofs.Tryz.underlying4,
  a4:=Go.Proofs.Tryz.isAgg4,
  z4:=Go.Proofs.Tryz.sizeOf4,
  v4:=Go.Proofs.Tryz.zeroValue4,
  t5:=Go.Proofs.Tryz.underlying5,
  a5:=Go.Proofs.Tryz.isAgg5,
  z5:=Go.Proofs.Tryz.sizeOf5,
  v5:=Go.Proofs.Tryz.zeroValue5,
  t9:=Go.Proofs.Tryz.underlying9,
  a9:=Go.Proofs.Tryz.isAgg9,
  z9:=Go.Proofs.Tryz.sizeOf9,
  v9:=Go.Proofs.Tryz.zeroValue9,
  t22:=Go.Proofs.Tryz.underlying27,
  a22:=Go.Proofs.Tryz.isAgg27,
  z22:=Go.Proofs.Tryz.sizeOf27,
  v22:=Go.Proofs.Tryz.zeroValue27,
  a24:=Go.Proofs.Tryz.isAgg36,
  z24:=Go.Proofs.Tryz.sizeOf36,
  t25:=Go.Proofs.Tryz.underlying167,
  a25:=Go.Proofs.Tryz.isAgg167,
  z25:=Go.Proofs.Tryz.sizeOf167,
  v25:=Go.Proofs.Tryz.zeroValue167,
  t39:=Go.Proofs.Tryz.underlying192,
  a39:=Go.Proofs.Tryz.isAgg192,
  z39:=Go.Proofs.Tryz.sizeOf192,
  v39:=Go.Proofs.Tryz.zeroValue192,
  t45:=Go.Proofs.Tryz.underlying205,
  a45:=Go.Proofs.Tryz.isAgg205,
  z45:=Go.Proofs.Tryz.sizeOf205,
  v45:=Go.Proofs.Tryz.zeroValue205,
  t46:=Go.Proofs.Tryz.underlying206,
  a46:=Go.Proofs.Tryz.isAgg206,
  z46:=Go.Proofs.Tryz.sizeOf206,
  v46:=Go.Proofs.Tryz.zeroValue206,
  t50:=Go.Proofs.Tryz.underlying39,
  a50:=Go.Proofs.Tryz.isAgg39,
  z50:=Go.Proofs.Tryz.sizeOf39,
  v50:=Go.Proofs.Tryz.zeroValue39,
  t53:=Go.Proofs.Tryz.underlying199,
  a53:=Go.Proofs.Tryz.isAgg199,
  z53:=Go.Proofs.Tryz.sizeOf199,
  v53:=Go.Proofs.Tryz.zeroValue199,
  t55:=Go.Proofs.Tryz.underlying94,
  a55:=Go.Proofs.Tryz.isAgg94,
  z55:=Go.Proofs.Tryz.sizeOf94,
  v55:=Go.Proofs.Tryz.zeroValue94,
  t66:=Go.Proofs.Tryz.underlying222,
  a66:=Go.Proofs.Tryz.isAgg222,
  z66:=Go.Proofs.Tryz.sizeOf222,
  v66:=Go.Proofs.Tryz.zeroValue222,
  t70:=Go.Proofs.Tryz.underlying226,
  a70:=Go.Proofs.Tryz.isAgg226,
  z70:=Go.Proofs.Tryz.sizeOf226,
  v70:=Go.Proofs.Tryz.zeroValue226,
  t76:=Go.Proofs.Tryz.underlying230,
  a76:=Go.Proofs.Tryz.isAgg230,
  z76:=Go.Proofs.Tryz.sizeOf230,
  v76:=Go.Proofs.Tryz.zeroValue230,
  t77:=Go.Proofs.Tryz.underlying231,
  a77:=Go.Proofs.Tryz.isAgg231,
  z77:=Go.Proofs.Tryz.sizeOf231,
  v77:=Go.Proofs.Tryz.zeroValue231 }
theorem tab:TabOk Tryz.prog (assoc tks) (assoc ars):=tab_of (by kernel_rfl)
theorem mixed:Tryz.prog.follows .mixedOrders=true:=by kernel_rfl
theorem C_q3q:Contract Tryz.prog 222 S_q3q:=
  con_sortF (enters_of Tryz.func222 (by kernel_rfl) rfl) (fun w v1 v2 xs ys h1 h2 l1 l2=>cmpH h1 h2 l1 l2) (fun n enc cf blk off cap w h1 hO hcmp hH hb hs=>Any.slices_SortFunc layg6 enc h1 cf hO 199 #[] blk off cap (idA n) w (enters_of Tryz.func199 (by kernel_rfl) rfl) hcmp hH hb hs) (AnyF.slices_SortFunc_none { layg6 with })
theorem C_q19q:Contract Tryz.prog 221 S_q19q:=
  con_sortI (enters_of Tryz.func221 (by kernel_rfl) rfl) (fun blk off cap zs w h1 h2 h3=>AnyM.slices_Sort_int layg5 blk off cap zs w h1 h2 h3) (fun p cap w=>AnyM.slices_Sort_int_none layg5 p cap w)
theorem C_laws_rBig_raw (N:Nat):Contract Tryz.prog 9 ⟨[(K_Su8,false)],[.bool],true,F_laws_rBig N⟩:=
  have E:Env Tryz.prog Γ_laws_rBig:=env_of tab trivial
  con_of (body:=bodyOf Tryz.f9) (Pc:=[]) E rfl mixed Tryz.func9 (by kernel_rfl) (by kernel_rfl) (by kernel_rfl) (by kernel_rfl) (fun A hA=>trivial) (fun _=>by kernel_rfl)
theorem C_laws_rBig:Contract Tryz.prog 9 S_laws_rBig:=Contract.less (fun N:Nat=>F_laws_rBig N) C_laws_rBig_raw (fun d r h=>⟨0,(F_laws_rBig_tot 0 d).trans h⟩)
theorem C_q41q_raw (N:Nat):Contract Tryz.prog 187 ⟨[(K_BPSu8iu64q,true)],[I],true,F_q41q N⟩:=
  have E:Env Tryz.prog Γ_q41q:=env_of tab trivial
  con_of (body:=bodyOf Tryz.f187) (Pc:=[]) E rfl mixed Tryz.func187 (by kernel_rfl) (by kernel_rfl) (by kernel_rfl) (by kernel_rfl) (fun A hA=>trivial) (fun _=>by kernel_rfl)
theorem C_q41q:Contract Tryz.prog 187 S_q41q:=C_q41q_raw 0
theorem C_q40q_raw (N:Nat):Contract Tryz.prog 91 ⟨[(K_BPSu8iu64q,true),(I,false)],[I],true,F_q40q N⟩:=
  have E:Env Tryz.prog Γ_q40q:=env_of tab ⟨C_q41q,trivial⟩
  con_of (body:=bodyOf Tryz.f91) (Pc:=[]) E rfl mixed Tryz.func91 (by kernel_rfl) (by kernel_rfl) (by kernel_rfl) (by kernel_rfl) (fun A hA=>trivial) (fun _=>by kernel_rfl)
theorem C_q40q:Contract Tryz.prog 91 S_q40q:=C_q40q_raw 0
theorem C_q50q_raw (N:Nat):Contract Tryz.prog 89 ⟨[(K_BPSu8iu64q,true),(I,false)],[.bool],true,F_q50q N⟩:=
  have E:Env Tryz.prog Γ_q50q:=env_of tab ⟨C_q40q,trivial⟩
  con_of (body:=bodyOf Tryz.f89) (Pc:=[]) E rfl mixed Tryz.func89 (by kernel_rfl) (by kernel_rfl) (by kernel_rfl) (by kernel_rfl) (fun A hA=>trivial) (fun _=>by kernel_rfl)
theorem C_q50q:Contract Tryz.prog 89 S_q50q:=C_q50q_raw 0
theorem C_q36q_raw (N:Nat):Contract Tryz.prog 133 ⟨[(K_BPSu8iu64q,true),(K_Si,false)],[I],true,F_q36q N⟩:=
  have E:Env Tryz.prog Γ_q36q:=env_of tab ⟨C_q40q,trivial⟩
  con_of (body:=bodyOf Tryz.f133) (Pc:=[]) E rfl mixed Tryz.func133 (by kernel_rfl) (by kernel_rfl) (by kernel_rfl) (by kernel_rfl) (fun A hA=>trivial) (fun _=>by kernel_rfl)
theorem C_q36q:Contract Tryz.prog 133 S_q36q:=C_q36q_raw 0
theorem C_q69q_raw (N:Nat):Contract Tryz.prog 238 ⟨[(I,false),(I,false)],[I],true,F_q69q N⟩:=
  have E:Env Tryz.prog Γ_q69q:=env_of tab trivial
  con_of (body:=bodyOf Tryz.f238) (Pc:=[]) E rfl mixed Tryz.func238 (by kernel_rfl) (by kernel_rfl) (by kernel_rfl) (by kernel_rfl) (fun A hA=>trivial) (fun _=>by kernel_rfl)
theorem C_q69q:Contract Tryz.prog 238 S_q69q:=Contract.less (fun N:Nat=>F_q69q N) C_q69q_raw (fun d r h=>⟨0,(F_q69q_tot 0 d).trans h⟩)
theorem C_q74q_raw (N:Nat):Contract Tryz.prog 185 ⟨[(I,false)],[K_PiSPiiqq],true,F_q74q N⟩:=
  have E:Env Tryz.prog Γ_q74q:=env_of tab trivial
  con_of (body:=bodyOf Tryz.f185) (Pc:=[(0,⟨q74q_l0_h,q74q_l0_o,q74q_l0 N N⟩)]) E rfl mixed Tryz.func185 (by kernel_rfl) (by kernel_rfl) (by kernel_rfl) (by kernel_rfl) (fun A hA=>⟨pc_of (body:=loopOf Tryz.f185 0) (inner:=[]) E mixed hA (by kernel_rfl) (by kernel_rfl) (by kernel_rfl) trivial (fun _=>rfl) (fun _ _=>by kernel_rfl) N,trivial⟩) (fun _=>by kernel_rfl)
theorem C_q74q:Contract Tryz.prog 185 S_q74q:=Contract.less (fun N:Nat=>F_q74q N) C_q74q_raw pickF_lim
theorem C_q62q_raw (N:Nat):Contract Tryz.prog 200 ⟨[(K_Piiq,false),(K_Piiq,false)],[.bool],true,F_q62q N⟩:=
  have E:Env Tryz.prog Γ_q62q:=env_of tab trivial
  con_of (body:=bodyOf Tryz.f200) (Pc:=[]) E rfl mixed Tryz.func200 (by kernel_rfl) (by kernel_rfl) (by kernel_rfl) (by kernel_rfl) (fun A hA=>trivial) (fun _=>by kernel_rfl)
theorem C_q62q:Contract Tryz.prog 200 S_q62q:=Contract.less (fun N:Nat=>F_q62q N) C_q62q_raw (fun d r h=>⟨0,(F_q62q_tot 0 d).trans h⟩)
theorem C_spec_l2Put_raw (N:Nat):Contract Tryz.prog 186 ⟨[(K_SPiiq,false),(K_Piiq,false)],[K_SPiiq],true,F_spec_l2Put N⟩:=
  have E:Env Tryz.prog Γ_spec_l2Put:=env_of tab ⟨C_q62q,trivial⟩
  con_of (body:=bodyOf Tryz.f186) (Pc:=[(0,⟨spec_l2Put_l0_h,spec_l2Put_l0_o,spec_l2Put_l0 N N⟩)]) E rfl mixed Tryz.func186 (by kernel_rfl) (by kernel_rfl) (by kernel_rfl) (by kernel_rfl) (fun A hA=>⟨pc_of (body:=loopOf Tryz.f186 0) (inner:=[]) E mixed hA (by kernel_rfl) (by kernel_rfl) (by kernel_rfl) trivial (fun _=>rfl) (fun _ _=>by kernel_rfl) N,trivial⟩) (fun _=>by kernel_rfl)
theorem C_spec_l2Put:Contract Tryz.prog 186 S_spec_l2Put:=Contract.less (fun N:Nat=>F_spec_l2Put N) C_spec_l2Put_raw l2Put_lim
theorem C_q63q_raw (N:Nat):Contract Tryz.prog 90 ⟨[(I,false)],[K_PiSPiiqq],true,F_q63q N⟩:=
  have E:Env Tryz.prog Γ_q63q:=env_of tab ⟨C_q74q,⟨C_spec_l2Put,trivial⟩⟩
  con_of (body:=bodyOf Tryz.f90) (Pc:=[]) E rfl mixed Tryz.func90 (by kernel_rfl) (by kernel_rfl) (by kernel_rfl) (by kernel_rfl) (fun A hA=>trivial) (fun _=>by kernel_rfl)
theorem C_q63q:Contract Tryz.prog 90 S_q63q:=C_q63q_raw 0
theorem C_q46q_raw (N:Nat):Contract Tryz.prog 239 ⟨[(I,false)],[K_PiSPiiqq],true,F_q46q N⟩:=
  have E:Env Tryz.prog Γ_q46q:=env_of tab trivial
  con_of (body:=bodyOf Tryz.f239) (Pc:=[(0,⟨q46q_l0_h,q46q_l0_o,q46q_l0 N N⟩)]) E rfl mixed Tryz.func239 (by kernel_rfl) (by kernel_rfl) (by kernel_rfl) (by kernel_rfl) (fun A hA=>⟨pc_of (body:=loopOf Tryz.f239 0) (inner:=[(2,⟨q46q_l2_h,q46q_l2_o,q46q_l2 N N⟩)]) E mixed hA (by kernel_rfl) (by kernel_rfl) (by kernel_rfl) ⟨pc_of (body:=loopOf Tryz.f239 2) (inner:=[]) E mixed hA (by kernel_rfl) (by kernel_rfl) (by kernel_rfl) trivial (fun _=>rfl) (fun _ _=>by kernel_rfl) N,trivial⟩ (fun _=>rfl) (fun _ _=>by kernel_rfl) N,trivial⟩) (fun _=>by kernel_rfl)
theorem C_q46q:Contract Tryz.prog 239 S_q46q:=Contract.less (fun N:Nat=>F_q46q N) C_q46q_raw pickF_lim
theorem C_q75q_raw (N:Nat):Contract Tryz.prog 201 ⟨[(I,false),(I,false)],[I],true,F_q75q N⟩:=
  have E:Env Tryz.prog Γ_q75q:=env_of tab trivial
  con_of (body:=bodyOf Tryz.f201) (Pc:=[]) E rfl mixed Tryz.func201 (by kernel_rfl) (by kernel_rfl) (by kernel_rfl) (by kernel_rfl) (fun A hA=>trivial) (fun _=>by kernel_rfl)
theorem C_q75q:Contract Tryz.prog 201 S_q75q:=Contract.less (fun N:Nat=>F_q75q N) C_q75q_raw (fun d r h=>⟨0,(F_q75q_tot 0 d).trans h⟩)
theorem C_q82q_raw (N:Nat):Contract Tryz.prog 240 ⟨[(K_PiSPiiqq,false),(I,false),(I,false)],[.bool],true,F_q82q N⟩:=
  have E:Env Tryz.prog Γ_q82q:=env_of tab trivial
  con_of (body:=bodyOf Tryz.f240) (Pc:=[(0,⟨q82q_l0_h,q82q_l0_o,q82q_l0 N N⟩)]) E rfl mixed Tryz.func240 (by kernel_rfl) (by kernel_rfl) (by kernel_rfl) (by kernel_rfl) (fun A hA=>⟨pc_of (body:=loopOf Tryz.f240 0) (inner:=[]) E mixed hA (by kernel_rfl) (by kernel_rfl) (by kernel_rfl) trivial (fun _=>rfl) (fun _ _=>by kernel_rfl) N,trivial⟩) (fun _=>by kernel_rfl)
theorem C_q82q:Contract Tryz.prog 240 S_q82q:=Contract.less (fun N:Nat=>F_q82q N) C_q82q_raw l2Near_lim
theorem C_q29q_raw (N:Nat):ContractG Tryz.prog 241 (⟨[(K_BPSu8iu64q,true),(K_PiSPiiqq,true)],[K_PiSPiiqq],true,F_q29q N⟩,{ gone:=[1],deep:=[] }):=
  have E:Env Tryz.prog Γ_q29q:=env_ofG tab ⟨C_q40q,⟨C_q36q,trivial⟩⟩ trivial (fun _ h=>by cases h) trivial (by kernel_rfl)
  con_ofG (body:=bodyOf Tryz.f241) (Pc:=[]) E mixed Tryz.func241 (by kernel_rfl) (by kernel_rfl) (by kernel_rfl) (by kernel_rfl) (fun A hA=>trivial) (fun _=>by kernel_rfl)
theorem C_q29q:ContractG Tryz.prog 241 (S_q29q,{ gone:=[1],deep:=[] }):=C_q29q_raw 0
theorem C_q18q_raw (N:Nat):Contract Tryz.prog 183 ⟨[(K_BPSu8iu64q,true),(I,false)],[K_PiSPiiqq],true,F_q18q N⟩:=
  have E:Env Tryz.prog Γ_q18q:=env_ofG tab ⟨C_q50q,⟨C_q63q,⟨C_q40q,⟨C_q36q,⟨C_q74q,⟨C_spec_l2Put,⟨C_q75q,⟨C_q69q,⟨C_q46q,⟨C_q82q,trivial⟩⟩⟩⟩⟩⟩⟩⟩⟩⟩ trivial (fun _ h=>by cases h) ⟨C_q29q,trivial⟩ (by kernel_rfl)
  con_of (body:=bodyOf Tryz.f183) (Pc:=[(1,⟨q18q_l1_h,q18q_l1_o,q18q_l1 N N⟩)]) E rfl mixed Tryz.func183 (by kernel_rfl) (by kernel_rfl) (by kernel_rfl) (by kernel_rfl) (fun A hA=>⟨pc_of (body:=loopOf Tryz.f183 1) (inner:=[(3,⟨q18q_l3_h,q18q_l3_o,q18q_l3 N N⟩)]) E mixed hA (by kernel_rfl) (by kernel_rfl) (by kernel_rfl) ⟨pc_of (body:=loopOf Tryz.f183 3) (inner:=[]) E mixed hA (by kernel_rfl) (by kernel_rfl) (by kernel_rfl) trivial (fun _=>rfl) (fun _ _=>by kernel_rfl) N,trivial⟩ (fun _=>rfl) (fun _ _=>by kernel_rfl) N,trivial⟩) (fun _=>by kernel_rfl)
theorem C_q18q:Contract Tryz.prog 183 S_q18q:=Contract.less (fun N:Nat=>F_q18q N) C_q18q_raw pickF_lim
theorem C_q21q_raw (N:Nat):Contract Tryz.prog 182 ⟨[(K_BPSu8iu64q,true)],[K_PiSPiiqq],true,F_q21q N⟩:=
  have E:Env Tryz.prog Γ_q21q:=env_of tab ⟨C_q18q,trivial⟩
  con_of (body:=bodyOf Tryz.f182) (Pc:=[]) E rfl mixed Tryz.func182 (by kernel_rfl) (by kernel_rfl) (by kernel_rfl) (by kernel_rfl) (fun A hA=>trivial) (fun _=>by kernel_rfl)
theorem C_q21q:Contract Tryz.prog 182 S_q21q:=C_q21q_raw 0
theorem C_q45q_raw (N:Nat):Contract Tryz.prog 184 ⟨[(K_BPSu8iu64q,true)],[I],true,F_q45q N⟩:=
  have E:Env Tryz.prog Γ_q45q:=env_of tab ⟨C_q50q,⟨C_q36q,trivial⟩⟩
  con_of (body:=bodyOf Tryz.f184) (Pc:=[]) E rfl mixed Tryz.func184 (by kernel_rfl) (by kernel_rfl) (by kernel_rfl) (by kernel_rfl) (fun A hA=>trivial) (fun _=>by kernel_rfl)
theorem C_q45q:Contract Tryz.prog 184 S_q45q:=C_q45q_raw 0
theorem C_q35q_raw (N:Nat):Contract Tryz.prog 88 ⟨[(K_BPSu8iu64q,true)],[K_PiSPiiqq,I],true,F_q35q N⟩:=
  have E:Env Tryz.prog Γ_q35q:=env_of tab ⟨C_q50q,⟨C_q21q,⟨C_q18q,⟨C_q45q,trivial⟩⟩⟩⟩
  con_of (body:=bodyOf Tryz.f88) (Pc:=[]) E rfl mixed Tryz.func88 (by kernel_rfl) (by kernel_rfl) (by kernel_rfl) (by kernel_rfl) (fun A hA=>trivial) (fun _=>by kernel_rfl)
theorem C_q35q:Contract Tryz.prog 88 S_q35q:=C_q35q_raw 0
theorem C_spec_l1In_raw (N:Nat):Contract Tryz.prog 148 ⟨[(I,false),(I,false),(I,false)],[.bool],true,F_spec_l1In N⟩:=
  have E:Env Tryz.prog Γ_spec_l1In:=env_of tab trivial
  con_of (body:=bodyOf Tryz.f148) (Pc:=[]) E rfl mixed Tryz.func148 (by kernel_rfl) (by kernel_rfl) (by kernel_rfl) (by kernel_rfl) (fun A hA=>trivial) (fun _=>by kernel_rfl)
theorem C_spec_l1In:Contract Tryz.prog 148 S_spec_l1In:=Contract.less (fun N:Nat=>F_spec_l1In N) C_spec_l1In_raw (fun d r h=>⟨0,(F_spec_l1In_tot 0 d).trans h⟩)
theorem C_q77q_raw (N:Nat):Contract Tryz.prog 115 ⟨[(K_PiSPiiqq,false)],[.bool],true,F_q77q N⟩:=
  have E:Env Tryz.prog Γ_q77q:=env_of tab ⟨C_spec_l1In,⟨C_q62q,trivial⟩⟩
  con_of (body:=bodyOf Tryz.f115) (Pc:=[(0,⟨q77q_l0_h,q77q_l0_o,q77q_l0 N N⟩)]) E rfl mixed Tryz.func115 (by kernel_rfl) (by kernel_rfl) (by kernel_rfl) (by kernel_rfl) (fun A hA=>⟨pc_of (body:=loopOf Tryz.f115 0) (inner:=[]) E mixed hA (by kernel_rfl) (by kernel_rfl) (by kernel_rfl) trivial (fun _=>rfl) (fun _ _=>by kernel_rfl) N,trivial⟩) (fun _=>by kernel_rfl)
theorem C_q77q:Contract Tryz.prog 115 S_q77q:=Contract.less (fun N:Nat=>F_q77q N) C_q77q_raw l2Good_lim
theorem C_q67q_raw (N:Nat):Contract Tryz.prog 98 ⟨[(K_PiSPiiqq,false),(I,false)],[.bool],true,F_q67q N⟩:=
  have E:Env Tryz.prog Γ_q67q:=env_of tab ⟨C_q77q,⟨C_spec_l1In,trivial⟩⟩
  con_of (body:=bodyOf Tryz.f98) (Pc:=[]) E rfl mixed Tryz.func98 (by kernel_rfl) (by kernel_rfl) (by kernel_rfl) (by kernel_rfl) (fun A hA=>trivial) (fun _=>by kernel_rfl)
theorem C_q67q:Contract Tryz.prog 98 S_q67q:=C_q67q_raw 0
theorem C_spec_l1Own_raw (N:Nat):Contract Tryz.prog 151 ⟨[(K_Si,false)],[K_Si],true,F_spec_l1Own N⟩:=
  have E:Env Tryz.prog Γ_spec_l1Own:=env_of tab trivial
  con_of (body:=bodyOf Tryz.f151) (Pc:=[]) E rfl mixed Tryz.func151 (by kernel_rfl) (by kernel_rfl) (by kernel_rfl) (by kernel_rfl) (fun A hA=>trivial) (fun _=>by kernel_rfl)
theorem C_spec_l1Own:Contract Tryz.prog 151 S_spec_l1Own:=C_spec_l1Own_raw 0
theorem C_q49q_raw (N:Nat):Contract Tryz.prog 159 ⟨[(I,false),(I,false)],[K_SSi],true,F_q49q N⟩:=
  have E:Env Tryz.prog Γ_q49q:=env_of tab ⟨C_spec_l1Own,trivial⟩
  con_of (body:=bodyOf Tryz.f159) (Pc:=[(0,⟨q49q_l0_h,q49q_l0_o,q49q_l0 N N⟩)]) E rfl mixed Tryz.func159 (by kernel_rfl) (by kernel_rfl) (by kernel_rfl) (by kernel_rfl) (fun A hA=>⟨pc_of (body:=loopOf Tryz.f159 0) (inner:=[(2,⟨q49q_l2_h,q49q_l2_o,q49q_l2 N N⟩)]) E mixed hA (by kernel_rfl) (by kernel_rfl) (by kernel_rfl) ⟨pc_of (body:=loopOf Tryz.f159 2) (inner:=[(4,⟨q49q_l4_h,q49q_l4_o,q49q_l4 N N⟩)]) E mixed hA (by kernel_rfl) (by kernel_rfl) (by kernel_rfl) ⟨pc_of (body:=loopOf Tryz.f159 4) (inner:=[]) E mixed hA (by kernel_rfl) (by kernel_rfl) (by kernel_rfl) trivial (fun _=>rfl) (fun _ _=>by kernel_rfl) N,trivial⟩ (fun _=>rfl) (fun _ _=>by kernel_rfl) N,trivial⟩ (fun _=>rfl) (fun _ _=>by kernel_rfl) N,trivial⟩) (fun _=>by kernel_rfl)
theorem C_q49q:Contract Tryz.prog 159 S_q49q:=Contract.less (fun N:Nat=>F_q49q N) C_q49q_raw l4Configs_lim
theorem C_q38q_raw (N:Nat):Contract Tryz.prog 208 ⟨[(K_PiSPiiqq,false),(I,false)],[K_Si],true,F_q38q N⟩:=
  have E:Env Tryz.prog Γ_q38q:=env_of tab ⟨C_q82q,trivial⟩
  con_of (body:=bodyOf Tryz.f208) (Pc:=[(0,⟨q38q_l0_h,q38q_l0_o,q38q_l0 N N⟩)]) E rfl mixed Tryz.func208 (by kernel_rfl) (by kernel_rfl) (by kernel_rfl) (by kernel_rfl) (fun A hA=>⟨pc_of (body:=loopOf Tryz.f208 0) (inner:=[]) E mixed hA (by kernel_rfl) (by kernel_rfl) (by kernel_rfl) trivial (fun _=>rfl) (fun _ _=>by kernel_rfl) N,trivial⟩) (fun _=>by kernel_rfl)
theorem C_q38q:Contract Tryz.prog 208 S_q38q:=Contract.less (fun N:Nat=>F_q38q N) C_q38q_raw l2Neighbors_lim
theorem C_spec_l1Put_raw (N:Nat):Contract Tryz.prog 92 ⟨[(K_Si,false),(I,false)],[K_Si],false,F_spec_l1Put N⟩:=
  have E:Env Tryz.prog Γ_spec_l1Put:=env_of tab trivial
  con_of (body:=bodyOf Tryz.f92) (Pc:=[(0,⟨spec_l1Put_l0_h,spec_l1Put_l0_o,spec_l1Put_l0 N N⟩)]) E rfl mixed Tryz.func92 (by kernel_rfl) (by kernel_rfl) (by kernel_rfl) (by kernel_rfl) (fun A hA=>⟨pc_of (body:=loopOf Tryz.f92 0) (inner:=[]) E mixed hA (by kernel_rfl) (by kernel_rfl) (by kernel_rfl) trivial (fun _=>rfl) (fun _ _=>by kernel_rfl) N,trivial⟩) (fun _=>by kernel_rfl)
theorem C_spec_l1Put:Contract Tryz.prog 92 S_spec_l1Put:=Contract.less (fun N:Nat=>F_spec_l1Put N) C_spec_l1Put_raw l1Put_lim
theorem C_q73q_raw (N:Nat):Contract Tryz.prog 124 ⟨[(K_PiSPiiqq,false),(I,false)],[K_Si],false,F_q73q N⟩:=
  have E:Env Tryz.prog Γ_q73q:=env_of tab ⟨C_spec_l1Put,⟨C_q38q,trivial⟩⟩
  con_of (body:=bodyOf Tryz.f124) (Pc:=[]) E rfl mixed Tryz.func124 (by kernel_rfl) (by kernel_rfl) (by kernel_rfl) (by kernel_rfl) (fun A hA=>trivial) (fun _=>by kernel_rfl)
theorem C_q73q:Contract Tryz.prog 124 S_q73q:=C_q73q_raw 0
theorem C_q57q_raw (N:Nat):Contract Tryz.prog 225 ⟨[(K_Si,false)],[K_Si],false,F_q57q N⟩:=
  have E:Env Tryz.prog Γ_q57q:=env_ofV tab trivial trivial (fun _ h=>by cases h)
  con_of (body:=bodyOf Tryz.f225) (Pc:=[(0,⟨q57q_l0_h,q57q_l0_o,q57q_l0 N N⟩)]) E rfl mixed Tryz.func225 (by kernel_rfl) (by kernel_rfl) (by kernel_rfl) (by kernel_rfl) (fun A hA=>⟨pc_of (body:=loopOf Tryz.f225 0) (inner:=[(2,⟨q57q_l2_h,q57q_l2_o,q57q_l2 N N⟩)]) E mixed hA (by kernel_rfl) (by kernel_rfl) (by kernel_rfl) ⟨pc_of (body:=loopOf Tryz.f225 2) (inner:=[]) E mixed hA (by kernel_rfl) (by kernel_rfl) (by kernel_rfl) trivial (fun _=>rfl) (fun _ _=>by kernel_rfl) N,trivial⟩ (fun _=>rfl) (fun _ _=>by kernel_rfl) N,trivial⟩) (fun _=>by kernel_rfl)
theorem C_q57q:Contract Tryz.prog 225 S_q57q:=Contract.less (fun N:Nat=>F_q57q N) C_q57q_raw l4Sorted_lim
theorem C_q78q_raw (N:Nat):Contract Tryz.prog 254 ⟨[(K_Si,false),(K_Si,false)],[.bool],true,F_q78q N⟩:=
  have E:Env Tryz.prog Γ_q78q:=env_of tab trivial
  con_of (body:=bodyOf Tryz.f254) (Pc:=[(0,⟨q78q_l0_h,q78q_l0_o,q78q_l0 N N⟩)]) E rfl mixed Tryz.func254 (by kernel_rfl) (by kernel_rfl) (by kernel_rfl) (by kernel_rfl) (fun A hA=>⟨pc_of (body:=loopOf Tryz.f254 0) (inner:=[]) E mixed hA (by kernel_rfl) (by kernel_rfl) (by kernel_rfl) trivial (fun _=>rfl) (fun _ _=>by kernel_rfl) N,trivial⟩) (fun _=>by kernel_rfl)
theorem C_q78q:Contract Tryz.prog 254 S_q78q:=Contract.less (fun N:Nat=>F_q78q N) C_q78q_raw l4Less_lim
theorem C_q76q_raw (N:Nat):Contract Tryz.prog 220 ⟨[(K_Si,false),(K_Si,false)],[.bool],true,F_q76q N⟩:=
  have E:Env Tryz.prog Γ_q76q:=env_of tab trivial
  con_of (body:=bodyOf Tryz.f220) (Pc:=[(0,⟨q76q_l0_h,q76q_l0_o,q76q_l0 N N⟩)]) E rfl mixed Tryz.func220 (by kernel_rfl) (by kernel_rfl) (by kernel_rfl) (by kernel_rfl) (fun A hA=>⟨pc_of (body:=loopOf Tryz.f220 0) (inner:=[]) E mixed hA (by kernel_rfl) (by kernel_rfl) (by kernel_rfl) trivial (fun _=>rfl) (fun _ _=>by kernel_rfl) N,trivial⟩) (fun _=>by kernel_rfl)
theorem C_q76q:Contract Tryz.prog 220 S_q76q:=Contract.less (fun N:Nat=>F_q76q N) C_q76q_raw l1Same_lim
theorem C_spec_l4Put_raw (N:Nat):Contract Tryz.prog 224 ⟨[(K_SSi,false),(K_Si,false)],[K_SSi],false,F_spec_l4Put N⟩:=
  have E:Env Tryz.prog Γ_spec_l4Put:=env_of tab ⟨C_q76q,⟨C_q78q,trivial⟩⟩
  con_of (body:=bodyOf Tryz.f224) (Pc:=[(0,⟨spec_l4Put_l0_h,spec_l4Put_l0_o,spec_l4Put_l0 N N⟩)]) E rfl mixed Tryz.func224 (by kernel_rfl) (by kernel_rfl) (by kernel_rfl) (by kernel_rfl) (fun A hA=>⟨pc_of (body:=loopOf Tryz.f224 0) (inner:=[]) E mixed hA (by kernel_rfl) (by kernel_rfl) (by kernel_rfl) trivial (fun _=>rfl) (fun _ _=>by kernel_rfl) N,trivial⟩) (fun _=>by kernel_rfl)
theorem C_spec_l4Put:Contract Tryz.prog 224 S_spec_l4Put:=Contract.less (fun N:Nat=>F_spec_l4Put N) C_spec_l4Put_raw l4Put_lim
theorem C_q65q_raw (N:Nat):Contract Tryz.prog 155 ⟨[(K_PiSPiiqq,false),(K_Si,false)],[K_SSi],false,F_q65q N⟩:=
  have E:Env Tryz.prog Γ_q65q:=env_ofV tab ⟨C_q73q,⟨C_spec_l1Own,⟨C_spec_l4Put,⟨C_q57q,trivial⟩⟩⟩⟩ trivial (fun _ h=>by cases h)
  con_of (body:=bodyOf Tryz.f155) (Pc:=[(0,⟨q65q_l0_h,q65q_l0_o,q65q_l0 N N⟩),(6,⟨q65q_l6_h,q65q_l6_o,q65q_l6 N N⟩)]) E rfl mixed Tryz.func155 (by kernel_rfl) (by kernel_rfl) (by kernel_rfl) (by kernel_rfl) (fun A hA=>⟨pc_of (body:=loopOf Tryz.f155 0) (inner:=[(2,⟨q65q_l2_h,q65q_l2_o,q65q_l2 N N⟩)]) E mixed hA (by kernel_rfl) (by kernel_rfl) (by kernel_rfl) ⟨pc_of (body:=loopOf Tryz.f155 2) (inner:=[(4,⟨q65q_l4_h,q65q_l4_o,q65q_l4 N N⟩)]) E mixed hA (by kernel_rfl) (by kernel_rfl) (by kernel_rfl) ⟨pc_of (body:=loopOf Tryz.f155 4) (inner:=[]) E mixed hA (by kernel_rfl) (by kernel_rfl) (by kernel_rfl) trivial (fun _=>rfl) (fun _ _=>by kernel_rfl) N,trivial⟩ (fun _=>rfl) (fun _ _=>by kernel_rfl) N,trivial⟩ (fun _=>rfl) (fun _ _=>by kernel_rfl) N,⟨pc_of (body:=loopOf Tryz.f155 6) (inner:=[]) E mixed hA (by kernel_rfl) (by kernel_rfl) (by kernel_rfl) trivial (fun _=>rfl) (fun _ _=>by kernel_rfl) N,trivial⟩⟩) (fun _=>by kernel_rfl)
theorem C_q65q:Contract Tryz.prog 155 S_q65q:=Contract.less (fun N:Nat=>F_q65q N) C_q65q_raw l4Moves_lim
theorem C_spec_l4At_raw (N:Nat):Contract Tryz.prog 149 ⟨[(K_SSi,false),(K_Si,false)],[I],true,F_spec_l4At N⟩:=
  have E:Env Tryz.prog Γ_spec_l4At:=env_of tab ⟨C_q76q,trivial⟩
  con_of (body:=bodyOf Tryz.f149) (Pc:=[(0,⟨spec_l4At_l0_h,spec_l4At_l0_o,spec_l4At_l0 N N⟩)]) E rfl mixed Tryz.func149 (by kernel_rfl) (by kernel_rfl) (by kernel_rfl) (by kernel_rfl) (fun A hA=>⟨pc_of (body:=loopOf Tryz.f149 0) (inner:=[]) E mixed hA (by kernel_rfl) (by kernel_rfl) (by kernel_rfl) trivial (fun _=>rfl) (fun _ _=>by kernel_rfl) N,trivial⟩) (fun _=>by kernel_rfl)
theorem C_spec_l4At:Contract Tryz.prog 149 S_spec_l4At:=Contract.less (fun N:Nat=>F_spec_l4At N) C_spec_l4At_raw l4At_lim
theorem C_q81q_raw (N:Nat):Contract Tryz.prog 99 ⟨[(K_PiSPiiqq,false),(I,false)],[K_PZSiSSiSSiq],false,F_q81q N⟩:=
  have E:Env Tryz.prog Γ_q81q:=env_ofG tab ⟨C_q73q,⟨C_spec_l4At,⟨C_q65q,⟨C_q49q,trivial⟩⟩⟩⟩ trivial (fun _ h=>by cases h) trivial (by kernel_rfl)
  con_of (body:=bodyOf Tryz.f99) (Pc:=[(0,⟨q81q_l0_h,q81q_l0_o,q81q_l0 N N⟩),(4,⟨q81q_l4_h,q81q_l4_o,q81q_l4 N N⟩)]) E rfl mixed Tryz.func99 (by kernel_rfl) (by kernel_rfl) (by kernel_rfl) (by kernel_rfl) (fun A hA=>⟨pc_of (body:=loopOf Tryz.f99 0) (inner:=[(2,⟨q81q_l2_h,q81q_l2_o,q81q_l2 N N⟩)]) E mixed hA (by kernel_rfl) (by kernel_rfl) (by kernel_rfl) ⟨pc_of (body:=loopOf Tryz.f99 2) (inner:=[]) E mixed hA (by kernel_rfl) (by kernel_rfl) (by kernel_rfl) trivial (fun _=>rfl) (fun _ _=>by kernel_rfl) N,trivial⟩ (fun _=>rfl) (fun _ _=>by kernel_rfl) N,⟨pc_of (body:=loopOf Tryz.f99 4) (inner:=[]) E mixed hA (by kernel_rfl) (by kernel_rfl) (by kernel_rfl) trivial (fun _=>rfl) (fun _ _=>by kernel_rfl) N,trivial⟩⟩) (fun _=>by kernel_rfl)
theorem C_q81q:Contract Tryz.prog 99 S_q81q:=Contract.less (fun N:Nat=>F_q81q N) C_q81q_raw l4Make_lim
theorem C_spec_l1Has_raw (N:Nat):Contract Tryz.prog 101 ⟨[(K_Si,false),(I,false)],[.bool],true,F_spec_l1Has N⟩:=
  have E:Env Tryz.prog Γ_spec_l1Has:=env_of tab trivial
  con_of (body:=bodyOf Tryz.f101) (Pc:=[(0,⟨spec_l1Has_l0_h,spec_l1Has_l0_o,spec_l1Has_l0 N N⟩)]) E rfl mixed Tryz.func101 (by kernel_rfl) (by kernel_rfl) (by kernel_rfl) (by kernel_rfl) (fun A hA=>⟨pc_of (body:=loopOf Tryz.f101 0) (inner:=[]) E mixed hA (by kernel_rfl) (by kernel_rfl) (by kernel_rfl) trivial (fun _=>rfl) (fun _ _=>by kernel_rfl) N,trivial⟩) (fun _=>by kernel_rfl)
theorem C_spec_l1Has:Contract Tryz.prog 101 S_spec_l1Has:=Contract.less (fun N:Nat=>F_spec_l1Has N) C_spec_l1Has_raw l1Has_lim
theorem C_q70q_raw (N:Nat):Contract Tryz.prog 217 ⟨[(K_PZSiSSiSSiq,false),(K_SSi,false),(I,false),(I,false)],[I],true,F_q70q N⟩:=
  have E:Env Tryz.prog Γ_q70q:=env_of tab ⟨C_spec_l1Has,⟨C_q75q,trivial⟩⟩
  con_of (body:=bodyOf Tryz.f217) (Pc:=[(0,⟨q70q_l0_h,q70q_l0_o,q70q_l0 N N⟩)]) E rfl mixed Tryz.func217 (by kernel_rfl) (by kernel_rfl) (by kernel_rfl) (by kernel_rfl) (fun A hA=>⟨pc_of (body:=loopOf Tryz.f217 0) (inner:=[]) E mixed hA (by kernel_rfl) (by kernel_rfl) (by kernel_rfl) trivial (fun _=>rfl) (fun _ _=>by kernel_rfl) N,trivial⟩) (fun _=>by kernel_rfl)
theorem C_q70q:Contract Tryz.prog 217 S_q70q:=Contract.less (fun N:Nat=>F_q70q N) C_q70q_raw l4After_lim
theorem C_q64q_raw (N:Nat):Contract Tryz.prog 138 ⟨[(K_PZSiSSiSSiq,false)],[K_SSi],true,F_q64q N⟩:=
  have E:Env Tryz.prog Γ_q64q:=env_of tab ⟨C_spec_l1Has,⟨C_spec_l1Own,⟨C_q70q,trivial⟩⟩⟩
  con_of (body:=bodyOf Tryz.f138) (Pc:=[(0,⟨q64q_l0_h,q64q_l0_o,q64q_l0 N N⟩),(4,⟨q64q_l4_h,q64q_l4_o,q64q_l4 N N⟩)]) E rfl mixed Tryz.func138 (by kernel_rfl) (by kernel_rfl) (by kernel_rfl) (by kernel_rfl) (fun A hA=>⟨pc_of (body:=loopOf Tryz.f138 0) (inner:=[(2,⟨q64q_l2_h,q64q_l2_o,q64q_l2 N N⟩)]) E mixed hA (by kernel_rfl) (by kernel_rfl) (by kernel_rfl) ⟨pc_of (body:=loopOf Tryz.f138 2) (inner:=[]) E mixed hA (by kernel_rfl) (by kernel_rfl) (by kernel_rfl) trivial (fun _=>rfl) (fun _ _=>by kernel_rfl) N,trivial⟩ (fun _=>rfl) (fun _ _=>by kernel_rfl) N,⟨pc_of (body:=loopOf Tryz.f138 4) (inner:=[(6,⟨q64q_l6_h,q64q_l6_o,q64q_l6 N N⟩)]) E mixed hA (by kernel_rfl) (by kernel_rfl) (by kernel_rfl) ⟨pc_of (body:=loopOf Tryz.f138 6) (inner:=[(8,⟨q64q_l8_h,q64q_l8_o,q64q_l8 N N⟩)]) E mixed hA (by kernel_rfl) (by kernel_rfl) (by kernel_rfl) ⟨pc_of (body:=loopOf Tryz.f138 8) (inner:=[(10,⟨q64q_l10_h,q64q_l10_o,q64q_l10 N N⟩)]) E mixed hA (by kernel_rfl) (by kernel_rfl) (by kernel_rfl) ⟨pc_of (body:=loopOf Tryz.f138 10) (inner:=[]) E mixed hA (by kernel_rfl) (by kernel_rfl) (by kernel_rfl) trivial (fun _=>rfl) (fun _ _=>by kernel_rfl) N,trivial⟩ (fun _=>rfl) (fun _ _=>by kernel_rfl) N,trivial⟩ (fun _=>rfl) (fun _ _=>by kernel_rfl) N,trivial⟩ (fun _=>rfl) (fun _ _=>by kernel_rfl) N,trivial⟩⟩) (fun _=>by kernel_rfl)
theorem C_q64q:Contract Tryz.prog 138 S_q64q:=Contract.less (fun N:Nat=>F_q64q N) C_q64q_raw l4Times_lim
theorem C_q34q_raw (N:Nat):Contract Tryz.prog 53 ⟨[(K_PiSPiiqq,false),(I,false)],[K_SSi,.bool],true,F_q34q N⟩:=
  have E:Env Tryz.prog Γ_q34q:=env_of tab ⟨C_q67q,⟨C_q81q,⟨C_q64q,trivial⟩⟩⟩
  con_of (body:=bodyOf Tryz.f53) (Pc:=[]) E rfl mixed Tryz.func53 (by kernel_rfl) (by kernel_rfl) (by kernel_rfl) (by kernel_rfl) (fun A hA=>trivial) (fun _=>by kernel_rfl)
theorem C_q34q:Contract Tryz.prog 53 S_q34q:=C_q34q_raw 0
theorem C_q11q_raw (N:Nat):Contract Tryz.prog 50 ⟨[(K_Su8,false)],[K_PiSPiiqq,I,K_SSi],false,F_q11q N⟩:=
  have E:Env Tryz.prog Γ_q11q:=env_of tab ⟨C_q34q,⟨C_q35q,⟨C_q40q,⟨C_q36q,trivial⟩⟩⟩⟩
  con_of (body:=bodyOf Tryz.f50) (Pc:=[(1,⟨q11q_l1_h,q11q_l1_o,q11q_l1 N N⟩)]) E rfl mixed Tryz.func50 (by kernel_rfl) (by kernel_rfl) (by kernel_rfl) (by kernel_rfl) (fun A hA=>⟨pc_of (body:=loopOf Tryz.f50 1) (inner:=[(3,⟨q11q_l3_h,q11q_l3_o,q11q_l3 N N⟩)]) E mixed hA (by kernel_rfl) (by kernel_rfl) (by kernel_rfl) ⟨pc_of (body:=loopOf Tryz.f50 3) (inner:=[]) E mixed hA (by kernel_rfl) (by kernel_rfl) (by kernel_rfl) trivial (fun _=>rfl) (fun _ _=>by kernel_rfl) N,trivial⟩ (fun _=>rfl) (fun _ _=>by kernel_rfl) N,trivial⟩) (fun _=>by kernel_rfl)
theorem C_q11q:Contract Tryz.prog 50 S_q11q:=Contract.less (fun N:Nat=>F_q11q N) C_q11q_raw pickF_lim
theorem C_q80q_raw (N:Nat):Contract Tryz.prog 143 ⟨[(I,false),(I,false),(I,false)],[.bool],true,F_q80q N⟩:=
  have E:Env Tryz.prog Γ_q80q:=env_of tab trivial
  con_of (body:=bodyOf Tryz.f143) (Pc:=[]) E rfl mixed Tryz.func143 (by kernel_rfl) (by kernel_rfl) (by kernel_rfl) (by kernel_rfl) (fun A hA=>trivial) (fun _=>by kernel_rfl)
theorem C_q80q:Contract Tryz.prog 143 S_q80q:=Contract.less (fun N:Nat=>F_q80q N) C_q80q_raw (fun d r h=>⟨0,(F_q80q_tot 0 d).trans h⟩)
theorem C_q54q_raw (N:Nat):Contract Tryz.prog 258 ⟨[(I,false)],[.bool],true,F_q54q N⟩:=
  have E:Env Tryz.prog Γ_q54q:=env_of tab trivial
  con_of (body:=bodyOf Tryz.f258) (Pc:=[]) E rfl mixed Tryz.func258 (by kernel_rfl) (by kernel_rfl) (by kernel_rfl) (by kernel_rfl) (fun A hA=>trivial) (fun _=>by kernel_rfl)
theorem C_q54q:Contract Tryz.prog 258 S_q54q:=Contract.less (fun N:Nat=>F_q54q N) C_q54q_raw (fun d r h=>⟨0,(F_q54q_tot 0 d).trans h⟩)
theorem C_q43q_raw (N:Nat):Contract Tryz.prog 246 ⟨[(I,false),(I,false)],[I],true,F_q43q N⟩:=
  have E:Env Tryz.prog Γ_q43q:=env_of tab ⟨C_q54q,trivial⟩
  con_of (body:=bodyOf Tryz.f246) (Pc:=[]) E rfl mixed Tryz.func246 (by kernel_rfl) (by kernel_rfl) (by kernel_rfl) (by kernel_rfl) (fun A hA=>trivial) (fun _=>by kernel_rfl)
theorem C_q43q:Contract Tryz.prog 246 S_q43q:=Contract.less (fun N:Nat=>F_q43q N) C_q43q_raw (fun d r h=>⟨0,(F_q43q_tot 0 d).trans h⟩)
theorem C_q10q_raw (N:Nat):Contract Tryz.prog 199 ⟨[(K_Si,false),(K_Si,false)],[I],true,F_q10q N⟩:=
  have E:Env Tryz.prog Γ_q10q:=env_of tab ⟨C_q43q,trivial⟩
  con_of (body:=bodyOf Tryz.f199) (Pc:=[(0,⟨q10q_l0_h,q10q_l0_o,q10q_l0 N N⟩)]) E rfl mixed Tryz.func199 (by kernel_rfl) (by kernel_rfl) (by kernel_rfl) (by kernel_rfl) (fun A hA=>⟨pc_of (body:=loopOf Tryz.f199 0) (inner:=[]) E mixed hA (by kernel_rfl) (by kernel_rfl) (by kernel_rfl) trivial (fun _=>rfl) (fun _ _=>by kernel_rfl) N,trivial⟩) (fun _=>by kernel_rfl)
theorem C_q10q:Contract Tryz.prog 199 S_q10q:=Contract.less (fun N:Nat=>F_q10q N) C_q10q_raw compare_lim
theorem C_q68q_raw (N:Nat):Contract Tryz.prog 114 ⟨[(K_PiSPiiqq,false)],[.bool],true,F_q68q N⟩:=
  have E:Env Tryz.prog Γ_q68q:=env_of tab ⟨C_q80q,⟨C_q10q,trivial⟩⟩
  con_of (body:=bodyOf Tryz.f114) (Pc:=[(0,⟨q68q_l0_h,q68q_l0_o,q68q_l0 N N⟩)]) E rfl mixed Tryz.func114 (by kernel_rfl) (by kernel_rfl) (by kernel_rfl) (by kernel_rfl) (fun A hA=>⟨pc_of (body:=loopOf Tryz.f114 0) (inner:=[]) E mixed hA (by kernel_rfl) (by kernel_rfl) (by kernel_rfl) trivial (fun _=>rfl) (fun _ _=>by kernel_rfl) N,trivial⟩) (fun _=>by kernel_rfl)
theorem C_q68q:Contract Tryz.prog 114 S_q68q:=Contract.less (fun N:Nat=>F_q68q N) C_q68q_raw IsGraph_lim
theorem C_q47q_raw (N:Nat):Contract Tryz.prog 94 ⟨[(K_PiSPiiqq,false),(I,false)],[.bool],true,F_q47q N⟩:=
  have E:Env Tryz.prog Γ_q47q:=env_of tab ⟨C_q68q,⟨C_q80q,trivial⟩⟩
  con_of (body:=bodyOf Tryz.f94) (Pc:=[]) E rfl mixed Tryz.func94 (by kernel_rfl) (by kernel_rfl) (by kernel_rfl) (by kernel_rfl) (fun A hA=>trivial) (fun _=>by kernel_rfl)
theorem C_q47q:Contract Tryz.prog 94 S_q47q:=C_q47q_raw 0
theorem C_impl_netOf_raw (N:Nat):Contract Tryz.prog 95 ⟨[(K_PiSPiiqq,false)],[K_PSiq],true,F_impl_netOf N⟩:=
  have E:Env Tryz.prog Γ_impl_netOf:=env_of tab trivial
  con_of (body:=bodyOf Tryz.f95) (Pc:=[(0,⟨impl_netOf_l0_h,impl_netOf_l0_o,impl_netOf_l0 N N⟩)]) E rfl mixed Tryz.func95 (by kernel_rfl) (by kernel_rfl) (by kernel_rfl) (by kernel_rfl) (fun A hA=>⟨pc_of (body:=loopOf Tryz.f95 0) (inner:=[]) E mixed hA (by kernel_rfl) (by kernel_rfl) (by kernel_rfl) trivial (fun _=>rfl) (fun _ _=>by kernel_rfl) N,trivial⟩) (fun _=>by kernel_rfl)
theorem C_impl_netOf:Contract Tryz.prog 95 S_impl_netOf:=Contract.less (fun N:Nat=>F_impl_netOf N) C_impl_netOf_raw netOf_lim
theorem C_q53q_raw (N:Nat):Contract Tryz.prog 188 ⟨[(K_PSiq,false)],[I],true,F_q53q N⟩:=
  have E:Env Tryz.prog Γ_q53q:=env_of tab trivial
  con_of (body:=bodyOf Tryz.f188) (Pc:=[]) E rfl mixed Tryz.func188 (by kernel_rfl) (by kernel_rfl) (by kernel_rfl) (by kernel_rfl) (fun A hA=>trivial) (fun _=>by kernel_rfl)
theorem C_q53q:Contract Tryz.prog 188 S_q53q:=Contract.less (fun N:Nat=>F_q53q N) C_q53q_raw (fun d r h=>⟨0,(F_q53q_tot 0 d).trans h⟩)
theorem C_q16q_raw (N:Nat):Contract Tryz.prog 146 ⟨[(K_Si,false)],[K_Si],true,F_q16q N⟩:=
  have E:Env Tryz.prog Γ_q16q:=env_of tab trivial
  con_of (body:=bodyOf Tryz.f146) (Pc:=[]) E rfl mixed Tryz.func146 (by kernel_rfl) (by kernel_rfl) (by kernel_rfl) (by kernel_rfl) (fun A hA=>trivial) (fun _=>by kernel_rfl)
theorem C_q16q:Contract Tryz.prog 146 S_q16q:=Contract.less (fun N:Nat=>F_q16q N) C_q16q_raw cloneI_lim
theorem C_q52q_raw (N:Nat):Contract Tryz.prog 158 ⟨[(I,false),(I,false)],[K_SSi],true,F_q52q N⟩:=
  have E:Env Tryz.prog Γ_q52q:=env_ofV tab ⟨C_q16q,trivial⟩ trivial (fun _ h=>by cases h)
  con_of (body:=bodyOf Tryz.f158) (Pc:=[(0,⟨q52q_l0_h,q52q_l0_o,q52q_l0 N N⟩)]) E rfl mixed Tryz.func158 (by kernel_rfl) (by kernel_rfl) (by kernel_rfl) (by kernel_rfl) (fun A hA=>⟨pc_of (body:=loopOf Tryz.f158 0) (inner:=[(2,⟨q52q_l2_h,q52q_l2_o,q52q_l2 N N⟩)]) E mixed hA (by kernel_rfl) (by kernel_rfl) (by kernel_rfl) ⟨pc_of (body:=loopOf Tryz.f158 2) (inner:=[(4,⟨q52q_l4_h,q52q_l4_o,q52q_l4 N N⟩)]) E mixed hA (by kernel_rfl) (by kernel_rfl) (by kernel_rfl) ⟨pc_of (body:=loopOf Tryz.f158 4) (inner:=[]) E mixed hA (by kernel_rfl) (by kernel_rfl) (by kernel_rfl) trivial (fun _=>rfl) (fun _ _=>by kernel_rfl) N,trivial⟩ (fun _=>rfl) (fun _ _=>by kernel_rfl) N,trivial⟩ (fun _=>rfl) (fun _ _=>by kernel_rfl) N,trivial⟩) (fun _=>by kernel_rfl)
theorem C_q52q:Contract Tryz.prog 158 S_q52q:=Contract.less (fun N:Nat=>F_q52q N) C_q52q_raw copLists_lim
theorem C_q44q_raw (N:Nat):Contract Tryz.prog 130 ⟨[(K_PSiq,false),(I,false)],[I],true,F_q44q N⟩:=
  have E:Env Tryz.prog Γ_q44q:=env_of tab trivial
  con_of (body:=bodyOf Tryz.f130) (Pc:=[]) E rfl mixed Tryz.func130 (by kernel_rfl) (by kernel_rfl) (by kernel_rfl) (by kernel_rfl) (fun A hA=>trivial) (fun _=>by kernel_rfl)
theorem C_q44q:Contract Tryz.prog 130 S_q44q:=C_q44q_raw 0
theorem C_impl_setOf_raw (N:Nat):Contract Tryz.prog 127 ⟨[(I,false)],[K_Si],true,F_impl_setOf N⟩:=
  have E:Env Tryz.prog Γ_impl_setOf:=env_of tab trivial
  con_of (body:=bodyOf Tryz.f127) (Pc:=[(0,⟨impl_setOf_l0_h,impl_setOf_l0_o,impl_setOf_l0 N N⟩)]) E rfl mixed Tryz.func127 (by kernel_rfl) (by kernel_rfl) (by kernel_rfl) (by kernel_rfl) (fun A hA=>⟨pc_of (body:=loopOf Tryz.f127 0) (inner:=[]) E mixed hA (by kernel_rfl) (by kernel_rfl) (by kernel_rfl) trivial (fun _=>rfl) (fun _ _=>by kernel_rfl) N,trivial⟩) (fun _=>by kernel_rfl)
theorem C_impl_setOf:Contract Tryz.prog 127 S_impl_setOf:=Contract.less (fun N:Nat=>F_impl_setOf N) C_impl_setOf_raw setOf_lim
theorem C_q1q:ContractG Tryz.prog 223 (S_q1q,{ gone:=[0],deep:=[] }):=con_compactF (enters_of Tryz.func223 (by kernel_rfl) rfl) (fun w v1 v2 xs ys h1 h2 l1 l2=>eqH h1 h2 l1 l2) compact74 compact74_small
theorem C_q30q_raw (N:Nat):Contract Tryz.prog 153 ⟨[(K_PSiq,false),(K_Si,false)],[K_SSi],true,F_q30q N⟩:=
  have E:Env Tryz.prog Γ_q30q:=env_ofG tab ⟨C_impl_setOf,⟨C_q44q,⟨C_q16q,⟨C_q19q,⟨C_q3q,trivial⟩⟩⟩⟩⟩ trivial (fun _ h=>by cases h) ⟨C_q1q,trivial⟩ (by kernel_rfl)
  con_of (body:=bodyOf Tryz.f153) (Pc:=[(0,⟨q30q_l0_h,q30q_l0_o,q30q_l0 N N⟩),(6,⟨q30q_l6_h,q30q_l6_o,q30q_l6 N N⟩)]) E rfl mixed Tryz.func153 (by kernel_rfl) (by kernel_rfl) (by kernel_rfl) (by kernel_rfl) (fun A hA=>⟨pc_of (body:=loopOf Tryz.f153 0) (inner:=[(2,⟨q30q_l2_h,q30q_l2_o,q30q_l2 N N⟩)]) E mixed hA (by kernel_rfl) (by kernel_rfl) (by kernel_rfl) ⟨pc_of (body:=loopOf Tryz.f153 2) (inner:=[(4,⟨q30q_l4_h,q30q_l4_o,q30q_l4 N N⟩)]) E mixed hA (by kernel_rfl) (by kernel_rfl) (by kernel_rfl) ⟨pc_of (body:=loopOf Tryz.f153 4) (inner:=[]) E mixed hA (by kernel_rfl) (by kernel_rfl) (by kernel_rfl) trivial (fun _=>rfl) (fun _ _=>by kernel_rfl) N,trivial⟩ (fun _=>rfl) (fun _ _=>by kernel_rfl) N,trivial⟩ (fun _=>rfl) (fun _ _=>by kernel_rfl) N,⟨pc_of (body:=loopOf Tryz.f153 6) (inner:=[]) E mixed hA (by kernel_rfl) (by kernel_rfl) (by kernel_rfl) trivial (fun _=>rfl) (fun _ _=>by kernel_rfl) N,trivial⟩⟩) (fun _=>by kernel_rfl)
theorem C_q30q:Contract Tryz.prog 153 S_q30q:=Contract.less (fun N:Nat=>F_q30q N) C_q30q_raw copMoves47_lim
theorem CV_q10q:ContractV Tryz.prog SV_q10q:=conV_0_2_0 C_q10q
theorem C_q0q_raw (N:Nat):Contract Tryz.prog 219 ⟨[(K_SSi,false),(K_Si,false),(K_F_q10q_qq,false)],[I,.bool],true,F_q0q N⟩:=
  have E:Env Tryz.prog Γ_q0q:=env_ofV tab trivial ⟨CV_q10q,trivial⟩ (fun _ h=>by cases h)
  con_of (body:=bodyOf Tryz.f219) (Pc:=[(0,⟨q0q_l0_h,q0q_l0_o,q0q_l0 N N⟩)]) E rfl mixed Tryz.func219 (by kernel_rfl) (by kernel_rfl) (by kernel_rfl) (by kernel_rfl) (fun A hA=>⟨pc_of (body:=loopOf Tryz.f219 0) (inner:=[]) E mixed hA (by kernel_rfl) (by kernel_rfl) (by kernel_rfl) trivial (fun _=>rfl) (fun _ _=>by kernel_rfl) N,trivial⟩) (fun _=>by kernel_rfl)
theorem C_q0q:Contract Tryz.prog 219 S_q0q:=Contract.less (fun N:Nat=>F_q0q N) C_q0q_raw binSearch_lim
theorem C_q26q_raw (N:Nat):Contract Tryz.prog 144 ⟨[(K_BPPZiqZSiSSiSSiq,false),(K_Si,false)],[I],true,F_q26q N⟩:=
  have E:Env Tryz.prog Γ_q26q:=env_of tab ⟨C_q0q,trivial⟩
  con_of (body:=bodyOf Tryz.f144) (Pc:=[]) E rfl mixed Tryz.func144 (by kernel_rfl) (by kernel_rfl) (by kernel_rfl) (by kernel_rfl) (fun A hA=>trivial) (fun _=>by kernel_rfl)
theorem C_q26q:Contract Tryz.prog 144 S_q26q:=C_q26q_raw 0
theorem C_q31q_raw (N:Nat):ContractG Tryz.prog 96 (⟨[(K_PSiq,false),(I,false)],[K_BPPZiqZSiSSiSSiq],true,F_q31q N⟩,md0):=
  have E:Env Tryz.prog Γ_q31q:=env_of tab ⟨C_q26q,⟨C_q30q,⟨C_q52q,⟨C_q53q,trivial⟩⟩⟩⟩
  con_ofG (body:=bodyOf Tryz.f96) (Pc:=[(0,⟨q31q_l0_h,q31q_l0_o,q31q_l0 N N⟩)]) E mixed Tryz.func96 (by kernel_rfl) (by kernel_rfl) (by kernel_rfl) (by kernel_rfl) (fun A hA=>⟨pc_of (body:=loopOf Tryz.f96 0) (inner:=[(2,⟨q31q_l2_h,q31q_l2_o,q31q_l2 N N⟩)]) E mixed hA (by kernel_rfl) (by kernel_rfl) (by kernel_rfl) ⟨pc_of (body:=loopOf Tryz.f96 2) (inner:=[]) E mixed hA (by kernel_rfl) (by kernel_rfl) (by kernel_rfl) trivial (fun _=>rfl) (fun _ _=>by kernel_rfl) N,trivial⟩ (fun _=>rfl) (fun _ _=>by kernel_rfl) N,trivial⟩) (fun _=>by kernel_rfl)
theorem C_q31q:ContractG Tryz.prog 96 (S_q31q,md0):=ContractG.less (fun N:Nat=>F_q31q N) C_q31q_raw copBoard_lim
theorem C_q13q_raw (N:Nat):Contract Tryz.prog 215 ⟨[(I,false)],[.bool],true,F_q13q N⟩:=
  have E:Env Tryz.prog Γ_q13q:=env_of tab trivial
  con_of (body:=bodyOf Tryz.f215) (Pc:=[]) E rfl mixed Tryz.func215 (by kernel_rfl) (by kernel_rfl) (by kernel_rfl) (by kernel_rfl) (fun A hA=>trivial) (fun _=>by kernel_rfl)
theorem C_q13q:Contract Tryz.prog 215 S_q13q:=Contract.less (fun N:Nat=>F_q13q N) C_q13q_raw (fun d r h=>⟨0,(F_q13q_tot 0 d).trans h⟩)
theorem C_q17q_raw (N:Nat):Contract Tryz.prog 211 ⟨[(K_Si,false),(I,false)],[I],true,F_q17q N⟩:=
  have E:Env Tryz.prog Γ_q17q:=env_of tab trivial
  con_of (body:=bodyOf Tryz.f211) (Pc:=[(0,⟨q17q_l0_h,q17q_l0_o,q17q_l0 N N⟩)]) E rfl mixed Tryz.func211 (by kernel_rfl) (by kernel_rfl) (by kernel_rfl) (by kernel_rfl) (fun A hA=>⟨pc_of (body:=loopOf Tryz.f211 0) (inner:=[]) E mixed hA (by kernel_rfl) (by kernel_rfl) (by kernel_rfl) trivial (fun _=>rfl) (fun _ _=>by kernel_rfl) N,trivial⟩) (fun _=>by kernel_rfl)
theorem C_q17q:Contract Tryz.prog 211 S_q17q:=Contract.less (fun N:Nat=>F_q17q N) C_q17q_raw index_lim
theorem C_q9q_raw (N:Nat):Contract Tryz.prog 129 ⟨[(K_Si,false),(I,false)],[.bool],true,F_q9q N⟩:=
  have E:Env Tryz.prog Γ_q9q:=env_of tab ⟨C_q17q,trivial⟩
  con_of (body:=bodyOf Tryz.f129) (Pc:=[]) E rfl mixed Tryz.func129 (by kernel_rfl) (by kernel_rfl) (by kernel_rfl) (by kernel_rfl) (fun A hA=>trivial) (fun _=>by kernel_rfl)
theorem C_q9q:Contract Tryz.prog 129 S_q9q:=C_q9q_raw 0
theorem C_q28q_raw (N:Nat):Contract Tryz.prog 179 ⟨[(K_PSiq,false),(K_Si,false),(I,false)],[I],true,F_q28q N⟩:=
  have E:Env Tryz.prog Γ_q28q:=env_of tab ⟨C_impl_setOf,⟨C_q44q,trivial⟩⟩
  con_of (body:=bodyOf Tryz.f179) (Pc:=[(0,⟨q28q_l0_h,q28q_l0_o,q28q_l0 N N⟩)]) E rfl mixed Tryz.func179 (by kernel_rfl) (by kernel_rfl) (by kernel_rfl) (by kernel_rfl) (fun A hA=>⟨pc_of (body:=loopOf Tryz.f179 0) (inner:=[]) E mixed hA (by kernel_rfl) (by kernel_rfl) (by kernel_rfl) trivial (fun _=>rfl) (fun _ _=>by kernel_rfl) N,trivial⟩) (fun _=>by kernel_rfl)
theorem C_q28q:Contract Tryz.prog 179 S_q28q:=Contract.less (fun N:Nat=>F_q28q N) C_q28q_raw timeAfter_lim
theorem C_q15q_raw (N:Nat):Contract Tryz.prog 249 ⟨[(I,false),(K_BBPPZiqZSiSSiSSiq,false),(K_Bi,false),(K_BSSi,false),(K_Bi,false)],[.bool],true,F_q15q N⟩:=
  have E:Env Tryz.prog Γ_q15q:=env_ofV tab ⟨C_q9q,⟨C_q28q,trivial⟩⟩ trivial (w1_of (by kernel_rfl))
  con_of (body:=bodyOf Tryz.f249) (Pc:=[]) E rfl mixed Tryz.func249 (by kernel_rfl) (by kernel_rfl) (by kernel_rfl) (by kernel_rfl) (fun A hA=>trivial) (fun _=>by kernel_rfl)
theorem C_q15q:Contract Tryz.prog 249 S_q15q:=C_q15q_raw 0
theorem CV_q15q:ContractV Tryz.prog SV_q15q:=conV_0_1_4 C_q15q
theorem C_q7q_raw (N:Nat):Contract Tryz.prog 248 ⟨[(K_Si,false),(K_F_q15q_qPBBPPZiqZSiSSiSSiqBiBSSiBiq,false)],[I],true,F_q7q N⟩:=
  have E:Env Tryz.prog Γ_q7q:=env_ofV tab trivial ⟨CV_q15q,trivial⟩ (fun _ h=>by cases h)
  con_of (body:=bodyOf Tryz.f248) (Pc:=[(0,⟨q7q_l0_h,q7q_l0_o,q7q_l0 N N⟩)]) E rfl mixed Tryz.func248 (by kernel_rfl) (by kernel_rfl) (by kernel_rfl) (by kernel_rfl) (fun A hA=>⟨pc_of (body:=loopOf Tryz.f248 0) (inner:=[]) E mixed hA (by kernel_rfl) (by kernel_rfl) (by kernel_rfl) trivial (fun _=>rfl) (fun _ _=>by kernel_rfl) N,trivial⟩) (fun _=>by kernel_rfl)
theorem C_q7q:Contract Tryz.prog 248 S_q7q:=Contract.less (fun N:Nat=>F_q7q N) C_q7q_raw proves1_lim
theorem C_q4q_raw (N:Nat):Contract Tryz.prog 214 ⟨[(K_Si,false),(K_F_q15q_qPBBPPZiqZSiSSiSSiqBiBSSiBiq,false)],[.bool],true,F_q4q N⟩:=
  have E:Env Tryz.prog Γ_q4q:=env_of tab ⟨C_q7q,trivial⟩
  con_of (body:=bodyOf Tryz.f214) (Pc:=[]) E rfl mixed Tryz.func214 (by kernel_rfl) (by kernel_rfl) (by kernel_rfl) (by kernel_rfl) (fun A hA=>trivial) (fun _=>by kernel_rfl)
theorem C_q4q:Contract Tryz.prog 214 S_q4q:=C_q4q_raw 0
theorem C_q22q_raw (N:Nat):Contract Tryz.prog 216 ⟨[(K_BPPZiqZSiSSiSSiq,false),(K_SSi,false),(I,false),(I,false),(I,false)],[.bool],true,F_q22q N⟩:=
  have E:Env Tryz.prog Γ_q22q:=env_ofV tab ⟨C_q9q,⟨C_q4q,trivial⟩⟩ trivial (w1_of (by kernel_rfl))
  con_of (body:=bodyOf Tryz.f216) (Pc:=[]) E rfl mixed Tryz.func216 (by kernel_rfl) (by kernel_rfl) (by kernel_rfl) (by kernel_rfl) (fun A hA=>trivial) (fun _=>by kernel_rfl)
theorem C_q22q:Contract Tryz.prog 216 S_q22q:=C_q22q_raw 0
theorem CV_q13q:ContractV Tryz.prog SV_q13q:=conV_0_1_0 C_q13q
theorem C_q5q_raw (N:Nat):Contract Tryz.prog 248 ⟨[(K_Si,false),(K_F_q13q_qq,false)],[I],true,F_q5q N⟩:=
  have E:Env Tryz.prog Γ_q5q:=env_ofV tab trivial ⟨CV_q13q,trivial⟩ (fun _ h=>by cases h)
  con_of (body:=bodyOf Tryz.f248) (Pc:=[(0,⟨q5q_l0_h,q5q_l0_o,q5q_l0 N N⟩)]) E rfl mixed Tryz.func248 (by kernel_rfl) (by kernel_rfl) (by kernel_rfl) (by kernel_rfl) (fun A hA=>⟨pc_of (body:=loopOf Tryz.f248 0) (inner:=[]) E mixed hA (by kernel_rfl) (by kernel_rfl) (by kernel_rfl) trivial (fun _=>rfl) (fun _ _=>by kernel_rfl) N,trivial⟩) (fun _=>by kernel_rfl)
theorem C_q5q:Contract Tryz.prog 248 S_q5q:=Contract.less (fun N:Nat=>F_q5q N) C_q5q_raw isProof1_lim
theorem C_q2q_raw (N:Nat):Contract Tryz.prog 214 ⟨[(K_Si,false),(K_F_q13q_qq,false)],[.bool],true,F_q2q N⟩:=
  have E:Env Tryz.prog Γ_q2q:=env_of tab ⟨C_q5q,trivial⟩
  con_of (body:=bodyOf Tryz.f214) (Pc:=[]) E rfl mixed Tryz.func214 (by kernel_rfl) (by kernel_rfl) (by kernel_rfl) (by kernel_rfl) (fun A hA=>trivial) (fun _=>by kernel_rfl)
theorem C_q2q:Contract Tryz.prog 214 S_q2q:=C_q2q_raw 0
theorem C_q20q_raw (N:Nat):Contract Tryz.prog 134 ⟨[(K_BPPZiqZSiSSiSSiq,false),(K_SSi,false)],[.bool],true,F_q20q N⟩:=
  have E:Env Tryz.prog Γ_q20q:=env_of tab ⟨C_q9q,⟨C_q53q,⟨C_q2q,⟨C_q22q,trivial⟩⟩⟩⟩
  con_of (body:=bodyOf Tryz.f134) (Pc:=[(0,⟨q20q_l0_h,q20q_l0_o,q20q_l0 N N⟩),(2,⟨q20q_l2_h,q20q_l2_o,q20q_l2 N N⟩)]) E rfl mixed Tryz.func134 (by kernel_rfl) (by kernel_rfl) (by kernel_rfl) (by kernel_rfl) (fun A hA=>⟨pc_of (body:=loopOf Tryz.f134 0) (inner:=[]) E mixed hA (by kernel_rfl) (by kernel_rfl) (by kernel_rfl) trivial (fun _=>rfl) (fun _ _=>by kernel_rfl) N,⟨pc_of (body:=loopOf Tryz.f134 2) (inner:=[(4,⟨q20q_l4_h,q20q_l4_o,q20q_l4 N N⟩)]) E mixed hA (by kernel_rfl) (by kernel_rfl) (by kernel_rfl) ⟨pc_of (body:=loopOf Tryz.f134 4) (inner:=[]) E mixed hA (by kernel_rfl) (by kernel_rfl) (by kernel_rfl) trivial (fun _=>rfl) (fun _ _=>by kernel_rfl) N,trivial⟩ (fun _=>rfl) (fun _ _=>by kernel_rfl) N,trivial⟩⟩) (fun _=>by kernel_rfl)
theorem C_q20q:Contract Tryz.prog 134 S_q20q:=Contract.less (fun N:Nat=>F_q20q N) C_q20q_raw gameProof_lim
theorem C_q24q_raw (N:Nat):Contract Tryz.prog 51 ⟨[(K_PiSPiiqq,false),(I,false),(K_SSi,false)],[.bool,.bool],true,F_q24q N⟩:=
  have E:Env Tryz.prog Γ_q24q:=env_ofG tab ⟨C_q47q,⟨C_impl_netOf,⟨C_q20q,trivial⟩⟩⟩ trivial (fun _ h=>by cases h) ⟨C_q31q,trivial⟩ (by kernel_rfl)
  con_of (body:=bodyOf Tryz.f51) (Pc:=[]) E rfl mixed Tryz.func51 (by kernel_rfl) (by kernel_rfl) (by kernel_rfl) (by kernel_rfl) (fun A hA=>trivial) (fun _=>by kernel_rfl)
theorem C_q24q:Contract Tryz.prog 51 S_q24q:=C_q24q_raw 0
theorem C_q71q_raw (N:Nat):Contract Tryz.prog 135 ⟨[(K_PZSiSSiSSiq,false),(K_SSi,false)],[.bool],true,F_q71q N⟩:=
  have E:Env Tryz.prog Γ_q71q:=env_of tab trivial
  con_of (body:=bodyOf Tryz.f135) (Pc:=[(0,⟨q71q_l0_h,q71q_l0_o,q71q_l0 N N⟩)]) E rfl mixed Tryz.func135 (by kernel_rfl) (by kernel_rfl) (by kernel_rfl) (by kernel_rfl) (fun A hA=>⟨pc_of (body:=loopOf Tryz.f135 0) (inner:=[(2,⟨q71q_l2_h,q71q_l2_o,q71q_l2 N N⟩)]) E mixed hA (by kernel_rfl) (by kernel_rfl) (by kernel_rfl) ⟨pc_of (body:=loopOf Tryz.f135 2) (inner:=[]) E mixed hA (by kernel_rfl) (by kernel_rfl) (by kernel_rfl) trivial (fun _=>rfl) (fun _ _=>by kernel_rfl) N,trivial⟩ (fun _=>rfl) (fun _ _=>by kernel_rfl) N,trivial⟩) (fun _=>by kernel_rfl)
theorem C_q71q:Contract Tryz.prog 135 S_q71q:=Contract.less (fun N:Nat=>F_q71q N) C_q71q_raw l4Table_lim
theorem C_q59q_raw (N:Nat):Contract Tryz.prog 136 ⟨[(K_PZSiSSiSSiq,false),(K_SSi,false),(I,false),(I,false)],[.bool],true,F_q59q N⟩:=
  have E:Env Tryz.prog Γ_q59q:=env_of tab ⟨C_spec_l1Has,⟨C_spec_l1In,⟨C_q70q,trivial⟩⟩⟩
  con_of (body:=bodyOf Tryz.f136) (Pc:=[(0,⟨q59q_l0_h,q59q_l0_o,q59q_l0 N N⟩)]) E rfl mixed Tryz.func136 (by kernel_rfl) (by kernel_rfl) (by kernel_rfl) (by kernel_rfl) (fun A hA=>⟨pc_of (body:=loopOf Tryz.f136 0) (inner:=[]) E mixed hA (by kernel_rfl) (by kernel_rfl) (by kernel_rfl) trivial (fun _=>rfl) (fun _ _=>by kernel_rfl) N,trivial⟩) (fun _=>by kernel_rfl)
theorem C_q59q:Contract Tryz.prog 136 S_q59q:=Contract.less (fun N:Nat=>F_q59q N) C_q59q_raw l4Proves_lim
theorem C_q66q_raw (N:Nat):Contract Tryz.prog 137 ⟨[(K_Si,false)],[I],true,F_q66q N⟩:=
  have E:Env Tryz.prog Γ_q66q:=env_of tab ⟨C_q75q,trivial⟩
  con_of (body:=bodyOf Tryz.f137) (Pc:=[(0,⟨q66q_l0_h,q66q_l0_o,q66q_l0 N N⟩)]) E rfl mixed Tryz.func137 (by kernel_rfl) (by kernel_rfl) (by kernel_rfl) (by kernel_rfl) (fun A hA=>⟨pc_of (body:=loopOf Tryz.f137 0) (inner:=[]) E mixed hA (by kernel_rfl) (by kernel_rfl) (by kernel_rfl) trivial (fun _=>rfl) (fun _ _=>by kernel_rfl) N,trivial⟩) (fun _=>by kernel_rfl)
theorem C_q66q:Contract Tryz.prog 137 S_q66q:=Contract.less (fun N:Nat=>F_q66q N) C_q66q_raw l4Worst_lim
theorem C_q23q_raw (N:Nat):Contract Tryz.prog 52 ⟨[(K_PiSPiiqq,false),(I,false),(K_SSi,false)],[.bool,.bool],true,F_q23q N⟩:=
  have E:Env Tryz.prog Γ_q23q:=env_of tab ⟨C_q67q,⟨C_q81q,⟨C_q71q,⟨C_q59q,⟨C_q66q,trivial⟩⟩⟩⟩⟩
  con_of (body:=bodyOf Tryz.f52) (Pc:=[(0,⟨q23q_l0_h,q23q_l0_o,q23q_l0 N N⟩)]) E rfl mixed Tryz.func52 (by kernel_rfl) (by kernel_rfl) (by kernel_rfl) (by kernel_rfl) (fun A hA=>⟨pc_of (body:=loopOf Tryz.f52 0) (inner:=[(2,⟨q23q_l2_h,q23q_l2_o,q23q_l2 N N⟩)]) E mixed hA (by kernel_rfl) (by kernel_rfl) (by kernel_rfl) ⟨pc_of (body:=loopOf Tryz.f52 2) (inner:=[]) E mixed hA (by kernel_rfl) (by kernel_rfl) (by kernel_rfl) trivial (fun _=>rfl) (fun _ _=>by kernel_rfl) N,trivial⟩ (fun _=>rfl) (fun _ _=>by kernel_rfl) N,trivial⟩) (fun _=>by kernel_rfl)
theorem C_q23q:Contract Tryz.prog 52 S_q23q:=Contract.less (fun N:Nat=>F_q23q N) C_q23q_raw specPr_lim
theorem C_q27q_raw (N:Nat):Contract Tryz.prog 243 ⟨[(I,false),(K_BBPPZiqZSiSSiSSiq,false),(K_Bi,false)],[.bool],true,F_q27q N⟩:=
  have E:Env Tryz.prog Γ_q27q:=env_ofV tab ⟨C_q9q,⟨C_q28q,trivial⟩⟩ trivial (w1_of (by kernel_rfl))
  con_of (body:=bodyOf Tryz.f243) (Pc:=[]) E rfl mixed Tryz.func243 (by kernel_rfl) (by kernel_rfl) (by kernel_rfl) (by kernel_rfl) (fun A hA=>trivial) (fun _=>by kernel_rfl)
theorem C_q27q:Contract Tryz.prog 243 S_q27q:=C_q27q_raw 0
theorem CV_q27q:ContractV Tryz.prog SV_q27q:=conV_0_1_2 C_q27q
theorem C_q8q_raw (N:Nat):Contract Tryz.prog 248 ⟨[(K_Si,false),(K_F_q27q_qPBBPPZiqZSiSSiSSiqBiq,false)],[I],true,F_q8q N⟩:=
  have E:Env Tryz.prog Γ_q8q:=env_ofV tab trivial ⟨CV_q27q,trivial⟩ (fun _ h=>by cases h)
  con_of (body:=bodyOf Tryz.f248) (Pc:=[(0,⟨q8q_l0_h,q8q_l0_o,q8q_l0 N N⟩)]) E rfl mixed Tryz.func248 (by kernel_rfl) (by kernel_rfl) (by kernel_rfl) (by kernel_rfl) (fun A hA=>⟨pc_of (body:=loopOf Tryz.f248 0) (inner:=[]) E mixed hA (by kernel_rfl) (by kernel_rfl) (by kernel_rfl) trivial (fun _=>rfl) (fun _ _=>by kernel_rfl) N,trivial⟩) (fun _=>by kernel_rfl)
theorem C_q8q:Contract Tryz.prog 248 S_q8q:=Contract.less (fun N:Nat=>F_q8q N) C_q8q_raw gameCan_lim
theorem C_q6q_raw (N:Nat):Contract Tryz.prog 214 ⟨[(K_Si,false),(K_F_q27q_qPBBPPZiqZSiSSiSSiqBiq,false)],[.bool],true,F_q6q N⟩:=
  have E:Env Tryz.prog Γ_q6q:=env_of tab ⟨C_q8q,trivial⟩
  con_of (body:=bodyOf Tryz.f214) (Pc:=[]) E rfl mixed Tryz.func214 (by kernel_rfl) (by kernel_rfl) (by kernel_rfl) (by kernel_rfl) (fun A hA=>trivial) (fun _=>by kernel_rfl)
theorem C_q6q:Contract Tryz.prog 214 S_q6q:=C_q6q_raw 0
theorem C_q39q_raw (N:Nat):Contract Tryz.prog 192 ⟨[(K_BPPZiqZSiSSiSSiq,false),(I,false),(I,false)],[.bool],true,F_q39q N⟩:=
  have E:Env Tryz.prog Γ_q39q:=env_ofV tab ⟨C_q6q,trivial⟩ trivial (w1_of (by kernel_rfl))
  con_of (body:=bodyOf Tryz.f192) (Pc:=[]) E rfl mixed Tryz.func192 (by kernel_rfl) (by kernel_rfl) (by kernel_rfl) (by kernel_rfl) (fun A hA=>trivial) (fun _=>by kernel_rfl)
theorem C_q39q:Contract Tryz.prog 192 S_q39q:=C_q39q_raw 0
theorem C_q37q_raw (N:Nat):ContractG Tryz.prog 103 (⟨[(K_PSiq,false),(I,false)],[K_BPPZiqZSiSSiSSiq],true,F_q37q N⟩,md0):=
  have E:Env Tryz.prog Γ_q37q:=env_ofG tab ⟨C_q53q,⟨C_q12q,⟨C_q39q,trivial⟩⟩⟩ trivial (fun _ h=>by cases h) ⟨C_q31q,trivial⟩ (by kernel_rfl)
  con_ofG (body:=bodyOf Tryz.f103) (Pc:=[(0,⟨q37q_l0_h,q37q_l0_o,q37q_l0 N N⟩),(4,⟨q37q_l4_h,q37q_l4_o,q37q_l4 N N⟩)]) E mixed Tryz.func103 (by kernel_rfl) (by kernel_rfl) (by kernel_rfl) (by kernel_rfl) (fun A hA=>⟨pc_of (body:=loopOf Tryz.f103 0) (inner:=[(2,⟨q37q_l2_h,q37q_l2_o,q37q_l2 N N⟩)]) E mixed hA (by kernel_rfl) (by kernel_rfl) (by kernel_rfl) ⟨pc_of (body:=loopOf Tryz.f103 2) (inner:=[]) E mixed hA (by kernel_rfl) (by kernel_rfl) (by kernel_rfl) trivial (fun _=>rfl) (fun _ _=>by kernel_rfl) N,trivial⟩ (fun _=>rfl) (fun _ _=>by kernel_rfl) N,⟨pc_of (body:=loopOf Tryz.f103 4) (inner:=[(6,⟨q37q_l6_h,q37q_l6_o,q37q_l6 N N⟩),(10,⟨q37q_l10_h,q37q_l10_o,q37q_l10 N N⟩)]) E mixed hA (by kernel_rfl) (by kernel_rfl) (by kernel_rfl) ⟨pc_of (body:=loopOf Tryz.f103 6) (inner:=[(8,⟨q37q_l8_h,q37q_l8_o,q37q_l8 N N⟩)]) E mixed hA (by kernel_rfl) (by kernel_rfl) (by kernel_rfl) ⟨pc_of (body:=loopOf Tryz.f103 8) (inner:=[]) E mixed hA (by kernel_rfl) (by kernel_rfl) (by kernel_rfl) trivial (fun _=>rfl) (fun _ _=>by kernel_rfl) N,trivial⟩ (fun _=>rfl) (fun _ _=>by kernel_rfl) N,⟨pc_of (body:=loopOf Tryz.f103 10) (inner:=[]) E mixed hA (by kernel_rfl) (by kernel_rfl) (by kernel_rfl) trivial (fun _=>rfl) (fun _ _=>by kernel_rfl) N,trivial⟩⟩ (fun _=>rfl) (fun _ _=>by kernel_rfl) N,trivial⟩⟩) (fun _=>by kernel_rfl)
theorem C_q37q:ContractG Tryz.prog 103 (S_q37q,md0):=ContractG.less (fun N:Nat=>F_q37q N) C_q37q_raw copGame_lim
theorem C_q32q_raw (N:Nat):Contract Tryz.prog 30 ⟨[(K_PiSPiiqq,false),(I,false)],[K_SSi,.bool],true,F_q32q N⟩:=
  have E:Env Tryz.prog Γ_q32q:=env_ofG tab ⟨C_q47q,⟨C_impl_netOf,trivial⟩⟩ trivial (fun _ h=>by cases h) ⟨C_q37q,trivial⟩ (by kernel_rfl)
  con_of (body:=bodyOf Tryz.f30) (Pc:=[]) E rfl mixed Tryz.func30 (by kernel_rfl) (by kernel_rfl) (by kernel_rfl) (by kernel_rfl) (fun A hA=>trivial) (fun _=>by kernel_rfl)
theorem C_q32q:Contract Tryz.prog 30 S_q32q:=C_q32q_raw 0
theorem C_laws_rInts_raw (N:Nat):Contract Tryz.prog 38 ⟨[(K_Si,false),(K_Si,false)],[.bool],true,F_laws_rInts N⟩:=
  have E:Env Tryz.prog Γ_laws_rInts:=env_of tab trivial
  con_of (body:=bodyOf Tryz.f38) (Pc:=[(0,⟨laws_rInts_l0_h,laws_rInts_l0_o,laws_rInts_l0 N N⟩)]) E rfl mixed Tryz.func38 (by kernel_rfl) (by kernel_rfl) (by kernel_rfl) (by kernel_rfl) (fun A hA=>⟨pc_of (body:=loopOf Tryz.f38 0) (inner:=[]) E mixed hA (by kernel_rfl) (by kernel_rfl) (by kernel_rfl) trivial (fun _=>rfl) (fun _ _=>by kernel_rfl) N,trivial⟩) (fun _=>by kernel_rfl)
theorem C_laws_rInts:Contract Tryz.prog 38 S_laws_rInts:=Contract.less (fun N:Nat=>F_laws_rInts N) C_laws_rInts_raw rInts_lim
theorem C_q79q_raw (N:Nat):Contract Tryz.prog 43 ⟨[(K_SSi,false),(K_SSi,false)],[.bool],true,F_q79q N⟩:=
  have E:Env Tryz.prog Γ_q79q:=env_of tab ⟨C_laws_rInts,trivial⟩
  con_of (body:=bodyOf Tryz.f43) (Pc:=[(0,⟨q79q_l0_h,q79q_l0_o,q79q_l0 N N⟩)]) E rfl mixed Tryz.func43 (by kernel_rfl) (by kernel_rfl) (by kernel_rfl) (by kernel_rfl) (fun A hA=>⟨pc_of (body:=loopOf Tryz.f43 0) (inner:=[]) E mixed hA (by kernel_rfl) (by kernel_rfl) (by kernel_rfl) trivial (fun _=>rfl) (fun _ _=>by kernel_rfl) N,trivial⟩) (fun _=>by kernel_rfl)
theorem C_q79q:Contract Tryz.prog 43 S_q79q:=Contract.less (fun N:Nat=>F_q79q N) C_q79q_raw rTable_lim
theorem C_q56q_raw (N:Nat):Contract Tryz.prog 14 ⟨[(K_PiSPiiqq,false),(I,false)],[K_SSi,.bool],true,F_q56q N⟩:=
  have E:Env Tryz.prog Γ_q56q:=env_ofG tab ⟨C_q47q,⟨C_impl_netOf,trivial⟩⟩ trivial (fun _ h=>by cases h) ⟨C_q37q,trivial⟩ (by kernel_rfl)
  con_of (body:=bodyOf Tryz.f14) (Pc:=[(0,⟨q56q_l0_h,q56q_l0_o,q56q_l0 N N⟩)]) E rfl mixed Tryz.func14 (by kernel_rfl) (by kernel_rfl) (by kernel_rfl) (by kernel_rfl) (fun A hA=>⟨pc_of (body:=loopOf Tryz.f14 0) (inner:=[(2,⟨q56q_l2_h,q56q_l2_o,q56q_l2 N N⟩)]) E mixed hA (by kernel_rfl) (by kernel_rfl) (by kernel_rfl) ⟨pc_of (body:=loopOf Tryz.f14 2) (inner:=[]) E mixed hA (by kernel_rfl) (by kernel_rfl) (by kernel_rfl) trivial (fun _=>rfl) (fun _ _=>by kernel_rfl) N,trivial⟩ (fun _=>rfl) (fun _ _=>by kernel_rfl) N,trivial⟩) (fun _=>by kernel_rfl)
theorem C_q56q:Contract Tryz.prog 14 S_q56q:=Contract.less (fun N:Nat=>F_q56q N) C_q56q_raw implSafe_lim
theorem C_q83q_raw (N:Nat):Contract Tryz.prog 139 ⟨[(K_SSi,false)],[K_SSi],true,F_q83q N⟩:=
  have E:Env Tryz.prog Γ_q83q:=env_of tab trivial
  con_of (body:=bodyOf Tryz.f139) (Pc:=[(0,⟨q83q_l0_h,q83q_l0_o,q83q_l0 N N⟩)]) E rfl mixed Tryz.func139 (by kernel_rfl) (by kernel_rfl) (by kernel_rfl) (by kernel_rfl) (fun A hA=>⟨pc_of (body:=loopOf Tryz.f139 0) (inner:=[(2,⟨q83q_l2_h,q83q_l2_o,q83q_l2 N N⟩)]) E mixed hA (by kernel_rfl) (by kernel_rfl) (by kernel_rfl) ⟨pc_of (body:=loopOf Tryz.f139 2) (inner:=[]) E mixed hA (by kernel_rfl) (by kernel_rfl) (by kernel_rfl) trivial (fun _=>rfl) (fun _ _=>by kernel_rfl) N,trivial⟩ (fun _=>rfl) (fun _ _=>by kernel_rfl) N,trivial⟩) (fun _=>by kernel_rfl)
theorem C_q83q:Contract Tryz.prog 139 S_q83q:=Contract.less (fun N:Nat=>F_q83q N) C_q83q_raw l4Safe_lim
theorem C_q60q_raw (N:Nat):Contract Tryz.prog 54 ⟨[(K_PiSPiiqq,false),(I,false)],[K_SSi,.bool],true,F_q60q N⟩:=
  have E:Env Tryz.prog Γ_q60q:=env_of tab ⟨C_q67q,⟨C_q81q,⟨C_q64q,⟨C_q83q,trivial⟩⟩⟩⟩
  con_of (body:=bodyOf Tryz.f54) (Pc:=[]) E rfl mixed Tryz.func54 (by kernel_rfl) (by kernel_rfl) (by kernel_rfl) (by kernel_rfl) (fun A hA=>trivial) (fun _=>by kernel_rfl)
theorem C_q60q:Contract Tryz.prog 54 S_q60q:=C_q60q_raw 0
theorem C_q25q_raw (N:Nat):Contract Tryz.prog 175 ⟨[(K_Si,false)],[I],true,F_q25q N⟩:=
  have E:Env Tryz.prog Γ_q25q:=env_of tab trivial
  con_of (body:=bodyOf Tryz.f175) (Pc:=[(0,⟨q25q_l0_h,q25q_l0_o,q25q_l0 N N⟩)]) E rfl mixed Tryz.func175 (by kernel_rfl) (by kernel_rfl) (by kernel_rfl) (by kernel_rfl) (fun A hA=>⟨pc_of (body:=loopOf Tryz.f175 0) (inner:=[]) E mixed hA (by kernel_rfl) (by kernel_rfl) (by kernel_rfl) trivial (fun _=>rfl) (fun _ _=>by kernel_rfl) N,trivial⟩) (fun _=>by kernel_rfl)
theorem C_q25q:Contract Tryz.prog 175 S_q25q:=Contract.less (fun N:Nat=>F_q25q N) C_q25q_raw max_lim
theorem C_q33q_raw (N:Nat):Contract Tryz.prog 104 ⟨[(K_BPPZiqZSiSSiSSiq,false)],[K_Si,I,.bool],true,F_q33q N⟩:=
  have E:Env Tryz.prog Γ_q33q:=env_of tab ⟨C_q9q,⟨C_q16q,⟨C_q25q,trivial⟩⟩⟩
  con_of (body:=bodyOf Tryz.f104) (Pc:=[(0,⟨q33q_l0_h,q33q_l0_o,q33q_l0 N N⟩)]) E rfl mixed Tryz.func104 (by kernel_rfl) (by kernel_rfl) (by kernel_rfl) (by kernel_rfl) (fun A hA=>⟨pc_of (body:=loopOf Tryz.f104 0) (inner:=[]) E mixed hA (by kernel_rfl) (by kernel_rfl) (by kernel_rfl) trivial (fun _=>rfl) (fun _ _=>by kernel_rfl) N,trivial⟩) (fun _=>by kernel_rfl)
theorem C_q33q:Contract Tryz.prog 104 S_q33q:=Contract.less (fun N:Nat=>F_q33q N) C_q33q_raw gameBest_lim
theorem C_q61q_raw (N:Nat):Contract Tryz.prog 13 ⟨[(K_PiSPiiqq,false),(I,false)],[.bool,.bool],true,F_q61q N⟩:=
  have E:Env Tryz.prog Γ_q61q:=env_ofG tab ⟨C_q47q,⟨C_impl_netOf,⟨C_q33q,trivial⟩⟩⟩ trivial (fun _ h=>by cases h) ⟨C_q37q,trivial⟩ (by kernel_rfl)
  con_of (body:=bodyOf Tryz.f13) (Pc:=[]) E rfl mixed Tryz.func13 (by kernel_rfl) (by kernel_rfl) (by kernel_rfl) (by kernel_rfl) (fun A hA=>trivial) (fun _=>by kernel_rfl)
theorem C_q61q:Contract Tryz.prog 13 S_q61q:=C_q61q_raw 0
theorem C_q84q_raw (N:Nat):Contract Tryz.prog 140 ⟨[(K_PiSPiiqq,false),(I,false)],[.bool],true,F_q84q N⟩:=
  have E:Env Tryz.prog Γ_q84q:=env_of tab ⟨C_q81q,⟨C_q66q,⟨C_q64q,trivial⟩⟩⟩
  con_of (body:=bodyOf Tryz.f140) (Pc:=[(0,⟨q84q_l0_h,q84q_l0_o,q84q_l0 N N⟩)]) E rfl mixed Tryz.func140 (by kernel_rfl) (by kernel_rfl) (by kernel_rfl) (by kernel_rfl) (fun A hA=>⟨pc_of (body:=loopOf Tryz.f140 0) (inner:=[]) E mixed hA (by kernel_rfl) (by kernel_rfl) (by kernel_rfl) trivial (fun _=>rfl) (fun _ _=>by kernel_rfl) N,trivial⟩) (fun _=>by kernel_rfl)
theorem C_q84q:Contract Tryz.prog 140 S_q84q:=Contract.less (fun N:Nat=>F_q84q N) C_q84q_raw l4Wins_lim
theorem C_q58q_raw (N:Nat):Contract Tryz.prog 55 ⟨[(K_PiSPiiqq,false),(I,false)],[.bool,.bool],true,F_q58q N⟩:=
  have E:Env Tryz.prog Γ_q58q:=env_of tab ⟨C_q67q,⟨C_q84q,trivial⟩⟩
  con_of (body:=bodyOf Tryz.f55) (Pc:=[]) E rfl mixed Tryz.func55 (by kernel_rfl) (by kernel_rfl) (by kernel_rfl) (by kernel_rfl) (fun A hA=>trivial) (fun _=>by kernel_rfl)
theorem C_q58q:Contract Tryz.prog 55 S_q58q:=C_q58q_raw 0
theorem C_q51q_raw (N:Nat):Contract Tryz.prog 128 ⟨[(K_Si,false),(I,false),(I,false)],[.bool],true,F_q51q N⟩:=
  have E:Env Tryz.prog Γ_q51q:=env_of tab ⟨C_q80q,trivial⟩
  con_of (body:=bodyOf Tryz.f128) (Pc:=[(0,⟨q51q_l0_h,q51q_l0_o,q51q_l0 N N⟩)]) E rfl mixed Tryz.func128 (by kernel_rfl) (by kernel_rfl) (by kernel_rfl) (by kernel_rfl) (fun A hA=>⟨pc_of (body:=loopOf Tryz.f128 0) (inner:=[]) E mixed hA (by kernel_rfl) (by kernel_rfl) (by kernel_rfl) trivial (fun _=>rfl) (fun _ _=>by kernel_rfl) N,trivial⟩) (fun _=>by kernel_rfl)
theorem C_q51q:Contract Tryz.prog 128 S_q51q:=Contract.less (fun N:Nat=>F_q51q N) C_q51q_raw allWithin_lim
theorem C_q55q_raw (N:Nat):Contract Tryz.prog 106 ⟨[(K_PiSPiiqq,false),(K_Si,false)],[.bool],true,F_q55q N⟩:=
  have E:Env Tryz.prog Γ_q55q:=env_of tab ⟨C_q68q,⟨C_q51q,trivial⟩⟩
  con_of (body:=bodyOf Tryz.f106) (Pc:=[]) E rfl mixed Tryz.func106 (by kernel_rfl) (by kernel_rfl) (by kernel_rfl) (by kernel_rfl) (fun A hA=>trivial) (fun _=>by kernel_rfl)
theorem C_q55q:Contract Tryz.prog 106 S_q55q:=C_q55q_raw 0
theorem C_q42q_raw (N:Nat):Contract Tryz.prog 169 ⟨[(K_Si,false)],[.bool],true,F_q42q N⟩:=
  have E:Env Tryz.prog Γ_q42q:=env_of tab trivial
  con_of (body:=bodyOf Tryz.f169) (Pc:=[(0,⟨q42q_l0_h,q42q_l0_o,q42q_l0 N N⟩)]) E rfl mixed Tryz.func169 (by kernel_rfl) (by kernel_rfl) (by kernel_rfl) (by kernel_rfl) (fun A hA=>⟨pc_of (body:=loopOf Tryz.f169 0) (inner:=[]) E mixed hA (by kernel_rfl) (by kernel_rfl) (by kernel_rfl) trivial (fun _=>rfl) (fun _ _=>by kernel_rfl) N,trivial⟩) (fun _=>by kernel_rfl)
theorem C_q42q:Contract Tryz.prog 169 S_q42q:=Contract.less (fun N:Nat=>F_q42q N) C_q42q_raw increasing_lim
theorem C_impl_isSet_raw (N:Nat):Contract Tryz.prog 189 ⟨[(K_PiSPiiqq,false),(K_Si,false)],[.bool],true,F_impl_isSet N⟩:=
  have E:Env Tryz.prog Γ_impl_isSet:=env_of tab ⟨C_q55q,⟨C_q42q,trivial⟩⟩
  con_of (body:=bodyOf Tryz.f189) (Pc:=[]) E rfl mixed Tryz.func189 (by kernel_rfl) (by kernel_rfl) (by kernel_rfl) (by kernel_rfl) (fun A hA=>trivial) (fun _=>by kernel_rfl)
theorem C_impl_isSet:Contract Tryz.prog 189 S_impl_isSet:=C_impl_isSet_raw 0
theorem C_q72q_raw (N:Nat):Contract Tryz.prog 157 ⟨[(K_Si,false)],[I],true,F_q72q N⟩:=
  have E:Env Tryz.prog Γ_q72q:=env_of tab trivial
  con_of (body:=bodyOf Tryz.f157) (Pc:=[(0,⟨q72q_l0_h,q72q_l0_o,q72q_l0 N N⟩)]) E rfl mixed Tryz.func157 (by kernel_rfl) (by kernel_rfl) (by kernel_rfl) (by kernel_rfl) (fun A hA=>⟨pc_of (body:=loopOf Tryz.f157 0) (inner:=[]) E mixed hA (by kernel_rfl) (by kernel_rfl) (by kernel_rfl) trivial (fun _=>rfl) (fun _ _=>by kernel_rfl) N,trivial⟩) (fun _=>by kernel_rfl)
theorem C_q72q:Contract Tryz.prog 157 S_q72q:=Contract.less (fun N:Nat=>F_q72q N) C_q72q_raw maskOf_lim
theorem C_q14q_raw (N:Nat):Contract Tryz.prog 97 ⟨[(K_BPPZiqZSiSSiSSiq,false),(K_PiSPiiqq,false),(K_SSi,false)],[.bool],true,F_q14q N⟩:=
  have E:Env Tryz.prog Γ_q14q:=env_of tab ⟨C_q9q,⟨C_q44q,⟨C_q72q,⟨C_impl_isSet,trivial⟩⟩⟩⟩
  con_of (body:=bodyOf Tryz.f97) (Pc:=[(0,⟨q14q_l0_h,q14q_l0_o,q14q_l0 N N⟩),(2,⟨q14q_l2_h,q14q_l2_o,q14q_l2 N N⟩)]) E rfl mixed Tryz.func97 (by kernel_rfl) (by kernel_rfl) (by kernel_rfl) (by kernel_rfl) (fun A hA=>⟨pc_of (body:=loopOf Tryz.f97 0) (inner:=[]) E mixed hA (by kernel_rfl) (by kernel_rfl) (by kernel_rfl) trivial (fun _=>rfl) (fun _ _=>by kernel_rfl) N,⟨pc_of (body:=loopOf Tryz.f97 2) (inner:=[(4,⟨q14q_l4_h,q14q_l4_o,q14q_l4 N N⟩)]) E mixed hA (by kernel_rfl) (by kernel_rfl) (by kernel_rfl) ⟨pc_of (body:=loopOf Tryz.f97 4) (inner:=[(6,⟨q14q_l6_h,q14q_l6_o,q14q_l6 N N⟩)]) E mixed hA (by kernel_rfl) (by kernel_rfl) (by kernel_rfl) ⟨pc_of (body:=loopOf Tryz.f97 6) (inner:=[]) E mixed hA (by kernel_rfl) (by kernel_rfl) (by kernel_rfl) trivial (fun _=>rfl) (fun _ _=>by kernel_rfl) N,trivial⟩ (fun _=>rfl) (fun _ _=>by kernel_rfl) N,trivial⟩ (fun _=>rfl) (fun _ _=>by kernel_rfl) N,trivial⟩⟩) (fun _=>by kernel_rfl)
theorem C_q14q:Contract Tryz.prog 97 S_q14q:=Contract.less (fun N:Nat=>F_q14q N) C_q14q_raw gameEvas_lim
theorem C_q48q_raw (N:Nat):Contract Tryz.prog 11 ⟨[(K_PiSPiiqq,false),(I,false),(K_SSi,false)],[.bool,.bool],true,F_q48q N⟩:=
  have E:Env Tryz.prog Γ_q48q:=env_ofG tab ⟨C_q47q,⟨C_impl_netOf,⟨C_q14q,trivial⟩⟩⟩ trivial (fun _ h=>by cases h) ⟨C_q31q,trivial⟩ (by kernel_rfl)
  con_of (body:=bodyOf Tryz.f11) (Pc:=[]) E rfl mixed Tryz.func11 (by kernel_rfl) (by kernel_rfl) (by kernel_rfl) (by kernel_rfl) (fun A hA=>trivial) (fun _=>by kernel_rfl)
theorem C_q48q:Contract Tryz.prog 11 S_q48q:=C_q48q_raw 0
theorem C_laws_rHas_raw (N:Nat):Contract Tryz.prog 47 ⟨[(K_Si,false),(I,false)],[.bool],true,F_laws_rHas N⟩:=
  have E:Env Tryz.prog Γ_laws_rHas:=env_of tab trivial
  con_of (body:=bodyOf Tryz.f47) (Pc:=[(0,⟨laws_rHas_l0_h,laws_rHas_l0_o,laws_rHas_l0 N N⟩)]) E rfl mixed Tryz.func47 (by kernel_rfl) (by kernel_rfl) (by kernel_rfl) (by kernel_rfl) (fun A hA=>⟨pc_of (body:=loopOf Tryz.f47 0) (inner:=[]) E mixed hA (by kernel_rfl) (by kernel_rfl) (by kernel_rfl) trivial (fun _=>rfl) (fun _ _=>by kernel_rfl) N,trivial⟩) (fun _=>by kernel_rfl)
theorem C_laws_rHas:Contract Tryz.prog 47 S_laws_rHas:=Contract.less (fun N:Nat=>F_laws_rHas N) C_laws_rHas_raw rHas_lim
theorem C_laws_FnCapture_raw (N:Nat):Contract Tryz.prog 6 ⟨[(K_Su8,false)],[.bool],true,F_laws_FnCapture N⟩:=
  have E:Env Tryz.prog Γ_laws_FnCapture:=env_of tab ⟨C_laws_rBig,⟨C_q48q,⟨C_q61q,⟨C_q56q,⟨C_q32q,⟨C_q79q,⟨C_laws_rHas,⟨C_q11q,⟨C_q24q,⟨C_q23q,⟨C_q34q,⟨C_q60q,⟨C_q58q,trivial⟩⟩⟩⟩⟩⟩⟩⟩⟩⟩⟩⟩⟩
  con_of (body:=bodyOf Tryz.f6) (Pc:=[(0,⟨laws_FnCapture_l0_h,laws_FnCapture_l0_o,laws_FnCapture_l0 N N⟩),(4,⟨laws_FnCapture_l4_h,laws_FnCapture_l4_o,laws_FnCapture_l4 N N⟩)]) E rfl mixed Tryz.func6 (by kernel_rfl) (by kernel_rfl) (by kernel_rfl) (by kernel_rfl) (fun A hA=>⟨pc_of (body:=loopOf Tryz.f6 0) (inner:=[(2,⟨laws_FnCapture_l2_h,laws_FnCapture_l2_o,laws_FnCapture_l2 N N⟩)]) E mixed hA (by kernel_rfl) (by kernel_rfl) (by kernel_rfl) ⟨pc_of (body:=loopOf Tryz.f6 2) (inner:=[]) E mixed hA (by kernel_rfl) (by kernel_rfl) (by kernel_rfl) trivial (fun _=>rfl) (fun _ _=>by kernel_rfl) N,trivial⟩ (fun _=>rfl) (fun _ _=>by kernel_rfl) N,⟨pc_of (body:=loopOf Tryz.f6 4) (inner:=[(6,⟨laws_FnCapture_l6_h,laws_FnCapture_l6_o,laws_FnCapture_l6 N N⟩)]) E mixed hA (by kernel_rfl) (by kernel_rfl) (by kernel_rfl) ⟨pc_of (body:=loopOf Tryz.f6 6) (inner:=[]) E mixed hA (by kernel_rfl) (by kernel_rfl) (by kernel_rfl) trivial (fun _=>rfl) (fun _ _=>by kernel_rfl) N,trivial⟩ (fun _=>rfl) (fun _ _=>by kernel_rfl) N,trivial⟩⟩) (fun _=>by kernel_rfl)
theorem C_laws_FnCapture:Contract Tryz.prog 6 S_laws_FnCapture:=Contract.less (fun N:Nat=>F_laws_FnCapture N) C_laws_FnCapture_raw lawCapture_lim
end Go.V.W
