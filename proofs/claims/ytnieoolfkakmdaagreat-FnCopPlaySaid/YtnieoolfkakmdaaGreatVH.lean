/- What the law FnCopPlay leans on, part 8: an interpreter of the model as plain data, its soundness, the functions as it tells them, and their laws. -/
import Derived.Shelf.Lays
import Derived.Shelf.LaysM
import Derived.Shelf.SortM.Plain
import Derived.Shelf.SortM.SortNone
import Derived.Shelf.SlSortCmp.NoneTotal
import Derived.Test.YtnieoolfkakmdaaGreatVG
set_option linter.unusedVariables false
set_option linter.unusedSimpArgs false
set_option maxRecDepth 100000
namespace Go.V.W
open Go.Proofs
theorem sorted_ok {l:List Int} {u:Unit} (h:l.length<=1000):Ok (G_l4Sorted (l,u)) fun r=>r.1.length=l.length:=by
 unfold G_l4Sorted
 rw [if_pos (decide_eq_true h)]
 exact Ok.some (sortI_perm l).length_eq
theorem many_le {c:Cur} {u:Unit} (h:CurB c) (hf:c.2.1+10<=far_):Ok (F_q39q 0 (c,u)) fun r=>r.1<=4/\Adv 10 c r.2.1:=by
 unfold F_q39q
 simp only
 refine Ok.bind (one_ok h (by omega)) fun r hr => ?_
 have b1:=hr.2
 refine Ok.ite (fun _ => ?_) fun _ => ?_
 ·refine Ok.bind (among_ok hr.1 (by omega) (by simp)) fun s hs=>Ok.some ⟨?_,(hr.trans hs.2).le (by omega)⟩
  have:=hs.1
  simp at this
  omega
 ·refine Ok.bind (among_ok hr.1 (by omega) (by simp)) fun s hs=>Ok.some ⟨?_,(hr.trans hs.2).le (by omega)⟩
  have:=hs.1
  simp at this
  omega
theorem cops_l0 (N:Nat) (g:Gr):∀(k:Nat) (i:Int) f (c:Cur) (l:List Int),i<=(k:Int)->k<=10->k<f->CurB c->c.2.1+10*(k:Int)<=far_->l.length+k<=10 ->
  Ok (q38q_l0 N f (c,g,l,i,())) fun o => ∃c' l',o=.inl (c',l',())/\Adv (10*(k:Int)) c c'/\l'.length<=10:=by
 intro k
 induction k with
 | zero=>
  intro i f c l h1 h1' h2 h3 h4 h5
  obtain ⟨f,rfl⟩:∃m,f=m+1:=⟨f-1,by omega⟩
  have hlt:decide (i>(0:Int))=false:=decide_eq_false (by omega)
  show Ok (q38q_l0_r _ _ _) _
  unfold q38q_l0_r
  simp only [hlt,Bool.false_eq_true,if_false]
  exact Ok.some ⟨c,l,rfl,⟨h3,by omega⟩,by omega⟩
 | succ k ih=>
  intro i f c l h1 h1' h2 h3 h4 h5
  obtain ⟨f,rfl⟩:∃m,f=m+1:=⟨f-1,by omega⟩
  show Ok (q38q_l0_r _ _ _) _
  unfold q38q_l0_r
  simp only
  refine Ok.ite (fun hp => ?_) fun _=>Ok.some ⟨c,l,rfl,⟨h3,by omega⟩,by omega⟩
  have hp:=of_decide_eq_true hp
  have hw:IntKind.wrap .i64 (i-1)=i-1:=wrap_in _ (by omega) (by omega)
  rw [hw]
  refine Ok.bind (node_ok h3 (by omega)) fun r hr => ?_
  have b:=hr.2.2.2
  refine Ok.pos (decide_eq_true (by unfold lim;simp;omega)) ?_
  refine (ih (i-1) f r.2.1 (l++[r.1]) (by omega) (by omega) (by omega) hr.2.2.1 (by omega) (by simp;omega)).mono fun o ho => ?_
  obtain ⟨c',l',e1,e2,e3⟩:=ho
  exact ⟨c',l',e1,(hr.2.2.trans e2).le (by omega),e3⟩
theorem cops_ok {c:Cur} {g:Gr} (h:CurB c) (hf:c.2.1+100<=far_):Ok (pickF F_q38q P_cops (c,g,())) (P_cops (c,g,())):=by
 refine Ok.pick 20 ?_
 unfold F_q38q
 simp only
 refine Ok.bind (many_le h (by omega)) fun r hr => ?_
 have b1:=hr.2.2
 have a1:=hr.2
 refine Ok.bind (cops_l0 20 g 4 r.1 20 r.2.1 [] hr.1 (by omega) (by omega) a1.1 (by omega) (by simp)) fun o ho => ?_
 obtain ⟨c',l',rfl,a2,l2⟩:=ho
 have a3:=a1.trans a2
 have b3:=a3.2
 refine Ok.bind (one_ok a3.1 (by simp only;omega)) fun s hs => ?_
 have a4:=a3.trans hs
 refine Ok.ite (fun _=>Ok.some ⟨a4.le (by omega),l2⟩) fun _ => ?_
 refine Ok.bind (sorted_ok (by simp only;omega)) fun t ht=>Ok.some ⟨a4.le (by omega),?_⟩
 simp only at ht |-
 omega
theorem play_ok {c:Cur} {u:Unit} (h:CurB c) (hf:c.2.1+600<=far_):Ok (F_q42q 0 (c,u)) fun r=>Adv 600 c r.2.2.1/\r.1.2.1.length<=200/\r.2.1.length<=10:=by
 unfold F_q42q
 simp only
 refine Ok.bind (one_ok h (by omega)) fun r hr => ?_
 have b1:=hr.2
 refine Ok.ite (fun _ => ?_) fun _ => ?_
 ·refine Ok.bind (bigGraph_ok hr.1 (by omega)) fun g hg => ?_
  have a2:=hr.trans hg.1
  have b2:=a2.2
  refine Ok.bind (node_ok a2.1 (by omega)) fun x hx => ?_
  have a3:=a2.trans hx.2.2
  have b3:=a3.2
  refine Ok.bind (one_ok a3.1 (by omega)) fun s hs => ?_
  have a4:=a3.trans hs
  have b4:=a4.2
  refine Ok.ite (fun _ => ?_) fun _=>Ok.some ⟨a4.le (by omega),hg.2,by simp⟩
  refine Ok.bind (node_ok a4.1 (by omega)) fun y hy=>Ok.pos (decide_eq_true (by unfold lim;simp)) ?_
  refine Ok.bind (sorted_ok (by simp)) fun t ht=>Ok.some ⟨(a4.trans hy.2.2).le (by omega),hg.2,?_⟩
  simp at ht
  simp only
  omega
 ·refine Ok.bind (someGraph_ok hr.1 (by omega) (by omega) (by omega)) fun g hg => ?_
  have a2:=hr.trans hg.1
  have b2:=a2.2
  refine Ok.bind (cops_ok (g:=g.1) a2.1 (by omega)) fun s hs=>Ok.some ⟨(a2.trans hs.1).le (by omega),hg.2,hs.2⟩
theorem drawPlay_ok {code:List Int} {u:Unit} (hb:∀x∈code,0<=x/\x<=255):Ok (F_q24q 0 (code,u)) fun r=>r.1.2.1.length<=200/\r.2.1.length<=10:=by
 have hc:CurB (code,0,0,()):=⟨hb,Int.le_refl _⟩
 unfold F_q24q
 simp only
 have h1:Ok (F_q27q 0 (code,())) fun r=>r.1.2.1.length<=200/\r.2.1.length<=10:=by
  unfold F_q27q
  simp only
  refine Ok.bind (play_ok hc (by unfold far_;simp only;omega)) fun r hr => ?_
  have b:=hr.1.2
  simp only at b
  exact Ok.bind (node_ok hr.1.1 (by unfold far_;omega)) fun s hs=>Ok.some hr.2
 refine Ok.bind h1 fun r hr => ?_
 exact Ok.bind (among_ok hc (by unfold far_;simp only;omega) (by simp)) fun s hs=>Ok.some hr
theorem conf_inj {n k:Nat} {i j:Nat} (hi:i<(confL n k).length) (hj:j<(confL n k).length) (h:(confL n k).getD i []=(confL n k).getD j []):i=j:=by
 have hp:=confL_rise n k
 have hnd:(confL n k).Nodup:=hp.imp fun hlt e=>by
  subst e
  exact ltL_irr _ hlt
 rw [List.getD_eq_getElem?_getD,List.getD_eq_getElem?_getD,List.getElem?_eq_getElem hi,List.getElem?_eq_getElem hj] at h
 exact (List.getElem_inj hnd).1 h
theorem cp_l0 (N:Nat) {m n:Nat} (hn:n<=8) {T:Tab} (hT:rcB m n T=true) (x a:Int) {b:Nat} (hb:b<m) (near:List Int) (hl:near.length<=8) (hin:∀z∈near,∃y:Nat,y<n/\z=(y:Int)) (h0:∀z∈near,0<=tab2 T (b:Int) z):∀k i f (w:Int),i+k=near.length->k<f ->
  laws_FnCopPlay_l0 N f (x,T,a,(b:Int),near,w,(i:Int),())=some (.inr (.inl (x,T,a,(b:Int),(near.drop i).foldl (fun a z=>if tab2 T (b:Int) z>a then tab2 T (b:Int) z else a) w,()))):=by
 obtain ⟨t1,t2⟩:=rcB_parts hT
 have ib:idxIn (b:Int) T.length=true:=idxIn_nat (by omega)
 intro k
 induction k with
 | zero=>
  intro i f w h1 h2
  obtain ⟨f,rfl⟩:∃m,f=m+1:=⟨f-1,by omega⟩
  have hlt:decide ((i:Int)<(near.length:Int))=false:=decide_eq_false (by omega)
  rw [List.drop_of_length_le (by omega)]
  show laws_FnCopPlay_l0_r _ _ _=_
  unfold laws_FnCopPlay_l0_r
  simp only [hlt,Bool.false_eq_true,if_false,List.foldl_nil]
 | succ k ih=>
  intro i f w h1 h2
  obtain ⟨f,rfl⟩:∃m,f=m+1:=⟨f-1,by omega⟩
  have hi:i<near.length:=by omega
  have ei:at_ I near i=near[i]:=at_get (e:=I) hi
  obtain ⟨y,hy,ey⟩:=hin _ (List.getElem_mem hi)
  have hz:=h0 _ (List.getElem_mem hi)
  rw [ey] at hz
  have iy:idxIn (y:Int) (at_ K_Si T b).length=true:=idxIn_nat (by rw [t2 b hb];exact hy)
  have ev:=tab2_rc hT hb hy
  have hneg:decide (tab2 T (b:Int) (y:Int)<0)=false:=decide_eq_false (by omega)
  rw [List.drop_eq_getElem_cons hi,List.foldl_cons,ey]
  have step:laws_FnCopPlay_l0 N (f+1) (x,T,a,(b:Int),near,w,(i:Int),())=laws_FnCopPlay_l0 N f (x,T,a,(b:Int),near,(if tab2 T (b:Int) (y:Int)>w then tab2 T (b:Int) (y:Int) else w),((i+1:Nat):Int),()):=by
   show laws_FnCopPlay_l0_r _ _ _=_
   unfold laws_FnCopPlay_l0_r
   by_cases hg:tab2 T (b:Int) (y:Int)>w
   ·simp only [lt_dec hi,if_true,ib,idxIn_nat hi,Int.toNat_natCast,ei,ey,iy,ev,decide_eq_true hg,hneg,Bool.false_eq_true,if_false,small_wrap (show i<=100000 by omega),if_pos hg]
   ·simp only [lt_dec hi,if_true,ib,idxIn_nat hi,Int.toNat_natCast,ei,ey,iy,ev,decide_eq_false hg,hneg,Bool.false_eq_true,if_false,small_wrap (show i<=100000 by omega),if_neg hg]
  rw [step]
  exact ih (i+1) f _ (by omega) (by omega)
theorem near_irr {m:Nat} {es:List E} (h:es.all (edgeB (m:Int))=true) (x:Int):nearI es x x=false:=by
 cases hn:nearI es x x with
 | false=>rfl
 | true=>
  unfold nearI at hn
  simp only [List.any_eq_true,Bool.or_eq_true,Bool.and_eq_true,beq_iff_eq] at hn
  obtain ⟨e,he,h1⟩:=hn
  obtain ⟨k1,k2,k3,k4⟩:=edgeB_nat (List.all_eq_true.1 h e he)
  omega
theorem guard_traps {m:Nat} {es:List E} {v:Unit} {c:List Int} (hm:m<=8) (h3:c.length<=3) {p:Nat} (hp:p<(cfG ((m:Int),es,v) c.length).length) (hc:(cfG ((m:Int),es,v) c.length).getD p []=c) {y:Nat} (hy:y<m) {a:Int} (ha:a∈c) (hya:(y:Int)∈ballF m es a) :
  (y:Int)∈trapL ((tmG ((m:Int),es,v) c.length).getD p []):=by
 have hrc:=tm_rc ((m:Int),es,v) c.length
 simp only [Int.toNat_natCast] at hrc
 obtain ⟨t1,t2⟩:=rcB_parts hrc
 have hlt:p<(tmG ((m:Int),es,v) c.length).length:=by omega
 have hlen:((tmG ((m:Int),es,v) c.length).getD p []).length=m:=by rw [<- at_getDS hlt];exact t2 p hp
 have h:=guard_time (n:=m) hm (k:=c.length) h3 es (c:=p) (by unfold cfG at hp;rw [Int.toNat_natCast] at hp;exact hp) hy (a:=a) (by unfold cfG at hc;rw [Int.toNat_natCast] at hc;rw [hc];exact ha) hya
 have etm:tmG ((m:Int),es,v) c.length=timesG (confL m c.length) (movesI (ballF m es) (confL m c.length)) (ballF m es) m:=by
  unfold tmG mvG cfG
  simp only [Int.toNat_natCast]
 rw [<- etm] at h
 unfold trapL
 refine setF_mem.2 ⟨y,Nat.zero_le _,by omega,inB_iff.2 ?_,rfl⟩
 unfold tab2 at h
 simp only [Int.toNat_natCast] at h
 omega
theorem step_ball {m:Nat} {es:List E} {c:List Int} {y:Nat} (hy:y<m) (h:stepP es m (fun y=>hasL c (y:Int)) y=true):∃a∈c,(y:Int)∈ballF m es a:=by
 unfold stepP at h
 simp only [Bool.or_eq_true,List.any_eq_true,List.mem_range,Bool.and_eq_true] at h
 rcases h with h | ⟨u,hu,h1,h2⟩
 ·exact ⟨(y:Int),has_mem.1 h,ball_self es hy⟩
 ·exact ⟨(u:Int),has_mem.1 h1,setF_mem.2 ⟨y,Nat.zero_le _,by omega,by rw [h2,Bool.true_or],rfl⟩⟩
theorem steps_parts {n:Int} {es:List E} {v:Unit} {c:List Int}:(stepsB (n,es,v) c).2.1=meetB (n,es,v) c/\okLL (stepsB (n,es,v) c).1=true:=by
 unfold stepsB
 cases hme:meetB (n,es,v) c with
 | false=>exact ⟨rfl,rfl⟩
 | true=>
  obtain ⟨hg,m,rfl,m1,m8,c1,c3,hcb,hcm⟩:=meet_parts hme
  refine ⟨rfl,moves_ok c3 fun x _ => ?_⟩
  have:=ballF_len (m:Int).toNat es x
  simp only [Int.toNat_natCast] at this |-
  omega
theorem guard_parts {n:Int} {es:List E} {v:Unit} {c:List Int}:(guardB (n,es,v) c).2.1=meetB (n,es,v) c/\okL (guardB (n,es,v) c).1=true:=by
 unfold guardB
 cases hme:meetB (n,es,v) c with
 | false=>exact ⟨rfl,rfl⟩
 | true=>
  obtain ⟨hg,m,rfl,m1,m8,c1,c3,hcb,hcm⟩:=meet_parts hme
  refine ⟨rfl,okL_of ?_⟩
  have:(guardL (m:Int).toNat es c).length<=(m:Int).toNat:=setF_len
  simp only [if_true]
  omega
theorem traps_ok {n:Int} {es:List E} {v:Unit} {c:List Int}:(trapsB (n,es,v) c).2.1=meetB (n,es,v) c:=by
 unfold trapsB
 cases hme:meetB (n,es,v) c<;>rfl
theorem lawPlay_of {code:List Int} {u:Unit} (hbig:(g_laws_rBig (code,())).1=false) {n:Int} {es:List E} {v:Unit} {c:List Int} {x r:Int} {w:Unit} (hd:F_q24q 0 (code,())=some ((n,es,v),c,x,r,w)) (ho:okL es=true) (hc:okL c=true):F_laws_FnCopPlay 100 (code,u)=some (true,()):=by
 unfold F_laws_FnCopPlay
 obtain ⟨u1,u2,u3⟩:=play_small (g:=(n,es,v)) (c:=c) (x:=x) (r:=r)
 have okP:=okLL_8 (by omega) u2
 have okQ:okL (playB (n,es,v) c x r).2.1=true:=okL_of (by omega)
 have hplay:G_play ((n,es,v),c,x,r,())=some (playB (n,es,v) c x r):=by unfold G_play;simp only [ho,hc,Bool.and_self,if_true]
 have okR:okL (replyB (n,es,v) c x).1=true:=okL_of (by have:=reply_small (g:=(n,es,v)) (c:=c) (x:=x);omega)
 obtain ⟨es1,es2⟩:=steps_parts (n:=n) (es:=es) (v:=v) (c:=c)
 obtain ⟨eg1,eg2⟩:=guard_parts (n:=n) (es:=es) (v:=v) (c:=c)
 have et:=traps_ok (n:=n) (es:=es) (v:=v) (c:=c)
 have okT:okL (trapsB (n,es,v) c).1=true:=okL_of (by have:=traps_small (g:=(n,es,v)) (c:=c);omega)
 have hguard:G_guarded ((n,es,v),c,())=some (guardB (n,es,v) c):=by unfold G_guarded;simp only [ho,hc,Bool.and_self,if_true]
 have htraps:G_traps ((n,es,v),c,())=some (trapsB (n,es,v) c):=by unfold G_traps;simp only [ho,hc,Bool.and_self,if_true]
 have rT:∀T:List (List Int),okLL T=true->G_rTable (T,T,())=some (true,()):=fun T h=>by unfold G_rTable;simp only [h,if_true,decide_true]
 have rI:∀l:List Int,okL l=true->G_rInts (l,l,())=some (true,()):=fun l h=>by unfold G_rInts;simp only [h,if_true,decide_true]
 have hne:((robB (n,es,v) c x).1 != (robB (n,es,v) c x).1)=false:=by simp
 simp only [hbig,Bool.false_eq_true,if_false,hd,Option.bind_some,hplay,beq_self_eq_true,Bool.not_true,rT _ okP,rI _ okQ,implCR ho hc,specCR ho hc,rI _ okR,implRR ho hc,specRR ho hc,hne,implCM ho hc,specCM ho hc,rT _ es2,implGN ho hc,hguard,eg1,es1,rI _ eg2,htraps,et,rI _ okT]
 cases hme:meetB (n,es,v) c with
 | false=>
  have hr:(replyB (n,es,v) c x).2.1=false:=by
   unfold replyB
   simp only [hme,Bool.false_and,Bool.false_eq_true,if_false]
  simp only [Bool.false_eq_true,if_false,hr,Bool.not_false,if_true]
 | true=>
  obtain ⟨hg,m,rfl,m1,m8,c1,c3,hcb,hcm⟩:=meet_parts hme
  obtain ⟨p,p1,p2,p3⟩:=place_at hcm
  have eT:(trapsB ((m:Int),es,v) c).1=trapL ((tmG ((m:Int),es,v) c.length).getD p []):=by
   unfold trapsB
   simp only [hme,if_true,p2,Int.toNat_natCast]
  have eG:(guardB ((m:Int),es,v) c).1=guardL m es c:=by
   unfold guardB
   simp only [hme,if_true,Int.toNat_natCast]
  have hp1:G_rPart (c,(trapsB ((m:Int),es,v) c).1,())=some (true,()):=by
   have:c.all (hasL (trapsB ((m:Int),es,v) c).1)=true:=List.all_eq_true.2 fun z hz=>by
    obtain ⟨y,rfl,hy⟩:=nodeX (copsB_in hcb z hz)
    rw [eT]
    exact has_mem.2 (guard_traps m8 c3 p1 p3 hy hz (ball_self es hy))
   unfold G_rPart
   simp only [hc,okT,Bool.and_self,if_true,this]
  have hp2:G_rPart ((guardB ((m:Int),es,v) c).1,(trapsB ((m:Int),es,v) c).1,())=some (true,()):=by
   have:(guardB ((m:Int),es,v) c).1.all (hasL (trapsB ((m:Int),es,v) c).1)=true:=List.all_eq_true.2 fun z hz=>by
    rw [eG] at hz
    obtain ⟨y,_,hy,h,rfl⟩:=setF_mem.1 hz
    obtain ⟨a,ha,hya⟩:=step_ball (by omega) h
    rw [eT]
    exact has_mem.2 (guard_traps m8 c3 p1 p3 (by omega) ha hya)
   unfold G_rPart
   simp only [eg2,okT,Bool.and_self,if_true,this]
  simp only [if_true,hp1,Option.bind_some,Bool.not_true,Bool.false_eq_true,if_false,hp2]
  by_cases hrep:(meetB ((m:Int),es,v) c&&inB 0 ((m:Int)-1) x && !hasL c x&&decide (0<=bestG (cfG ((m:Int),es,v) c.length) (mvG ((m:Int),es,v) c.length) (ballF m es) (tmG ((m:Int),es,v) c.length) (placeL (cfG ((m:Int),es,v) c.length) c) x))=true
  ·have hr:replyB ((m:Int),es,v) c x=((cfG ((m:Int),es,v) c.length).getD (bestG (cfG ((m:Int),es,v) c.length) (mvG ((m:Int),es,v) c.length) (ballF m es) (tmG ((m:Int),es,v) c.length) (placeL (cfG ((m:Int),es,v) c.length) c) x).toNat [],true,()):=by
    unfold replyB
    simp only [Int.toNat_natCast]
    rw [if_pos hrep]
   simp only [Bool.and_eq_true,decide_eq_true_eq,Bool.not_eq_true'] at hrep
   obtain ⟨⟨⟨_,hxb⟩,hh⟩,hb0⟩:=hrep
   obtain ⟨x,rfl,hx⟩:=nodeX hxb
   rw [p2] at hb0 hr
   have hfit:=board_fits (v:=v) (es:=es) m8 c3
   have hbf:okBall m (ballF m es):=ballF_ok m es
   have etm:tmG ((m:Int),es,v) c.length=timesG (cfG ((m:Int),es,v) c.length) (mvG ((m:Int),es,v) c.length) (ballF m es) m:=by
    unfold tmG
    simp only [Int.toNat_natCast]
   have hrc:=tm_rc ((m:Int),es,v) c.length
   simp only [Int.toNat_natCast] at hrc
   obtain ⟨t1,t2⟩:=rcB_parts hrc
   obtain ⟨ts1,ts2⟩:=tm_small (es:=es) (v:=v) m8 c3
   have hhigh:=tm_high ((m:Int),es,v) c.length
   obtain ⟨b,eb,hbl⟩:=best_rng hfit p1 hb0
   have hbt:=best_time m8 hfit hbf p1 hx (by rw [p3];exact hh) (by rw [<- etm];exact hb0)
   rw [<- etm,eb] at hbt
   rw [eb,Int.toNat_natCast] at hr
   -- the reply's place
   have hcf:cfG ((m:Int),es,v) c.length=confL m c.length:=by unfold cfG;rw [Int.toNat_natCast]
   have hrm:(cfG ((m:Int),es,v) c.length).getD b []∈cfG ((m:Int),es,v) c.length:=by
    rw [List.getD_eq_getElem?_getD,List.getElem?_eq_getElem hbl]
    exact List.getElem_mem hbl
   have hplace:∀l,l∈cfG ((m:Int),es,v) c.length -> ∀i,placeL (cfG ((m:Int),es,v) c.length) l=(i:Nat)->i<(cfG ((m:Int),es,v) c.length).length/\(cfG ((m:Int),es,v) c.length).getD i []=l:=fun l hl i hi=>by
    obtain ⟨j,j1,j2,j3⟩:=place_at hl
    have:i=j:=by omega
    subst this
    exact ⟨j1,j3⟩
   have hpb:placeL (cfG ((m:Int),es,v) c.length) ((cfG ((m:Int),es,v) c.length).getD b [])=(b:Int):=by
    obtain ⟨j,j1,j2,j3⟩:=place_at hrm
    have:j=b:=by
     rw [hcf] at j1 j3 hbl
     exact conf_inj j1 hbl j3
    rw [j2,this]
   -- the reply is a move
   have hmov:(cfG ((m:Int),es,v) c.length).getD b []∈movesL (ballF m es) c:=by
    have hmem:(b:Int)∈(mvG ((m:Int),es,v) c.length).getD p []:=by
     unfold bestG at eb
     rw [Int.toNat_natCast] at eb
     rcases bestP_mem (fun d=>afterG (cfG ((m:Int),es,v) c.length) (ballF m es) (tmG ((m:Int),es,v) c.length) d (x:Int)) ((mvG ((m:Int),es,v) c.length).getD p []) (-1) 0 with h | h
     ·rw [eb] at h;omega
     ·rw [eb] at h;exact h
    have emv:(mvG ((m:Int),es,v) c.length).getD p []=(movesL (ballF m es) c).map (placeL (cfG ((m:Int),es,v) c.length)):=by
     unfold mvG movesI
     simp only [Int.toNat_natCast]
     rw [List.getD_eq_getElem?_getD,List.getElem?_map,List.getElem?_eq_getElem p1]
     have e:(cfG ((m:Int),es,v) c.length)[p]=c:=by
      rw [List.getD_eq_getElem?_getD,List.getElem?_eq_getElem p1] at p3
      exact p3
     simp only [Option.map_some,Option.getD_some,e]
    rw [emv] at hmem
    obtain ⟨l,hl,hlp⟩:=List.mem_map.1 hmem
    have hlc:l∈cfG ((m:Int),es,v) c.length:=by
     rw [hcf]
     exact moves_mem (fun a _=>by have:=ballF_len m es a;omega) (fun a _=>ballF_in es a) hl
    obtain ⟨_,j2⟩:=hplace l hlc b hlp
    rw [j2]
    exact hl
   have eS:(stepsB ((m:Int),es,v) c).1=movesL (ballF m es) c:=by
    unfold stepsB
    simp only [hme,if_true,Int.toNat_natCast]
   have hfld:fieldB ((m:Int),es,v) (c.length:Int)=true:=by
    unfold meetB at hme
    rw [Bool.and_eq_true] at hme
    exact hme.1
   have eL:listsB ((m:Int),es,v) (c.length:Int)=(cfG ((m:Int),es,v) c.length,true,()):=by
    unfold listsB
    simp only [hfld,if_true,Int.toNat_natCast,hcf]
   have eC:capB ((m:Int),es,v) (c.length:Int)=(tmG ((m:Int),es,v) c.length,true,()):=by
    unfold capB
    simp only [hfld,if_true,Int.toNat_natCast]
   have okC:okLL (cfG ((m:Int),es,v) c.length)=true:=by rw [hcf];exact okLL_conf m8 c3
   have okTm:okLL (tmG ((m:Int),es,v) c.length)=true:=okLL_8 ts1 ts2
   have rX:∀(T:List (List Int)) (l:List Int),okLL T=true->G_rIndex (T,l,())=some (placeL T l,()):=fun T l h=>by unfold G_rIndex;simp only [h,if_true]
   obtain ⟨q,q1,q2,q3⟩:=place_at hmov
   have okM:okLL (movesL (ballF m es) c)=true:=by rw [<- eS];exact es2
   have nn:∀i:Nat,decide ((i:Int)<0)=false:=fun i=>decide_eq_false (by omega)
   have okRep:okL ((cfG ((m:Int),es,v) c.length).getD b [])=true:=by rw [hr] at okR;exact okR
   have hHas:G_rHas ((cfG ((m:Int),es,v) c.length).getD b [],(x:Int),())=some (hasL ((cfG ((m:Int),es,v) c.length).getD b []) (x:Int),()):=by unfold G_rHas;simp only [okRep,if_true]
   have ip:idxIn (p:Int) (tmG ((m:Int),es,v) c.length).length=true:=idxIn_nat (by omega)
   have ib:idxIn (b:Int) (tmG ((m:Int),es,v) c.length).length=true:=idxIn_nat (by omega)
   have ixp:idxIn (x:Int) (at_ K_Si (tmG ((m:Int),es,v) c.length) p).length=true:=idxIn_nat (by rw [t2 p p1];exact hx)
   have ixb:idxIn (x:Int) (at_ K_Si (tmG ((m:Int),es,v) c.length) b).length=true:=idxIn_nat (by rw [t2 b hbl];exact hx)
   simp only [hr,Bool.not_true,Bool.false_eq_true,if_false,implCL ho,specCL ho,eL,implCT ho,specCT ho,eC,Option.bind_some,rT _ okC,rT _ okTm,rX _ _ okC,p2,hpb,nn,eS,rX _ _ okM,q2,hHas]
   cases hin:hasL ((cfG ((m:Int),es,v) c.length).getD b []) (x:Int) with
   | true=>
    have haf:afterG (cfG ((m:Int),es,v) c.length) (ballF m es) (tmG ((m:Int),es,v) c.length) (b:Int) (x:Int)=0:=by
     unfold afterG
     rw [Int.toNat_natCast,if_pos hin]
    have h1:tab2 (tmG ((m:Int),es,v) c.length) (p:Int) (x:Int)=1:=by rw [hbt.2,haf];rfl
    simp only [if_true,ip,ixp,Int.toNat_natCast,tab2_rc hrc p1 hx,h1,beq_self_eq_true]
   | false=>
    have haf:afterG (cfG ((m:Int),es,v) c.length) (ballF m es) (tmG ((m:Int),es,v) c.length) (b:Int) (x:Int)=worstL (tab2 (tmG ((m:Int),es,v) c.length) (b:Int)) (ballF m es (x:Int)) 0:=by
     unfold afterG
     rw [Int.toNat_natCast,if_neg (by rw [hin];simp)]
    rw [haf] at hbt
    obtain ⟨g1,_⟩:=graphB_edges hg
    obtain ⟨z1,z2,z3⟩:=most_around (n:=m) (es:=es) (T:=tab2 (tmG ((m:Int),es,v) c.length) (b:Int)) hx hbt.1 (setF (fun y=>nearI es (x:Int) (y:Int)) m 0) (fun z=>by
     constructor
     ·intro hz
      obtain ⟨y,_,hy,h,rfl⟩:=setF_mem.1 hz
      refine ⟨setF_mem.2 ⟨y,Nat.zero_le _,hy,by rw [h,Bool.true_or],rfl⟩,fun e => ?_⟩
      rw [e,near_irr g1] at h
      cases h
     ·rintro ⟨hz,hne⟩
      obtain ⟨y,_,hy,h,rfl⟩:=setF_mem.1 hz
      rw [Bool.or_eq_true,decide_eq_true_eq] at h
      rcases h with h | h
      ·exact setF_mem.2 ⟨y,Nat.zero_le _,hy,h,rfl⟩
      ·exact absurd h hne)
    have hlp:=cp_l0 100 m8 hrc (x:Int) (p:Int) hbl (setF (fun y=>nearI es (x:Int) (y:Int)) m 0) (Nat.le_trans setF_len m8) (fun z hz=>by
     obtain ⟨y,_,hy,_,rfl⟩:=setF_mem.1 hz
     exact ⟨y,by omega,rfl⟩) z1 (setF (fun y=>nearI es (x:Int) (y:Int)) m 0).length 0 100 (tab2 (tmG ((m:Int),es,v) c.length) (b:Int) (x:Int)) (by omega) (by have:(setF (fun y=>nearI es (x:Int) (y:Int)) m 0).length<=m:=setF_len;omega)
    simp only [Int.natCast_zero,List.drop_zero,z3] at hlp
    have hle:=high_tab2 hrc hhigh p1 hx
    have hw:IntKind.wrap .i64 (worstL (tab2 (tmG ((m:Int),es,v) c.length) (b:Int)) (ballF m es (x:Int)) 0+1)=worstL (tab2 (tmG ((m:Int),es,v) c.length) (b:Int)) (ballF m es (x:Int)) 0+1:=wrap_in _ (by omega) (by omega)
    have hge:decide (tab2 (tmG ((m:Int),es,v) c.length) (b:Int) (x:Int)>=(0:Int))=true:=decide_eq_true z2
    simp only [Bool.false_eq_true,if_false,implNB hg ho hx,Option.bind_some,Bool.not_true,ib,ixb,if_true,Int.toNat_natCast,tab2_rc hrc hbl hx,hlp,hge,ip,ixp,tab2_rc hrc p1 hx,hw,hbt.2,beq_self_eq_true]
  ·have hr:(replyB ((m:Int),es,v) c x).2.1=false:=by
    unfold replyB
    simp only [Int.toNat_natCast]
    rw [if_neg hrep]
   simp only [hr,Bool.not_false,if_true]
theorem lawCopPlay_lim (d:List Int×Unit) (r:Bool×Unit) (h:G_law d=some r):∃N,F_laws_FnCopPlay N d=some r:=by
 obtain ⟨code,u⟩:=d
 unfold G_law at h
 split at h
 ·rename_i hh
  cases Option.some.inj h
  simp only [Bool.and_eq_true,List.all_eq_true] at hh
  have hb:∀x∈code,0<=x/\x<=255:=fun x hx=>by
   have:=hh.1 x hx
   unfold inB at this
   simpa using this
  cases hbig:(g_laws_rBig (code,())).1 with
  | true=>
   refine ⟨0,?_⟩
   unfold F_laws_FnCopPlay
   simp only [hbig,if_true]
  | false=>
   obtain ⟨⟨⟨n,es,v⟩,c,x,r,w⟩,e1,e2,e3⟩:=drawPlay_ok (u:=()) hb
   exact ⟨100,lawPlay_of hbig e1 (okL_of (by simp only at e2;omega)) (okL_of (by simp only at e3;omega))⟩
 ·cases h
end Go.V.W
namespace Go.V.W
open Go.Proofs
structure Sts (m cfn:Nat) (st:List St):Prop where
 at_:∀j (h:j<st.length),(∃c:Nat,st[j].1=(c:Int)/\c<cfn)/\(∃p:Nat->Bool,st[j].2.1=setF p m 0) /\ -1<=st[j].2.2.1/\st[j].2.2.1<(j:Int)
theorem Sts.push {m cfn:Nat} {st:List St} (h:Sts m cfn st) {c:Nat} (hc:c<cfn) (p:Nat->Bool) {b:Int} (h1 : -1<=b) (h2:b<(st.length:Int)):Sts m cfn (st++[((c:Int),setF p m 0,b,())]):=by
 refine ⟨fun j hj => ?_⟩
 by_cases hl:j<st.length
 ·rw [List.getElem_append_left hl]
  exact h.at_ j hl
 ·have e:j=st.length:=by simp at hj;omega
  subst e
  rw [List.getElem_append_right (by omega)]
  simp only [Nat.sub_self,List.getElem_cons_zero]
  exact ⟨⟨c,rfl,hc⟩,⟨p,rfl⟩,h1,h2⟩
def cntT (l:List Bool):Nat:=l.foldr (fun b s=>(if b=true then 1 else 0)+s) 0
structure ShI (m cfn:Nat) (st:List St) (sn:List Bool):Prop where
 sts:Sts m cfn st
 len:sn.length=cfn*2 ^ m
 cnt:st.length<=cfn+cntT sn
end Go.V.W
namespace Go.V.W
open Go.Proofs
def GWalk (g:Gr) (w:List (List Int)):Prop:=g.2.1.length<=200/\w.length<=60 /\ ∀l∈w,l.length<=10
theorem GWalk.ok {g:Gr} {w:List (List Int)} (h:GWalk g w):okL g.2.1=true/\okLL w=true:=⟨okL_of (by have:=h.1;omega),okLL_small (by have:=h.2.1;omega) (List.all_eq_true.2 fun l hl=>decide_eq_true (by have:=h.2.2 l hl;omega))⟩
end Go.V.W
namespace Go.V.W
open Go.Proofs
structure LogIs (d p:List UInt8) (c:Int):Prop where
 size:d.length+p.length<=30000
 all:(openL 60 0 (d++p)).2=(d++p).length
 durable:(openL 60 0 d).2=d.length
 count:((openL 60 0 (d++p)).1.length:Int)=c
end Go.V.W
namespace Go.V.W
open Go.Proofs
def okR (w:Wk):Prop:=w.1.2.1.length<=1048576/\w.2.2.2.1.length<=1048576
end Go.V.W
namespace Go.V.W
open Go.Proofs Go.Shelf Go.RowKit
-- import Derived.Shelf.Lays
-- import Derived.Shelf.LaysM
-- import Derived.Test.XvLib3
-- import Derived.Shelf.SortM.Plain
-- import Derived.Shelf.SortM.SortNone
-- import Derived.Shelf.SlSortCmp.NoneTotal
def layg5_ren:Go.Shelf.Ren:=
{
  f:=fun x=>
    match x with
    | 5=>221
    | 8=>252
    | 7=>251
    | 19=>268
    | 20=>269
    | 10=>260
    | 11=>261
    | 12=>262
    | 13=>263
    | 14=>264
    | 15=>265
    | 16=>250
    | 17=>266
    | 18=>267
    | 30=>280
    | 31=>281
    | 32=>282
    | 33=>283
    | 34=>284
    | 35=>258
    | 40=>288
    | n=>n,
  t:=fun x=>
    match x with
    | 23=>36
    | 25=>3
    | 3=>3
    | 32=>192
    | 22=>36
    | 0=>0
    | 44=>199
    | 46=>94
    | 4=>4
    | 36=>206
    | 35=>205
    | 41=>39
    | 5=>5
    | 9=>9
    | 53=>222
    | 57=>226
    | 63=>230
    | 64=>231
    | n=>n,
  g:=fun x=>
    x }
set_option maxRecDepth 1000000 in
theorem layg5:Go.Proofs.SlLaysM.n5 Go.Proofs.Tryz.prog layg5_ren:=
{ mixed:=by kernel_rfl,
  f5:=⟨Go.Proofs.Tryz.f221.name,of_decide_eq_true (by kernel_rfl),(Go.Proofs.Tryz.func221).trans (congrArg some (by kernel_rfl))⟩,
  f7:=⟨Go.Proofs.Tryz.f251.name,of_decide_eq_true (by kernel_rfl),(Go.Proofs.Tryz.func251).trans (congrArg some (by kernel_rfl))⟩,
  f8:=(Go.Proofs.Tryz.func252).trans (congrArg some (by kernel_rfl)),
  f10:=⟨Go.Proofs.Tryz.f260.name,of_decide_eq_true (by kernel_rfl),(Go.Proofs.Tryz.func260).trans (congrArg some (by kernel_rfl))⟩,
  f11:=⟨Go.Proofs.Tryz.f261.name,of_decide_eq_true (by kernel_rfl),(Go.Proofs.Tryz.func261).trans (congrArg some (by kernel_rfl))⟩,
  f12:=⟨Go.Proofs.Tryz.f262.name,of_decide_eq_true (by kernel_rfl),(Go.Proofs.Tryz.func262).trans (congrArg some (by kernel_rfl))⟩,
  f13:=⟨Go.Proofs.Tryz.f263.name,of_decide_eq_true (by kernel_rfl),(Go.Proofs.Tryz.func263).trans (congrArg some (by kernel_rfl))⟩,
  f14:=⟨Go.Proofs.Tryz.f264.name,of_decide_eq_true (by kernel_rfl),(Go.Proofs.Tryz.func264).trans (congrArg some (by kernel_rfl))⟩,
  f15:=⟨Go.Proofs.Tryz.f265.name,of_decide_eq_true (by kernel_rfl),(Go.Proofs.Tryz.func265).trans (congrArg some (by kernel_rfl))⟩,
  f16:=⟨Go.Proofs.Tryz.f250.name,of_decide_eq_true (by kernel_rfl),(Go.Proofs.Tryz.func250).trans (congrArg some (by kernel_rfl))⟩,
  f17:=⟨Go.Proofs.Tryz.f266.name,of_decide_eq_true (by kernel_rfl),(Go.Proofs.Tryz.func266).trans (congrArg some (by kernel_rfl))⟩,
  f18:=⟨Go.Proofs.Tryz.f267.name,of_decide_eq_true (by kernel_rfl),(Go.Proofs.Tryz.func267).trans (congrArg some (by kernel_rfl))⟩,
  f19:=(Go.Proofs.Tryz.func268).trans (congrArg some (by kernel_rfl)),
  f20:=(Go.Proofs.Tryz.func269).trans (congrArg some (by kernel_rfl)),
  f30:=⟨Go.Proofs.Tryz.f280.name,of_decide_eq_true (by kernel_rfl),(Go.Proofs.Tryz.func280).trans (congrArg some (by kernel_rfl))⟩,
  f31:=(Go.Proofs.Tryz.func281).trans (congrArg some (by kernel_rfl)),
  f32:=(Go.Proofs.Tryz.func282).trans (congrArg some (by kernel_rfl)),
  f33:=⟨Go.Proofs.Tryz.f283.name,of_decide_eq_true (by kernel_rfl),(Go.Proofs.Tryz.func283).trans (congrArg some (by kernel_rfl))⟩,
  f34:=⟨Go.Proofs.Tryz.f284.name,of_decide_eq_true (by kernel_rfl),(Go.Proofs.Tryz.func284).trans (congrArg some (by kernel_rfl))⟩,
  f35:=⟨Go.Proofs.Tryz.f258.name,of_decide_eq_true (by kernel_rfl),(Go.Proofs.Tryz.func258).trans (congrArg some (by kernel_rfl))⟩,
  f40:=⟨Go.Proofs.Tryz.f288.name,of_decide_eq_true (by kernel_rfl),(Go.Proofs.Tryz.func288).trans (congrArg some (by kernel_rfl))⟩,
  t0:=Go.Proofs.Tryz.underlying0,
  a0:=Go.Proofs.Tryz.isAgg0,
  z0:=Go.Proofs.Tryz.sizeOf0,
  v0:=Go.Proofs.Tryz.zeroValue0,
  t3:=Go.Proofs.Tryz.underlying3,
  a3:=Go.Proofs.Tryz.isAgg3,
  z3:=Go.Proofs.Tryz.sizeOf3,
  v3:=Go.Proofs.Tryz.zeroValue3,
  t4:=Go.Proofs.Tryz.underlying4,
  a4:=Go.Proofs.Tryz.isAgg4,
  z4:=Go.Proofs.Tryz.sizeOf4,
  v4:=Go.Proofs.Tryz.zeroValue4,
  t5:=Go.Proofs.Tryz.underlying5,
  a5:=Go.Proofs.Tryz.isAgg5,
  z5:=Go.Proofs.Tryz.sizeOf5,
  v5:=Go.Proofs.Tryz.zeroValue5,
  t9:=Go.Proofs.Tryz.underlying9,
  a9:=Go.Proofs.Tryz.isAgg9,
  z9:=Go.Proofs.Tryz.sizeOf9,
  v9:=Go.Proofs.Tryz.zeroValue9,
  t22:=Go.Proofs.Tryz.underlying36,
  a22:=Go.Proofs.Tryz.isAgg36,
  z22:=Go.Proofs.Tryz.sizeOf36,
  v22:=Go.Proofs.Tryz.zeroValue36,
  t23:=Go.Proofs.Tryz.underlying36,
  a23:=Go.Proofs.Tryz.isAgg36,
  z23:=Go.Proofs.Tryz.sizeOf36,
  v23:=Go.Proofs.Tryz.zeroValue36,
  t25:=Go.Proofs.Tryz.underlying3,
  a25:=Go.Proofs.Tryz.isAgg3,
  z25:=Go.Proofs.Tryz.sizeOf3,
  v25:=Go.Proofs.Tryz.zeroValue3,
  t32:=Go.Proofs.Tryz.underlying192,
  a32:=Go.Proofs.Tryz.isAgg192,
  z32:=Go.Proofs.Tryz.sizeOf192,
  v32:=Go.Proofs.Tryz.zeroValue192,
  t35:=Go.Proofs.Tryz.underlying205,
  a35:=Go.Proofs.Tryz.isAgg205,
  z35:=Go.Proofs.Tryz.sizeOf205,
  v35:=Go.Proofs.Tryz.zeroValue205,
  t36:=Go.Proofs.Tryz.underlying206,
  a36:=Go.Proofs.Tryz.isAgg206,
  z36:=Go.Proofs.Tryz.sizeOf206,
  v36:=Go.Proofs.Tryz.zeroValue206,
  t41:=Go.Proofs.Tryz.underlying39,
  a41:=Go.Proofs.Tryz.isAgg39,
  z41:=Go.Proofs.Tryz.sizeOf39,
  v41:=Go.Proofs.Tryz.zeroValue39,
  t44:=Go.Proofs.Tryz.underlying199,
  a44:=Go.Proofs.Tryz.isAgg199,
  z44:=Go.Proofs.Tryz.sizeOf199,
  v44:=Go.Proofs.Tryz.zeroValue199,
  t46:=Go.Proofs.Tryz.underlying94,
  a46:=Go.Proofs.Tryz.isAgg94,
  z46:=Go.Proofs.Tryz.sizeOf94,
  v46:=Go.Proofs.Tryz.zeroValue94,
  t53:=Go.Proofs.Tryz.underlying222,
  a53:=Go.Proofs.Tryz.isAgg222,
  z53:=Go.Proofs.Tryz.sizeOf222,
  v53:=Go.Proofs.Tryz.zeroValue222,
  t57:=Go.Proofs.Tryz.underlying226,
  a57:=Go.Proofs.Tryz.isAgg226,
  z57:=Go.Proofs.Tryz.sizeOf226,
  v57:=Go.Proofs.Tryz.zeroValue226,
  t63:=Go.Proofs.Tryz.underlying230,
  a63:=Go.Proofs.Tryz.isAgg230,
  z63:=Go.Proofs.Tryz.sizeOf230,
  v63:=Go.Proofs.Tryz.zeroValue230,
  t64:=Go.Proofs.Tryz.underlying231,
  a64:=Go.Proofs.Tryz.isAgg231,
  z64:=Go.Proofs.Tryz.sizeOf231,
  v64:=Go.Proofs.Tryz.zeroValue231 }
def layg6_ren:Go.Shelf.Ren:=
{
  f:=fun x=>
    match x with
    | 6=>222
    | 15=>252
    | 14=>253
    | 28=>268
    | 29=>269
    | 20=>270
    | 21=>271
    | 22=>272
    | 23=>273
    | 24=>274
    | 25=>275
    | 26=>276
    | 27=>277
    | 46=>285
    | 47=>281
    | 48=>282
    | 49=>286
    | 50=>287
    | 57=>289
    | n=>n,
  t:=fun x=>
    match x with
    | 22=>27
    | 24=>36
    | 25=>167
    | 3=>3
    | 39=>192
    | 0=>0
    | 53=>199
    | 55=>94
    | 4=>4
    | 46=>206
    | 45=>205
    | 50=>39
    | 5=>5
    | 9=>9
    | 66=>222
    | 70=>226
    | 76=>230
    | 77=>231
    | n=>n,
  g:=fun x=>
    x }
set_option maxRecDepth 1000000 in
theorem layg6:Go.Proofs.SlLaysF.n6 Go.Proofs.Tryz.prog layg6_ren:=
{ mixed:=by kernel_rfl,
  f6:=⟨Go.Proofs.Tryz.f222.name,of_decide_eq_true (by kernel_rfl),(Go.Proofs.Tryz.func222).trans (congrArg some (by kernel_rfl))⟩,
  f14:=⟨Go.Proofs.Tryz.f253.name,of_decide_eq_true (by kernel_rfl),(Go.Proofs.Tryz.func253).trans (congrArg some (by kernel_rfl))⟩,
  f15:=(Go.Proofs.Tryz.func252).trans (congrArg some (by kernel_rfl)),
  f20:=⟨Go.Proofs.Tryz.f270.name,of_decide_eq_true (by kernel_rfl),(Go.Proofs.Tryz.func270).trans (congrArg some (by kernel_rfl))⟩,
  f21:=⟨Go.Proofs.Tryz.f271.name,of_decide_eq_true (by kernel_rfl),(Go.Proofs.Tryz.func271).trans (congrArg some (by kernel_rfl))⟩,
  f22:=⟨Go.Proofs.Tryz.f272.name,of_decide_eq_true (by kernel_rfl),(Go.Proofs.Tryz.func272).trans (congrArg some (by kernel_rfl))⟩,
  f23:=⟨Go.Proofs.Tryz.f273.name,of_decide_eq_true (by kernel_rfl),(Go.Proofs.Tryz.func273).trans (congrArg some (by kernel_rfl))⟩,
  f24:=⟨Go.Proofs.Tryz.f274.name,of_decide_eq_true (by kernel_rfl),(Go.Proofs.Tryz.func274).trans (congrArg some (by kernel_rfl))⟩,
  f25:=⟨Go.Proofs.Tryz.f275.name,of_decide_eq_true (by kernel_rfl),(Go.Proofs.Tryz.func275).trans (congrArg some (by kernel_rfl))⟩,
  f26:=⟨Go.Proofs.Tryz.f276.name,of_decide_eq_true (by kernel_rfl),(Go.Proofs.Tryz.func276).trans (congrArg some (by kernel_rfl))⟩,
  f27:=⟨Go.Proofs.Tryz.f277.name,of_decide_eq_true (by kernel_rfl),(Go.Proofs.Tryz.func277).trans (congrArg some (by kernel_rfl))⟩,
  f28:=(Go.Proofs.Tryz.func268).trans (congrArg some (by kernel_rfl)),
  f29:=(Go.Proofs.Tryz.func269).trans (congrArg some (by kernel_rfl)),
  f46:=⟨Go.Proofs.Tryz.f285.name,of_decide_eq_true (by kernel_rfl),(Go.Proofs.Tryz.func285).trans (congrArg some (by kernel_rfl))⟩,
  f47:=(Go.Proofs.Tryz.func281).trans (congrArg some (by kernel_rfl)),
  f48:=(Go.Proofs.Tryz.func282).trans (congrArg some (by kernel_rfl)),
  f49:=⟨Go.Proofs.Tryz.f286.name,of_decide_eq_true (by kernel_rfl),(Go.Proofs.Tryz.func286).trans (congrArg some (by kernel_rfl))⟩,
  f50:=⟨Go.Proofs.Tryz.f287.name,of_decide_eq_true (by kernel_rfl),(Go.Proofs.Tryz.func287).trans (congrArg some (by kernel_rfl))⟩,
  f57:=⟨Go.Proofs.Tryz.f289.name,of_decide_eq_true (by kernel_rfl),(Go.Proofs.Tryz.func289).trans (congrArg some (by kernel_rfl))⟩,
  t0:=Go.Proofs.Tryz.underlying0,
  a0:=Go.Proofs.Tryz.isAgg0,
  z0:=Go.Proofs.Tryz.sizeOf0,
  v0:=Go.Proofs.Tryz.zeroValue0,
  t3:=Go.Proofs.Tryz.underlying3,
  a3:=Go.Proofs.Tryz.isAgg3,
  z3:=Go.Proofs.Tryz.sizeOf3,
  v3:=Go.Proofs.Tryz.zeroValue3,
  t4:=Go.Proofs.Tryz.underlying4,
  a4:=Go.Proofs.Tryz.isAgg4,
  z4:=Go.Proofs.Tryz.sizeOf4,
  v4:=Go.Proofs.Tryz.zeroValue4,
  t5:=Go.Proofs.Tryz.underlying5,
  a5:=Go.Proofs.Tryz.isAgg5,
  z5:=Go.Proofs.Tryz.sizeOf5,
  v5:=Go.Proofs.Tryz.zeroValue5,
  t9:=Go.Proofs.Tryz.underlying9,
  a9:=Go.Proofs.Tryz.isAgg9,
  z9:=Go.Proofs.Tryz.sizeOf9,
  v9:=Go.Proofs.Tryz.zeroValue9,
  t22:=Go.Proofs.Tryz.underlying27,
  a22:=Go.Proofs.Tryz.isAgg27,
  z22:=Go.Proofs.Tryz.sizeOf27,
  v22:=Go.Proofs.Tryz.zeroValue27,
  a24:=Go.Proofs.Tryz.isAgg36,
  z24:=Go.Proofs.Tryz.sizeOf36,
  t25:=Go.Proofs.Tryz.underlying167,
  a25:=Go.Proofs.Tryz.isAgg167,
  z25:=Go.Proofs.Tryz.sizeOf167,
  v25:=Go.Proofs.Tryz.zeroValue167,
  t39:=Go.Proofs.Tryz.underlying192,
  a39:=Go.Proofs.Tryz.isAgg192,
  z39:=Go.Proofs.Tryz.sizeOf192,
  v39:=Go.Proofs.Tryz.zeroValue192,
  t45:=Go.Proofs.Tryz.underlying205,
  a45:=Go.Proofs.Tryz.isAgg205,
  z45:=Go.Proofs.Tryz.sizeOf205,
  v45:=Go.Proofs.Tryz.zeroValue205,
  t46:=Go.Proofs.Tryz.underlying206,
  a46:=Go.Proofs.Tryz.isAgg206,
  z46:=Go.Proofs.Tryz.sizeOf206,
  v46:=Go.Proofs.Tryz.zeroValue206,
  t50:=Go.Proofs.Tryz.underlying39,
  a50:=Go.Proofs.Tryz.isAgg39,
  z50:=Go.Proofs.Tryz.sizeOf39,
  v50:=Go.Proofs.Tryz.zeroValue39,
  t53:=Go.Proofs.Tryz.underlying199,
  a53:=Go.Proofs.Tryz.isAgg199,
  z53:=Go.Proofs.Tryz.sizeOf199,
  v53:=Go.Proofs.Tryz.zeroValue199,
  t55:=Go.Proofs.Tryz.underlying94,
  a55:=Go.Proofs.Tryz.isAgg94,
  z55:=Go.Proofs.Tryz.sizeOf94,
  v55:=Go.Proofs.Tryz.zeroValue94,
  t66:=Go.Proofs.Tryz.underlying222,
  a66:=Go.Proofs.Tryz.isAgg222,
  z66:=Go.Proofs.Tryz.sizeOf222,
  v66:=Go.Proofs.Tryz.zeroValue222,
  t70:=Go.Proofs.Tryz.underlying226,
  a70:=Go.Proofs.Tryz.isAgg226,
  z70:=Go.Proofs.Tryz.sizeOf226,
  v70:=Go.Proofs.Tryz.zeroValue226,
  t76:=Go.Proofs.Tryz.underlying230,
  a76:=Go.Proofs.Tryz.isAgg230,
  z76:=Go.Proofs.Tryz.sizeOf230,
  v76:=Go.Proofs.Tryz.zeroValue230,
  t77:=Go.Proofs.Tryz.underlying231,
  a77:=Go.Proofs.Tryz.isAgg231,
  z77:=Go.Proofs.Tryz.sizeOf231,
  v77:=Go.Proofs.Tryz.zeroValue231 }
theorem tab:TabOk Tryz.prog (assoc tks) (assoc ars):=tab_of (by kernel_rfl)
theorem mixed:Tryz.prog.follows .mixedOrders=true:=by kernel_rfl
theorem C_q2q:Contract Tryz.prog 222 S_q2q:=
  con_sortF (enters_of Tryz.func222 (by kernel_rfl) rfl) (fun w v1 v2 xs ys h1 h2 l1 l2=>cmpH h1 h2 l1 l2) (fun n enc cf blk off cap w h1 hO hcmp hH hb hs=>Any.slices_SortFunc layg6 enc h1 cf hO 199 #[] blk off cap (idA n) w (enters_of Tryz.func199 (by kernel_rfl) rfl) hcmp hH hb hs) (AnyF.slices_SortFunc_none { layg6 with })
theorem C_q11q:Contract Tryz.prog 221 S_q11q:=
  con_sortI (enters_of Tryz.func221 (by kernel_rfl) rfl) (fun blk off cap zs w h1 h2 h3=>AnyM.slices_Sort_int layg5 blk off cap zs w h1 h2 h3) (fun p cap w=>AnyM.slices_Sort_int_none layg5 p cap w)
theorem C_laws_rBig_raw (N:Nat):Contract Tryz.prog 9 ⟨[(K_Su8,false)],[.bool],true,F_laws_rBig N⟩:=
  have E:Env Tryz.prog Γ_laws_rBig:=env_of tab trivial
  con_of (body:=bodyOf Tryz.f9) (Pc:=[]) E rfl mixed Tryz.func9 (by kernel_rfl) (by kernel_rfl) (by kernel_rfl) (by kernel_rfl) (fun A hA=>trivial) (fun _=>by kernel_rfl)
theorem C_laws_rBig:Contract Tryz.prog 9 S_laws_rBig:=Contract.less (fun N:Nat=>F_laws_rBig N) C_laws_rBig_raw (fun d r h=>⟨0,(F_laws_rBig_tot 0 d).trans h⟩)
theorem C_q36q_raw (N:Nat):Contract Tryz.prog 187 ⟨[(K_BPSu8iu64q,true)],[I],true,F_q36q N⟩:=
  have E:Env Tryz.prog Γ_q36q:=env_of tab trivial
  con_of (body:=bodyOf Tryz.f187) (Pc:=[]) E rfl mixed Tryz.func187 (by kernel_rfl) (by kernel_rfl) (by kernel_rfl) (by kernel_rfl) (fun A hA=>trivial) (fun _=>by kernel_rfl)
theorem C_q36q:Contract Tryz.prog 187 S_q36q:=C_q36q_raw 0
theorem C_q43q_raw (N:Nat):Contract Tryz.prog 91 ⟨[(K_BPSu8iu64q,true),(I,false)],[I],true,F_q43q N⟩:=
  have E:Env Tryz.prog Γ_q43q:=env_of tab ⟨C_q36q,trivial⟩
  con_of (body:=bodyOf Tryz.f91) (Pc:=[]) E rfl mixed Tryz.func91 (by kernel_rfl) (by kernel_rfl) (by kernel_rfl) (by kernel_rfl) (fun A hA=>trivial) (fun _=>by kernel_rfl)
theorem C_q43q:Contract Tryz.prog 91 S_q43q:=C_q43q_raw 0
theorem C_q46q_raw (N:Nat):Contract Tryz.prog 89 ⟨[(K_BPSu8iu64q,true),(I,false)],[.bool],true,F_q46q N⟩:=
  have E:Env Tryz.prog Γ_q46q:=env_of tab ⟨C_q43q,trivial⟩
  con_of (body:=bodyOf Tryz.f89) (Pc:=[]) E rfl mixed Tryz.func89 (by kernel_rfl) (by kernel_rfl) (by kernel_rfl) (by kernel_rfl) (fun A hA=>trivial) (fun _=>by kernel_rfl)
theorem C_q46q:Contract Tryz.prog 89 S_q46q:=C_q46q_raw 0
theorem C_q30q_raw (N:Nat):Contract Tryz.prog 133 ⟨[(K_BPSu8iu64q,true),(K_Si,false)],[I],true,F_q30q N⟩:=
  have E:Env Tryz.prog Γ_q30q:=env_of tab ⟨C_q43q,trivial⟩
  con_of (body:=bodyOf Tryz.f133) (Pc:=[]) E rfl mixed Tryz.func133 (by kernel_rfl) (by kernel_rfl) (by kernel_rfl) (by kernel_rfl) (fun A hA=>trivial) (fun _=>by kernel_rfl)
theorem C_q30q:Contract Tryz.prog 133 S_q30q:=C_q30q_raw 0
theorem C_q63q_raw (N:Nat):Contract Tryz.prog 238 ⟨[(I,false),(I,false)],[I],true,F_q63q N⟩:=
  have E:Env Tryz.prog Γ_q63q:=env_of tab trivial
  con_of (body:=bodyOf Tryz.f238) (Pc:=[]) E rfl mixed Tryz.func238 (by kernel_rfl) (by kernel_rfl) (by kernel_rfl) (by kernel_rfl) (fun A hA=>trivial) (fun _=>by kernel_rfl)
theorem C_q63q:Contract Tryz.prog 238 S_q63q:=Contract.less (fun N:Nat=>F_q63q N) C_q63q_raw (fun d r h=>⟨0,(F_q63q_tot 0 d).trans h⟩)
theorem C_q77q_raw (N:Nat):Contract Tryz.prog 185 ⟨[(I,false)],[K_PiSPiiqq],true,F_q77q N⟩:=
  have E:Env Tryz.prog Γ_q77q:=env_of tab trivial
  con_of (body:=bodyOf Tryz.f185) (Pc:=[(0,⟨q77q_l0_h,q77q_l0_o,q77q_l0 N N⟩)]) E rfl mixed Tryz.func185 (by kernel_rfl) (by kernel_rfl) (by kernel_rfl) (by kernel_rfl) (fun A hA=>⟨pc_of (body:=loopOf Tryz.f185 0) (inner:=[]) E mixed hA (by kernel_rfl) (by kernel_rfl) (by kernel_rfl) trivial (fun _=>rfl) (fun _ _=>by kernel_rfl) N,trivial⟩) (fun _=>by kernel_rfl)
theorem C_q77q:Contract Tryz.prog 185 S_q77q:=Contract.less (fun N:Nat=>F_q77q N) C_q77q_raw pickF_lim
theorem C_q57q_raw (N:Nat):Contract Tryz.prog 200 ⟨[(K_Piiq,false),(K_Piiq,false)],[.bool],true,F_q57q N⟩:=
  have E:Env Tryz.prog Γ_q57q:=env_of tab trivial
  con_of (body:=bodyOf Tryz.f200) (Pc:=[]) E rfl mixed Tryz.func200 (by kernel_rfl) (by kernel_rfl) (by kernel_rfl) (by kernel_rfl) (fun A hA=>trivial) (fun _=>by kernel_rfl)
theorem C_q57q:Contract Tryz.prog 200 S_q57q:=Contract.less (fun N:Nat=>F_q57q N) C_q57q_raw (fun d r h=>⟨0,(F_q57q_tot 0 d).trans h⟩)
theorem C_spec_l2Put_raw (N:Nat):Contract Tryz.prog 186 ⟨[(K_SPiiq,false),(K_Piiq,false)],[K_SPiiq],true,F_spec_l2Put N⟩:=
  have E:Env Tryz.prog Γ_spec_l2Put:=env_of tab ⟨C_q57q,trivial⟩
  con_of (body:=bodyOf Tryz.f186) (Pc:=[(0,⟨spec_l2Put_l0_h,spec_l2Put_l0_o,spec_l2Put_l0 N N⟩)]) E rfl mixed Tryz.func186 (by kernel_rfl) (by kernel_rfl) (by kernel_rfl) (by kernel_rfl) (fun A hA=>⟨pc_of (body:=loopOf Tryz.f186 0) (inner:=[]) E mixed hA (by kernel_rfl) (by kernel_rfl) (by kernel_rfl) trivial (fun _=>rfl) (fun _ _=>by kernel_rfl) N,trivial⟩) (fun _=>by kernel_rfl)
theorem C_spec_l2Put:Contract Tryz.prog 186 S_spec_l2Put:=Contract.less (fun N:Nat=>F_spec_l2Put N) C_spec_l2Put_raw l2Put_lim
theorem C_q65q_raw (N:Nat):Contract Tryz.prog 90 ⟨[(I,false)],[K_PiSPiiqq],true,F_q65q N⟩:=
  have E:Env Tryz.prog Γ_q65q:=env_of tab ⟨C_q77q,⟨C_spec_l2Put,trivial⟩⟩
  con_of (body:=bodyOf Tryz.f90) (Pc:=[]) E rfl mixed Tryz.func90 (by kernel_rfl) (by kernel_rfl) (by kernel_rfl) (by kernel_rfl) (fun A hA=>trivial) (fun _=>by kernel_rfl)
theorem C_q65q:Contract Tryz.prog 90 S_q65q:=C_q65q_raw 0
theorem C_q40q_raw (N:Nat):Contract Tryz.prog 239 ⟨[(I,false)],[K_PiSPiiqq],true,F_q40q N⟩:=
  have E:Env Tryz.prog Γ_q40q:=env_of tab trivial
  con_of (body:=bodyOf Tryz.f239) (Pc:=[(0,⟨q40q_l0_h,q40q_l0_o,q40q_l0 N N⟩)]) E rfl mixed Tryz.func239 (by kernel_rfl) (by kernel_rfl) (by kernel_rfl) (by kernel_rfl) (fun A hA=>⟨pc_of (body:=loopOf Tryz.f239 0) (inner:=[(2,⟨q40q_l2_h,q40q_l2_o,q40q_l2 N N⟩)]) E mixed hA (by kernel_rfl) (by kernel_rfl) (by kernel_rfl) ⟨pc_of (body:=loopOf Tryz.f239 2) (inner:=[]) E mixed hA (by kernel_rfl) (by kernel_rfl) (by kernel_rfl) trivial (fun _=>rfl) (fun _ _=>by kernel_rfl) N,trivial⟩ (fun _=>rfl) (fun _ _=>by kernel_rfl) N,trivial⟩) (fun _=>by kernel_rfl)
theorem C_q40q:Contract Tryz.prog 239 S_q40q:=Contract.less (fun N:Nat=>F_q40q N) C_q40q_raw pickF_lim
theorem C_q85q_raw (N:Nat):Contract Tryz.prog 201 ⟨[(I,false),(I,false)],[I],true,F_q85q N⟩:=
  have E:Env Tryz.prog Γ_q85q:=env_of tab trivial
  con_of (body:=bodyOf Tryz.f201) (Pc:=[]) E rfl mixed Tryz.func201 (by kernel_rfl) (by kernel_rfl) (by kernel_rfl) (by kernel_rfl) (fun A hA=>trivial) (fun _=>by kernel_rfl)
theorem C_q85q:Contract Tryz.prog 201 S_q85q:=Contract.less (fun N:Nat=>F_q85q N) C_q85q_raw (fun d r h=>⟨0,(F_q85q_tot 0 d).trans h⟩)
theorem C_q79q_raw (N:Nat):Contract Tryz.prog 240 ⟨[(K_PiSPiiqq,false),(I,false),(I,false)],[.bool],true,F_q79q N⟩:=
  have E:Env Tryz.prog Γ_q79q:=env_of tab trivial
  con_of (body:=bodyOf Tryz.f240) (Pc:=[(0,⟨q79q_l0_h,q79q_l0_o,q79q_l0 N N⟩)]) E rfl mixed Tryz.func240 (by kernel_rfl) (by kernel_rfl) (by kernel_rfl) (by kernel_rfl) (fun A hA=>⟨pc_of (body:=loopOf Tryz.f240 0) (inner:=[]) E mixed hA (by kernel_rfl) (by kernel_rfl) (by kernel_rfl) trivial (fun _=>rfl) (fun _ _=>by kernel_rfl) N,trivial⟩) (fun _=>by kernel_rfl)
theorem C_q79q:Contract Tryz.prog 240 S_q79q:=Contract.less (fun N:Nat=>F_q79q N) C_q79q_raw l2Near_lim
theorem C_q26q_raw (N:Nat):ContractG Tryz.prog 241 (⟨[(K_BPSu8iu64q,true),(K_PiSPiiqq,true)],[K_PiSPiiqq],true,F_q26q N⟩,{ gone:=[1],deep:=[] }):=
  have E:Env Tryz.prog Γ_q26q:=env_ofG tab ⟨C_q43q,⟨C_q30q,trivial⟩⟩ trivial (fun _ h=>by cases h) trivial (by kernel_rfl)
  con_ofG (body:=bodyOf Tryz.f241) (Pc:=[]) E mixed Tryz.func241 (by kernel_rfl) (by kernel_rfl) (by kernel_rfl) (by kernel_rfl) (fun A hA=>trivial) (fun _=>by kernel_rfl)
theorem C_q26q:ContractG Tryz.prog 241 (S_q26q,{ gone:=[1],deep:=[] }):=C_q26q_raw 0
theorem C_q12q_raw (N:Nat):Contract Tryz.prog 183 ⟨[(K_BPSu8iu64q,true),(I,false)],[K_PiSPiiqq],true,F_q12q N⟩:=
  have E:Env Tryz.prog Γ_q12q:=env_ofG tab ⟨C_q46q,⟨C_q65q,⟨C_q43q,⟨C_q30q,⟨C_q77q,⟨C_spec_l2Put,⟨C_q85q,⟨C_q63q,⟨C_q40q,⟨C_q79q,trivial⟩⟩⟩⟩⟩⟩⟩⟩⟩⟩ trivial (fun _ h=>by cases h) ⟨C_q26q,trivial⟩ (by kernel_rfl)
  con_of (body:=bodyOf Tryz.f183) (Pc:=[(1,⟨q12q_l1_h,q12q_l1_o,q12q_l1 N N⟩)]) E rfl mixed Tryz.func183 (by kernel_rfl) (by kernel_rfl) (by kernel_rfl) (by kernel_rfl) (fun A hA=>⟨pc_of (body:=loopOf Tryz.f183 1) (inner:=[(3,⟨q12q_l3_h,q12q_l3_o,q12q_l3 N N⟩)]) E mixed hA (by kernel_rfl) (by kernel_rfl) (by kernel_rfl) ⟨pc_of (body:=loopOf Tryz.f183 3) (inner:=[]) E mixed hA (by kernel_rfl) (by kernel_rfl) (by kernel_rfl) trivial (fun _=>rfl) (fun _ _=>by kernel_rfl) N,trivial⟩ (fun _=>rfl) (fun _ _=>by kernel_rfl) N,trivial⟩) (fun _=>by kernel_rfl)
theorem C_q12q:Contract Tryz.prog 183 S_q12q:=Contract.less (fun N:Nat=>F_q12q N) C_q12q_raw pickF_lim
theorem C_q14q_raw (N:Nat):Contract Tryz.prog 182 ⟨[(K_BPSu8iu64q,true)],[K_PiSPiiqq],true,F_q14q N⟩:=
  have E:Env Tryz.prog Γ_q14q:=env_of tab ⟨C_q12q,trivial⟩
  con_of (body:=bodyOf Tryz.f182) (Pc:=[]) E rfl mixed Tryz.func182 (by kernel_rfl) (by kernel_rfl) (by kernel_rfl) (by kernel_rfl) (fun A hA=>trivial) (fun _=>by kernel_rfl)
theorem C_q14q:Contract Tryz.prog 182 S_q14q:=C_q14q_raw 0
theorem C_q35q_raw (N:Nat):Contract Tryz.prog 93 ⟨[(K_BPSu8iu64q,true),(K_PiSPiiqq,false)],[I],true,F_q35q N⟩:=
  have E:Env Tryz.prog Γ_q35q:=env_of tab ⟨C_q46q,⟨C_q43q,⟨C_q30q,trivial⟩⟩⟩
  con_of (body:=bodyOf Tryz.f93) (Pc:=[]) E rfl mixed Tryz.func93 (by kernel_rfl) (by kernel_rfl) (by kernel_rfl) (by kernel_rfl) (fun A hA=>trivial) (fun _=>by kernel_rfl)
theorem C_q35q:Contract Tryz.prog 93 S_q35q:=C_q35q_raw 0
theorem C_q60q_raw (N:Nat):Contract Tryz.prog 225 ⟨[(K_Si,false)],[K_Si],false,F_q60q N⟩:=
  have E:Env Tryz.prog Γ_q60q:=env_ofV tab trivial trivial (fun _ h=>by cases h)
  con_of (body:=bodyOf Tryz.f225) (Pc:=[(0,⟨q60q_l0_h,q60q_l0_o,q60q_l0 N N⟩)]) E rfl mixed Tryz.func225 (by kernel_rfl) (by kernel_rfl) (by kernel_rfl) (by kernel_rfl) (fun A hA=>⟨pc_of (body:=loopOf Tryz.f225 0) (inner:=[(2,⟨q60q_l2_h,q60q_l2_o,q60q_l2 N N⟩)]) E mixed hA (by kernel_rfl) (by kernel_rfl) (by kernel_rfl) ⟨pc_of (body:=loopOf Tryz.f225 2) (inner:=[]) E mixed hA (by kernel_rfl) (by kernel_rfl) (by kernel_rfl) trivial (fun _=>rfl) (fun _ _=>by kernel_rfl) N,trivial⟩ (fun _=>rfl) (fun _ _=>by kernel_rfl) N,trivial⟩) (fun _=>by kernel_rfl)
theorem C_q60q:Contract Tryz.prog 225 S_q60q:=Contract.less (fun N:Nat=>F_q60q N) C_q60q_raw l4Sorted_lim
theorem C_q39q_raw (N:Nat):Contract Tryz.prog 184 ⟨[(K_BPSu8iu64q,true)],[I],true,F_q39q N⟩:=
  have E:Env Tryz.prog Γ_q39q:=env_of tab ⟨C_q46q,⟨C_q30q,trivial⟩⟩
  con_of (body:=bodyOf Tryz.f184) (Pc:=[]) E rfl mixed Tryz.func184 (by kernel_rfl) (by kernel_rfl) (by kernel_rfl) (by kernel_rfl) (fun A hA=>trivial) (fun _=>by kernel_rfl)
theorem C_q39q:Contract Tryz.prog 184 S_q39q:=C_q39q_raw 0
theorem C_q38q_raw (N:Nat):Contract Tryz.prog 213 ⟨[(K_BPSu8iu64q,true),(K_PiSPiiqq,false)],[K_Si],false,F_q38q N⟩:=
  have E:Env Tryz.prog Γ_q38q:=env_of tab ⟨C_q46q,⟨C_q35q,⟨C_q39q,⟨C_q60q,trivial⟩⟩⟩⟩
  con_of (body:=bodyOf Tryz.f213) (Pc:=[(0,⟨q38q_l0_h,q38q_l0_o,q38q_l0 N N⟩)]) E rfl mixed Tryz.func213 (by kernel_rfl) (by kernel_rfl) (by kernel_rfl) (by kernel_rfl) (fun A hA=>⟨pc_of (body:=loopOf Tryz.f213 0) (inner:=[]) E mixed hA (by kernel_rfl) (by kernel_rfl) (by kernel_rfl) trivial (fun _=>rfl) (fun _ _=>by kernel_rfl) N,trivial⟩) (fun _=>by kernel_rfl)
theorem C_q38q:Contract Tryz.prog 213 S_q38q:=Contract.less (fun N:Nat=>F_q38q N) C_q38q_raw pickF_lim
theorem C_q42q_raw (N:Nat):Contract Tryz.prog 212 ⟨[(K_BPSu8iu64q,true)],[K_PiSPiiqq,K_Si],false,F_q42q N⟩:=
  have E:Env Tryz.prog Γ_q42q:=env_ofG tab ⟨C_q46q,⟨C_q35q,⟨C_q14q,⟨C_q12q,⟨C_q38q,⟨C_q60q,trivial⟩⟩⟩⟩⟩⟩ trivial (fun _ h=>by cases h) trivial (by kernel_rfl)
  con_of (body:=bodyOf Tryz.f212) (Pc:=[]) E rfl mixed Tryz.func212 (by kernel_rfl) (by kernel_rfl) (by kernel_rfl) (by kernel_rfl) (fun A hA=>trivial) (fun _=>by kernel_rfl)
theorem C_q42q:Contract Tryz.prog 212 S_q42q:=C_q42q_raw 0
theorem C_q27q_raw (N:Nat):Contract Tryz.prog 141 ⟨[(K_Su8,false)],[K_PiSPiiqq,K_Si,I],false,F_q27q N⟩:=
  have E:Env Tryz.prog Γ_q27q:=env_of tab ⟨C_q35q,⟨C_q42q,trivial⟩⟩
  con_of (body:=bodyOf Tryz.f141) (Pc:=[]) E rfl mixed Tryz.func141 (by kernel_rfl) (by kernel_rfl) (by kernel_rfl) (by kernel_rfl) (fun A hA=>trivial) (fun _=>by kernel_rfl)
theorem C_q27q:Contract Tryz.prog 141 S_q27q:=C_q27q_raw 0
theorem C_q24q_raw (N:Nat):Contract Tryz.prog 56 ⟨[(K_Su8,false)],[K_PiSPiiqq,K_Si,I,I],false,F_q24q N⟩:=
  have E:Env Tryz.prog Γ_q24q:=env_of tab ⟨C_q30q,⟨C_q27q,trivial⟩⟩
  con_of (body:=bodyOf Tryz.f56) (Pc:=[]) E rfl mixed Tryz.func56 (by kernel_rfl) (by kernel_rfl) (by kernel_rfl) (by kernel_rfl) (fun A hA=>trivial) (fun _=>by kernel_rfl)
theorem C_q24q:Contract Tryz.prog 56 S_q24q:=C_q24q_raw 0
theorem C_q86q_raw (N:Nat):Contract Tryz.prog 143 ⟨[(I,false),(I,false),(I,false)],[.bool],true,F_q86q N⟩:=
  have E:Env Tryz.prog Γ_q86q:=env_of tab trivial
  con_of (body:=bodyOf Tryz.f143) (Pc:=[]) E rfl mixed Tryz.func143 (by kernel_rfl) (by kernel_rfl) (by kernel_rfl) (by kernel_rfl) (fun A hA=>trivial) (fun _=>by kernel_rfl)
theorem C_q86q:Contract Tryz.prog 143 S_q86q:=Contract.less (fun N:Nat=>F_q86q N) C_q86q_raw (fun d r h=>⟨0,(F_q86q_tot 0 d).trans h⟩)
theorem C_q61q_raw (N:Nat):Contract Tryz.prog 258 ⟨[(I,false)],[.bool],true,F_q61q N⟩:=
  have E:Env Tryz.prog Γ_q61q:=env_of tab trivial
  con_of (body:=bodyOf Tryz.f258) (Pc:=[]) E rfl mixed Tryz.func258 (by kernel_rfl) (by kernel_rfl) (by kernel_rfl) (by kernel_rfl) (fun A hA=>trivial) (fun _=>by kernel_rfl)
theorem C_q61q:Contract Tryz.prog 258 S_q61q:=Contract.less (fun N:Nat=>F_q61q N) C_q61q_raw (fun d r h=>⟨0,(F_q61q_tot 0 d).trans h⟩)
theorem C_q41q_raw (N:Nat):Contract Tryz.prog 246 ⟨[(I,false),(I,false)],[I],true,F_q41q N⟩:=
  have E:Env Tryz.prog Γ_q41q:=env_of tab ⟨C_q61q,trivial⟩
  con_of (body:=bodyOf Tryz.f246) (Pc:=[]) E rfl mixed Tryz.func246 (by kernel_rfl) (by kernel_rfl) (by kernel_rfl) (by kernel_rfl) (fun A hA=>trivial) (fun _=>by kernel_rfl)
theorem C_q41q:Contract Tryz.prog 246 S_q41q:=Contract.less (fun N:Nat=>F_q41q N) C_q41q_raw (fun d r h=>⟨0,(F_q41q_tot 0 d).trans h⟩)
theorem C_q7q_raw (N:Nat):Contract Tryz.prog 199 ⟨[(K_Si,false),(K_Si,false)],[I],true,F_q7q N⟩:=
  have E:Env Tryz.prog Γ_q7q:=env_of tab ⟨C_q41q,trivial⟩
  con_of (body:=bodyOf Tryz.f199) (Pc:=[(0,⟨q7q_l0_h,q7q_l0_o,q7q_l0 N N⟩)]) E rfl mixed Tryz.func199 (by kernel_rfl) (by kernel_rfl) (by kernel_rfl) (by kernel_rfl) (fun A hA=>⟨pc_of (body:=loopOf Tryz.f199 0) (inner:=[]) E mixed hA (by kernel_rfl) (by kernel_rfl) (by kernel_rfl) trivial (fun _=>rfl) (fun _ _=>by kernel_rfl) N,trivial⟩) (fun _=>by kernel_rfl)
theorem C_q7q:Contract Tryz.prog 199 S_q7q:=Contract.less (fun N:Nat=>F_q7q N) C_q7q_raw compare_lim
theorem C_q72q_raw (N:Nat):Contract Tryz.prog 114 ⟨[(K_PiSPiiqq,false)],[.bool],true,F_q72q N⟩:=
  have E:Env Tryz.prog Γ_q72q:=env_of tab ⟨C_q86q,⟨C_q7q,trivial⟩⟩
  con_of (body:=bodyOf Tryz.f114) (Pc:=[(0,⟨q72q_l0_h,q72q_l0_o,q72q_l0 N N⟩)]) E rfl mixed Tryz.func114 (by kernel_rfl) (by kernel_rfl) (by kernel_rfl) (by kernel_rfl) (fun A hA=>⟨pc_of (body:=loopOf Tryz.f114 0) (inner:=[]) E mixed hA (by kernel_rfl) (by kernel_rfl) (by kernel_rfl) trivial (fun _=>rfl) (fun _ _=>by kernel_rfl) N,trivial⟩) (fun _=>by kernel_rfl)
theorem C_q72q:Contract Tryz.prog 114 S_q72q:=Contract.less (fun N:Nat=>F_q72q N) C_q72q_raw IsGraph_lim
theorem C_q48q_raw (N:Nat):Contract Tryz.prog 94 ⟨[(K_PiSPiiqq,false),(I,false)],[.bool],true,F_q48q N⟩:=
  have E:Env Tryz.prog Γ_q48q:=env_of tab ⟨C_q72q,⟨C_q86q,trivial⟩⟩
  con_of (body:=bodyOf Tryz.f94) (Pc:=[]) E rfl mixed Tryz.func94 (by kernel_rfl) (by kernel_rfl) (by kernel_rfl) (by kernel_rfl) (fun A hA=>trivial) (fun _=>by kernel_rfl)
theorem C_q48q:Contract Tryz.prog 94 S_q48q:=C_q48q_raw 0
theorem C_q45q_raw (N:Nat):Contract Tryz.prog 128 ⟨[(K_Si,false),(I,false),(I,false)],[.bool],true,F_q45q N⟩:=
  have E:Env Tryz.prog Γ_q45q:=env_of tab ⟨C_q86q,trivial⟩
  con_of (body:=bodyOf Tryz.f128) (Pc:=[(0,⟨q45q_l0_h,q45q_l0_o,q45q_l0 N N⟩)]) E rfl mixed Tryz.func128 (by kernel_rfl) (by kernel_rfl) (by kernel_rfl) (by kernel_rfl) (fun A hA=>⟨pc_of (body:=loopOf Tryz.f128 0) (inner:=[]) E mixed hA (by kernel_rfl) (by kernel_rfl) (by kernel_rfl) trivial (fun _=>rfl) (fun _ _=>by kernel_rfl) N,trivial⟩) (fun _=>by kernel_rfl)
theorem C_q45q:Contract Tryz.prog 128 S_q45q:=Contract.less (fun N:Nat=>F_q45q N) C_q45q_raw allWithin_lim
theorem C_q58q_raw (N:Nat):Contract Tryz.prog 106 ⟨[(K_PiSPiiqq,false),(K_Si,false)],[.bool],true,F_q58q N⟩:=
  have E:Env Tryz.prog Γ_q58q:=env_of tab ⟨C_q72q,⟨C_q45q,trivial⟩⟩
  con_of (body:=bodyOf Tryz.f106) (Pc:=[]) E rfl mixed Tryz.func106 (by kernel_rfl) (by kernel_rfl) (by kernel_rfl) (by kernel_rfl) (fun A hA=>trivial) (fun _=>by kernel_rfl)
theorem C_q58q:Contract Tryz.prog 106 S_q58q:=C_q58q_raw 0
theorem C_q67q_raw (N:Nat):Contract Tryz.prog 250 ⟨[(I,false),(I,false)],[.bool],true,F_q67q N⟩:=
  have E:Env Tryz.prog Γ_q67q:=env_of tab ⟨C_q61q,trivial⟩
  con_of (body:=bodyOf Tryz.f250) (Pc:=[]) E rfl mixed Tryz.func250 (by kernel_rfl) (by kernel_rfl) (by kernel_rfl) (by kernel_rfl) (fun A hA=>trivial) (fun _=>by kernel_rfl)
theorem C_q67q:Contract Tryz.prog 250 S_q67q:=Contract.less (fun N:Nat=>F_q67q N) C_q67q_raw (fun d r h=>⟨0,(F_q67q_tot 0 d).trans h⟩)
theorem C_q5q_raw (N:Nat):Contract Tryz.prog 218 ⟨[(K_Si,false)],[.bool],true,F_q5q N⟩:=
  have E:Env Tryz.prog Γ_q5q:=env_of tab ⟨C_q67q,trivial⟩
  con_of (body:=bodyOf Tryz.f218) (Pc:=[(0,⟨q5q_l0_h,q5q_l0_o,q5q_l0 N N⟩)]) E rfl mixed Tryz.func218 (by kernel_rfl) (by kernel_rfl) (by kernel_rfl) (by kernel_rfl) (fun A hA=>⟨pc_of (body:=loopOf Tryz.f218 0) (inner:=[]) E mixed hA (by kernel_rfl) (by kernel_rfl) (by kernel_rfl) trivial (fun _=>rfl) (fun _ _=>by kernel_rfl) N,trivial⟩) (fun _=>by kernel_rfl)
theorem C_q5q:Contract Tryz.prog 218 S_q5q:=Contract.less (fun N:Nat=>F_q5q N) C_q5q_raw isSorted_lim
theorem C_q69q_raw (N:Nat):Contract Tryz.prog 142 ⟨[(K_PiSPiiqq,false),(K_Si,false)],[.bool],true,F_q69q N⟩:=
  have E:Env Tryz.prog Γ_q69q:=env_of tab ⟨C_q48q,⟨C_q58q,⟨C_q5q,trivial⟩⟩⟩
  con_of (body:=bodyOf Tryz.f142) (Pc:=[]) E rfl mixed Tryz.func142 (by kernel_rfl) (by kernel_rfl) (by kernel_rfl) (by kernel_rfl) (fun A hA=>trivial) (fun _=>by kernel_rfl)
theorem C_q69q:Contract Tryz.prog 142 S_q69q:=C_q69q_raw 0
theorem C_q10q_raw (N:Nat):Contract Tryz.prog 211 ⟨[(K_Si,false),(I,false)],[I],true,F_q10q N⟩:=
  have E:Env Tryz.prog Γ_q10q:=env_of tab trivial
  con_of (body:=bodyOf Tryz.f211) (Pc:=[(0,⟨q10q_l0_h,q10q_l0_o,q10q_l0 N N⟩)]) E rfl mixed Tryz.func211 (by kernel_rfl) (by kernel_rfl) (by kernel_rfl) (by kernel_rfl) (fun A hA=>⟨pc_of (body:=loopOf Tryz.f211 0) (inner:=[]) E mixed hA (by kernel_rfl) (by kernel_rfl) (by kernel_rfl) trivial (fun _=>rfl) (fun _ _=>by kernel_rfl) N,trivial⟩) (fun _=>by kernel_rfl)
theorem C_q10q:Contract Tryz.prog 211 S_q10q:=Contract.less (fun N:Nat=>F_q10q N) C_q10q_raw index_lim
theorem C_q6q_raw (N:Nat):Contract Tryz.prog 129 ⟨[(K_Si,false),(I,false)],[.bool],true,F_q6q N⟩:=
  have E:Env Tryz.prog Γ_q6q:=env_of tab ⟨C_q10q,trivial⟩
  con_of (body:=bodyOf Tryz.f129) (Pc:=[]) E rfl mixed Tryz.func129 (by kernel_rfl) (by kernel_rfl) (by kernel_rfl) (by kernel_rfl) (fun A hA=>trivial) (fun _=>by kernel_rfl)
theorem C_q6q:Contract Tryz.prog 129 S_q6q:=C_q6q_raw 0
theorem C_impl_netOf_raw (N:Nat):Contract Tryz.prog 95 ⟨[(K_PiSPiiqq,false)],[K_PSiq],true,F_impl_netOf N⟩:=
  have E:Env Tryz.prog Γ_impl_netOf:=env_of tab trivial
  con_of (body:=bodyOf Tryz.f95) (Pc:=[(0,⟨impl_netOf_l0_h,impl_netOf_l0_o,impl_netOf_l0 N N⟩)]) E rfl mixed Tryz.func95 (by kernel_rfl) (by kernel_rfl) (by kernel_rfl) (by kernel_rfl) (fun A hA=>⟨pc_of (body:=loopOf Tryz.f95 0) (inner:=[]) E mixed hA (by kernel_rfl) (by kernel_rfl) (by kernel_rfl) trivial (fun _=>rfl) (fun _ _=>by kernel_rfl) N,trivial⟩) (fun _=>by kernel_rfl)
theorem C_impl_netOf:Contract Tryz.prog 95 S_impl_netOf:=Contract.less (fun N:Nat=>F_impl_netOf N) C_impl_netOf_raw netOf_lim
theorem C_q49q_raw (N:Nat):Contract Tryz.prog 188 ⟨[(K_PSiq,false)],[I],true,F_q49q N⟩:=
  have E:Env Tryz.prog Γ_q49q:=env_of tab trivial
  con_of (body:=bodyOf Tryz.f188) (Pc:=[]) E rfl mixed Tryz.func188 (by kernel_rfl) (by kernel_rfl) (by kernel_rfl) (by kernel_rfl) (fun A hA=>trivial) (fun _=>by kernel_rfl)
theorem C_q49q:Contract Tryz.prog 188 S_q49q:=Contract.less (fun N:Nat=>F_q49q N) C_q49q_raw (fun d r h=>⟨0,(F_q49q_tot 0 d).trans h⟩)
theorem C_q9q_raw (N:Nat):Contract Tryz.prog 146 ⟨[(K_Si,false)],[K_Si],true,F_q9q N⟩:=
  have E:Env Tryz.prog Γ_q9q:=env_of tab trivial
  con_of (body:=bodyOf Tryz.f146) (Pc:=[]) E rfl mixed Tryz.func146 (by kernel_rfl) (by kernel_rfl) (by kernel_rfl) (by kernel_rfl) (fun A hA=>trivial) (fun _=>by kernel_rfl)
theorem C_q9q:Contract Tryz.prog 146 S_q9q:=Contract.less (fun N:Nat=>F_q9q N) C_q9q_raw cloneI_lim
theorem C_q59q_raw (N:Nat):Contract Tryz.prog 158 ⟨[(I,false),(I,false)],[K_SSi],true,F_q59q N⟩:=
  have E:Env Tryz.prog Γ_q59q:=env_ofV tab ⟨C_q9q,trivial⟩ trivial (fun _ h=>by cases h)
  con_of (body:=bodyOf Tryz.f158) (Pc:=[(0,⟨q59q_l0_h,q59q_l0_o,q59q_l0 N N⟩)]) E rfl mixed Tryz.func158 (by kernel_rfl) (by kernel_rfl) (by kernel_rfl) (by kernel_rfl) (fun A hA=>⟨pc_of (body:=loopOf Tryz.f158 0) (inner:=[(2,⟨q59q_l2_h,q59q_l2_o,q59q_l2 N N⟩)]) E mixed hA (by kernel_rfl) (by kernel_rfl) (by kernel_rfl) ⟨pc_of (body:=loopOf Tryz.f158 2) (inner:=[(4,⟨q59q_l4_h,q59q_l4_o,q59q_l4 N N⟩)]) E mixed hA (by kernel_rfl) (by kernel_rfl) (by kernel_rfl) ⟨pc_of (body:=loopOf Tryz.f158 4) (inner:=[]) E mixed hA (by kernel_rfl) (by kernel_rfl) (by kernel_rfl) trivial (fun _=>rfl) (fun _ _=>by kernel_rfl) N,trivial⟩ (fun _=>rfl) (fun _ _=>by kernel_rfl) N,trivial⟩ (fun _=>rfl) (fun _ _=>by kernel_rfl) N,trivial⟩) (fun _=>by kernel_rfl)
theorem C_q59q:Contract Tryz.prog 158 S_q59q:=Contract.less (fun N:Nat=>F_q59q N) C_q59q_raw copLists_lim
theorem C_q44q_raw (N:Nat):Contract Tryz.prog 130 ⟨[(K_PSiq,false),(I,false)],[I],true,F_q44q N⟩:=
  have E:Env Tryz.prog Γ_q44q:=env_of tab trivial
  con_of (body:=bodyOf Tryz.f130) (Pc:=[]) E rfl mixed Tryz.func130 (by kernel_rfl) (by kernel_rfl) (by kernel_rfl) (by kernel_rfl) (fun A hA=>trivial) (fun _=>by kernel_rfl)
theorem C_q44q:Contract Tryz.prog 130 S_q44q:=C_q44q_raw 0
theorem C_impl_setOf_raw (N:Nat):Contract Tryz.prog 127 ⟨[(I,false)],[K_Si],true,F_impl_setOf N⟩:=
  have E:Env Tryz.prog Γ_impl_setOf:=env_of tab trivial
  con_of (body:=bodyOf Tryz.f127) (Pc:=[(0,⟨impl_setOf_l0_h,impl_setOf_l0_o,impl_setOf_l0 N N⟩)]) E rfl mixed Tryz.func127 (by kernel_rfl) (by kernel_rfl) (by kernel_rfl) (by kernel_rfl) (fun A hA=>⟨pc_of (body:=loopOf Tryz.f127 0) (inner:=[]) E mixed hA (by kernel_rfl) (by kernel_rfl) (by kernel_rfl) trivial (fun _=>rfl) (fun _ _=>by kernel_rfl) N,trivial⟩) (fun _=>by kernel_rfl)
theorem C_impl_setOf:Contract Tryz.prog 127 S_impl_setOf:=Contract.less (fun N:Nat=>F_impl_setOf N) C_impl_setOf_raw setOf_lim
theorem C_q1q:ContractG Tryz.prog 223 (S_q1q,{ gone:=[0],deep:=[] }):=con_compactF (enters_of Tryz.func223 (by kernel_rfl) rfl) (fun w v1 v2 xs ys h1 h2 l1 l2=>eqH h1 h2 l1 l2) compact74 compact74_small
theorem C_q25q_raw (N:Nat):Contract Tryz.prog 153 ⟨[(K_PSiq,false),(K_Si,false)],[K_SSi],true,F_q25q N⟩:=
  have E:Env Tryz.prog Γ_q25q:=env_ofG tab ⟨C_impl_setOf,⟨C_q44q,⟨C_q9q,⟨C_q11q,⟨C_q2q,trivial⟩⟩⟩⟩⟩ trivial (fun _ h=>by cases h) ⟨C_q1q,trivial⟩ (by kernel_rfl)
  con_of (body:=bodyOf Tryz.f153) (Pc:=[(0,⟨q25q_l0_h,q25q_l0_o,q25q_l0 N N⟩),(6,⟨q25q_l6_h,q25q_l6_o,q25q_l6 N N⟩)]) E rfl mixed Tryz.func153 (by kernel_rfl) (by kernel_rfl) (by kernel_rfl) (by kernel_rfl) (fun A hA=>⟨pc_of (body:=loopOf Tryz.f153 0) (inner:=[(2,⟨q25q_l2_h,q25q_l2_o,q25q_l2 N N⟩)]) E mixed hA (by kernel_rfl) (by kernel_rfl) (by kernel_rfl) ⟨pc_of (body:=loopOf Tryz.f153 2) (inner:=[(4,⟨q25q_l4_h,q25q_l4_o,q25q_l4 N N⟩)]) E mixed hA (by kernel_rfl) (by kernel_rfl) (by kernel_rfl) ⟨pc_of (body:=loopOf Tryz.f153 4) (inner:=[]) E mixed hA (by kernel_rfl) (by kernel_rfl) (by kernel_rfl) trivial (fun _=>rfl) (fun _ _=>by kernel_rfl) N,trivial⟩ (fun _=>rfl) (fun _ _=>by kernel_rfl) N,trivial⟩ (fun _=>rfl) (fun _ _=>by kernel_rfl) N,⟨pc_of (body:=loopOf Tryz.f153 6) (inner:=[]) E mixed hA (by kernel_rfl) (by kernel_rfl) (by kernel_rfl) trivial (fun _=>rfl) (fun _ _=>by kernel_rfl) N,trivial⟩⟩) (fun _=>by kernel_rfl)
theorem C_q25q:Contract Tryz.prog 153 S_q25q:=Contract.less (fun N:Nat=>F_q25q N) C_q25q_raw copMoves47_lim
theorem CV_q7q:ContractV Tryz.prog SV_q7q:=conV_0_2_0 C_q7q
theorem C_q0q_raw (N:Nat):Contract Tryz.prog 219 ⟨[(K_SSi,false),(K_Si,false),(K_F_q7q_qq,false)],[I,.bool],true,F_q0q N⟩:=
  have E:Env Tryz.prog Γ_q0q:=env_ofV tab trivial ⟨CV_q7q,trivial⟩ (fun _ h=>by cases h)
  con_of (body:=bodyOf Tryz.f219) (Pc:=[(0,⟨q0q_l0_h,q0q_l0_o,q0q_l0 N N⟩)]) E rfl mixed Tryz.func219 (by kernel_rfl) (by kernel_rfl) (by kernel_rfl) (by kernel_rfl) (fun A hA=>⟨pc_of (body:=loopOf Tryz.f219 0) (inner:=[]) E mixed hA (by kernel_rfl) (by kernel_rfl) (by kernel_rfl) trivial (fun _=>rfl) (fun _ _=>by kernel_rfl) N,trivial⟩) (fun _=>by kernel_rfl)
theorem C_q0q:Contract Tryz.prog 219 S_q0q:=Contract.less (fun N:Nat=>F_q0q N) C_q0q_raw binSearch_lim
theorem C_q16q_raw (N:Nat):Contract Tryz.prog 144 ⟨[(K_BPPZiqZSiSSiSSiq,false),(K_Si,false)],[I],true,F_q16q N⟩:=
  have E:Env Tryz.prog Γ_q16q:=env_of tab ⟨C_q0q,trivial⟩
  con_of (body:=bodyOf Tryz.f144) (Pc:=[]) E rfl mixed Tryz.func144 (by kernel_rfl) (by kernel_rfl) (by kernel_rfl) (by kernel_rfl) (fun A hA=>trivial) (fun _=>by kernel_rfl)
theorem C_q16q:Contract Tryz.prog 144 S_q16q:=C_q16q_raw 0
theorem C_q23q_raw (N:Nat):ContractG Tryz.prog 96 (⟨[(K_PSiq,false),(I,false)],[K_BPPZiqZSiSSiSSiq],true,F_q23q N⟩,md0):=
  have E:Env Tryz.prog Γ_q23q:=env_of tab ⟨C_q16q,⟨C_q25q,⟨C_q59q,⟨C_q49q,trivial⟩⟩⟩⟩
  con_ofG (body:=bodyOf Tryz.f96) (Pc:=[(0,⟨q23q_l0_h,q23q_l0_o,q23q_l0 N N⟩)]) E mixed Tryz.func96 (by kernel_rfl) (by kernel_rfl) (by kernel_rfl) (by kernel_rfl) (fun A hA=>⟨pc_of (body:=loopOf Tryz.f96 0) (inner:=[(2,⟨q23q_l2_h,q23q_l2_o,q23q_l2 N N⟩)]) E mixed hA (by kernel_rfl) (by kernel_rfl) (by kernel_rfl) ⟨pc_of (body:=loopOf Tryz.f96 2) (inner:=[]) E mixed hA (by kernel_rfl) (by kernel_rfl) (by kernel_rfl) trivial (fun _=>rfl) (fun _ _=>by kernel_rfl) N,trivial⟩ (fun _=>rfl) (fun _ _=>by kernel_rfl) N,trivial⟩) (fun _=>by kernel_rfl)
theorem C_q23q:ContractG Tryz.prog 96 (S_q23q,md0):=ContractG.less (fun N:Nat=>F_q23q N) C_q23q_raw copBoard_lim
theorem C_q18q_raw (N:Nat):Contract Tryz.prog 179 ⟨[(K_PSiq,false),(K_Si,false),(I,false)],[I],true,F_q18q N⟩:=
  have E:Env Tryz.prog Γ_q18q:=env_of tab ⟨C_impl_setOf,⟨C_q44q,trivial⟩⟩
  con_of (body:=bodyOf Tryz.f179) (Pc:=[(0,⟨q18q_l0_h,q18q_l0_o,q18q_l0 N N⟩)]) E rfl mixed Tryz.func179 (by kernel_rfl) (by kernel_rfl) (by kernel_rfl) (by kernel_rfl) (fun A hA=>⟨pc_of (body:=loopOf Tryz.f179 0) (inner:=[]) E mixed hA (by kernel_rfl) (by kernel_rfl) (by kernel_rfl) trivial (fun _=>rfl) (fun _ _=>by kernel_rfl) N,trivial⟩) (fun _=>by kernel_rfl)
theorem C_q18q:Contract Tryz.prog 179 S_q18q:=Contract.less (fun N:Nat=>F_q18q N) C_q18q_raw timeAfter_lim
theorem C_q17q_raw (N:Nat):Contract Tryz.prog 243 ⟨[(I,false),(K_BBPPZiqZSiSSiSSiq,false),(K_Bi,false)],[.bool],true,F_q17q N⟩:=
  have E:Env Tryz.prog Γ_q17q:=env_ofV tab ⟨C_q6q,⟨C_q18q,trivial⟩⟩ trivial (w1_of (by kernel_rfl))
  con_of (body:=bodyOf Tryz.f243) (Pc:=[]) E rfl mixed Tryz.func243 (by kernel_rfl) (by kernel_rfl) (by kernel_rfl) (by kernel_rfl) (fun A hA=>trivial) (fun _=>by kernel_rfl)
theorem C_q17q:Contract Tryz.prog 243 S_q17q:=C_q17q_raw 0
theorem CV_q17q:ContractV Tryz.prog SV_q17q:=conV_0_1_2 C_q17q
theorem C_q4q_raw (N:Nat):Contract Tryz.prog 248 ⟨[(K_Si,false),(K_F_q17q_qPBBPPZiqZSiSSiSSiqBiq,false)],[I],true,F_q4q N⟩:=
  have E:Env Tryz.prog Γ_q4q:=env_ofV tab trivial ⟨CV_q17q,trivial⟩ (fun _ h=>by cases h)
  con_of (body:=bodyOf Tryz.f248) (Pc:=[(0,⟨q4q_l0_h,q4q_l0_o,q4q_l0 N N⟩)]) E rfl mixed Tryz.func248 (by kernel_rfl) (by kernel_rfl) (by kernel_rfl) (by kernel_rfl) (fun A hA=>⟨pc_of (body:=loopOf Tryz.f248 0) (inner:=[]) E mixed hA (by kernel_rfl) (by kernel_rfl) (by kernel_rfl) trivial (fun _=>rfl) (fun _ _=>by kernel_rfl) N,trivial⟩) (fun _=>by kernel_rfl)
theorem C_q4q:Contract Tryz.prog 248 S_q4q:=Contract.less (fun N:Nat=>F_q4q N) C_q4q_raw gameCan_lim
theorem C_q3q_raw (N:Nat):Contract Tryz.prog 214 ⟨[(K_Si,false),(K_F_q17q_qPBBPPZiqZSiSSiSSiqBiq,false)],[.bool],true,F_q3q N⟩:=
  have E:Env Tryz.prog Γ_q3q:=env_of tab ⟨C_q4q,trivial⟩
  con_of (body:=bodyOf Tryz.f214) (Pc:=[]) E rfl mixed Tryz.func214 (by kernel_rfl) (by kernel_rfl) (by kernel_rfl) (by kernel_rfl) (fun A hA=>trivial) (fun _=>by kernel_rfl)
theorem C_q3q:Contract Tryz.prog 214 S_q3q:=C_q3q_raw 0
theorem C_q28q_raw (N:Nat):Contract Tryz.prog 192 ⟨[(K_BPPZiqZSiSSiSSiq,false),(I,false),(I,false)],[.bool],true,F_q28q N⟩:=
  have E:Env Tryz.prog Γ_q28q:=env_ofV tab ⟨C_q3q,trivial⟩ trivial (w1_of (by kernel_rfl))
  con_of (body:=bodyOf Tryz.f192) (Pc:=[]) E rfl mixed Tryz.func192 (by kernel_rfl) (by kernel_rfl) (by kernel_rfl) (by kernel_rfl) (fun A hA=>trivial) (fun _=>by kernel_rfl)
theorem C_q28q:Contract Tryz.prog 192 S_q28q:=C_q28q_raw 0
theorem C_q31q_raw (N:Nat):ContractG Tryz.prog 103 (⟨[(K_PSiq,false),(I,false)],[K_BPPZiqZSiSSiSSiq],true,F_q31q N⟩,md0):=
  have E:Env Tryz.prog Γ_q31q:=env_ofG tab ⟨C_q49q,⟨C_q8q,⟨C_q28q,trivial⟩⟩⟩ trivial (fun _ h=>by cases h) ⟨C_q23q,trivial⟩ (by kernel_rfl)
  con_ofG (body:=bodyOf Tryz.f103) (Pc:=[(0,⟨q31q_l0_h,q31q_l0_o,q31q_l0 N N⟩),(4,⟨q31q_l4_h,q31q_l4_o,q31q_l4 N N⟩)]) E mixed Tryz.func103 (by kernel_rfl) (by kernel_rfl) (by kernel_rfl) (by kernel_rfl) (fun A hA=>⟨pc_of (body:=loopOf Tryz.f103 0) (inner:=[(2,⟨q31q_l2_h,q31q_l2_o,q31q_l2 N N⟩)]) E mixed hA (by kernel_rfl) (by kernel_rfl) (by kernel_rfl) ⟨pc_of (body:=loopOf Tryz.f103 2) (inner:=[]) E mixed hA (by kernel_rfl) (by kernel_rfl) (by kernel_rfl) trivial (fun _=>rfl) (fun _ _=>by kernel_rfl) N,trivial⟩ (fun _=>rfl) (fun _ _=>by kernel_rfl) N,⟨pc_of (body:=loopOf Tryz.f103 4) (inner:=[(6,⟨q31q_l6_h,q31q_l6_o,q31q_l6 N N⟩),(10,⟨q31q_l10_h,q31q_l10_o,q31q_l10 N N⟩)]) E mixed hA (by kernel_rfl) (by kernel_rfl) (by kernel_rfl) ⟨pc_of (body:=loopOf Tryz.f103 6) (inner:=[(8,⟨q31q_l8_h,q31q_l8_o,q31q_l8 N N⟩)]) E mixed hA (by kernel_rfl) (by kernel_rfl) (by kernel_rfl) ⟨pc_of (body:=loopOf Tryz.f103 8) (inner:=[]) E mixed hA (by kernel_rfl) (by kernel_rfl) (by kernel_rfl) trivial (fun _=>rfl) (fun _ _=>by kernel_rfl) N,trivial⟩ (fun _=>rfl) (fun _ _=>by kernel_rfl) N,⟨pc_of (body:=loopOf Tryz.f103 10) (inner:=[]) E mixed hA (by kernel_rfl) (by kernel_rfl) (by kernel_rfl) trivial (fun _=>rfl) (fun _ _=>by kernel_rfl) N,trivial⟩⟩ (fun _=>rfl) (fun _ _=>by kernel_rfl) N,trivial⟩⟩) (fun _=>by kernel_rfl)
theorem C_q31q:ContractG Tryz.prog 103 (S_q31q,md0):=ContractG.less (fun N:Nat=>F_q31q N) C_q31q_raw copGame_lim
theorem C_q15q_raw (N:Nat):Contract Tryz.prog 145 ⟨[(K_BPPZiqZSiSSiSSiq,false),(K_Si,false),(I,false)],[K_Si],false,F_q15q N⟩:=
  have E:Env Tryz.prog Γ_q15q:=env_of tab ⟨C_q6q,⟨C_q16q,⟨C_q18q,trivial⟩⟩⟩
  con_of (body:=bodyOf Tryz.f145) (Pc:=[(0,⟨q15q_l0_h,q15q_l0_o,q15q_l0 N N⟩)]) E rfl mixed Tryz.func145 (by kernel_rfl) (by kernel_rfl) (by kernel_rfl) (by kernel_rfl) (fun A hA=>⟨pc_of (body:=loopOf Tryz.f145 0) (inner:=[]) E mixed hA (by kernel_rfl) (by kernel_rfl) (by kernel_rfl) trivial (fun _=>rfl) (fun _ _=>by kernel_rfl) N,trivial⟩) (fun _=>by kernel_rfl)
theorem C_q15q:Contract Tryz.prog 145 S_q15q:=Contract.less (fun N:Nat=>F_q15q N) C_q15q_raw gameReply_lim
theorem C_q13q_raw (N:Nat):Contract Tryz.prog 112 ⟨[(K_PSiq,false),(K_Si,false),(I,false)],[I],true,F_q13q N⟩:=
  have E:Env Tryz.prog Γ_q13q:=env_of tab ⟨C_impl_setOf,⟨C_q44q,trivial⟩⟩
  con_of (body:=bodyOf Tryz.f112) (Pc:=[(0,⟨q13q_l0_h,q13q_l0_o,q13q_l0 N N⟩)]) E rfl mixed Tryz.func112 (by kernel_rfl) (by kernel_rfl) (by kernel_rfl) (by kernel_rfl) (fun A hA=>⟨pc_of (body:=loopOf Tryz.f112 0) (inner:=[]) E mixed hA (by kernel_rfl) (by kernel_rfl) (by kernel_rfl) trivial (fun _=>rfl) (fun _ _=>by kernel_rfl) N,trivial⟩) (fun _=>by kernel_rfl)
theorem C_q13q:Contract Tryz.prog 112 S_q13q:=Contract.less (fun N:Nat=>F_q13q N) C_q13q_raw robberMove_lim
theorem C_q52q_raw (N:Nat):Contract Tryz.prog 57 ⟨[(K_PiSPiiqq,false),(K_Si,false),(I,false),(I,false)],[K_SSi,K_Si,.bool],true,F_q52q N⟩:=
  have E:Env Tryz.prog Γ_q52q:=env_ofG tab ⟨C_impl_netOf,⟨C_q58q,⟨C_q13q,⟨C_q6q,⟨C_q69q,⟨C_q86q,⟨C_q16q,⟨C_q15q,⟨C_q9q,trivial⟩⟩⟩⟩⟩⟩⟩⟩⟩ trivial (fun _ h=>by cases h) ⟨C_q31q,trivial⟩ (by kernel_rfl)
  con_of (body:=bodyOf Tryz.f57) (Pc:=[(0,⟨q52q_l0_h,q52q_l0_o,q52q_l0 N N⟩)]) E rfl mixed Tryz.func57 (by kernel_rfl) (by kernel_rfl) (by kernel_rfl) (by kernel_rfl) (fun A hA=>⟨pc_of (body:=loopOf Tryz.f57 0) (inner:=[]) E mixed hA (by kernel_rfl) (by kernel_rfl) (by kernel_rfl) trivial (fun _=>rfl) (fun _ _=>by kernel_rfl) N,trivial⟩) (fun _=>by kernel_rfl)
theorem C_q52q:Contract Tryz.prog 57 S_q52q:=Contract.less (fun N:Nat=>F_q52q N) C_q52q_raw implPC_lim
theorem C_spec_l1In_raw (N:Nat):Contract Tryz.prog 148 ⟨[(I,false),(I,false),(I,false)],[.bool],true,F_spec_l1In N⟩:=
  have E:Env Tryz.prog Γ_spec_l1In:=env_of tab trivial
  con_of (body:=bodyOf Tryz.f148) (Pc:=[]) E rfl mixed Tryz.func148 (by kernel_rfl) (by kernel_rfl) (by kernel_rfl) (by kernel_rfl) (fun A hA=>trivial) (fun _=>by kernel_rfl)
theorem C_spec_l1In:Contract Tryz.prog 148 S_spec_l1In:=Contract.less (fun N:Nat=>F_spec_l1In N) C_spec_l1In_raw (fun d r h=>⟨0,(F_spec_l1In_tot 0 d).trans h⟩)
theorem C_q90q_raw (N:Nat):Contract Tryz.prog 115 ⟨[(K_PiSPiiqq,false)],[.bool],true,F_q90q N⟩:=
  have E:Env Tryz.prog Γ_q90q:=env_of tab ⟨C_spec_l1In,⟨C_q57q,trivial⟩⟩
  con_of (body:=bodyOf Tryz.f115) (Pc:=[(0,⟨q90q_l0_h,q90q_l0_o,q90q_l0 N N⟩)]) E rfl mixed Tryz.func115 (by kernel_rfl) (by kernel_rfl) (by kernel_rfl) (by kernel_rfl) (fun A hA=>⟨pc_of (body:=loopOf Tryz.f115 0) (inner:=[]) E mixed hA (by kernel_rfl) (by kernel_rfl) (by kernel_rfl) trivial (fun _=>rfl) (fun _ _=>by kernel_rfl) N,trivial⟩) (fun _=>by kernel_rfl)
theorem C_q90q:Contract Tryz.prog 115 S_q90q:=Contract.less (fun N:Nat=>F_q90q N) C_q90q_raw l2Good_lim
theorem C_q71q_raw (N:Nat):Contract Tryz.prog 98 ⟨[(K_PiSPiiqq,false),(I,false)],[.bool],true,F_q71q N⟩:=
  have E:Env Tryz.prog Γ_q71q:=env_of tab ⟨C_q90q,⟨C_spec_l1In,trivial⟩⟩
  con_of (body:=bodyOf Tryz.f98) (Pc:=[]) E rfl mixed Tryz.func98 (by kernel_rfl) (by kernel_rfl) (by kernel_rfl) (by kernel_rfl) (fun A hA=>trivial) (fun _=>by kernel_rfl)
theorem C_q71q:Contract Tryz.prog 98 S_q71q:=C_q71q_raw 0
theorem C_q80q_raw (N:Nat):Contract Tryz.prog 132 ⟨[(K_PiSPiiqq,false),(I,false)],[.bool],true,F_q80q N⟩:=
  have E:Env Tryz.prog Γ_q80q:=env_of tab ⟨C_spec_l1In,trivial⟩
  con_of (body:=bodyOf Tryz.f132) (Pc:=[]) E rfl mixed Tryz.func132 (by kernel_rfl) (by kernel_rfl) (by kernel_rfl) (by kernel_rfl) (fun A hA=>trivial) (fun _=>by kernel_rfl)
theorem C_q80q:Contract Tryz.prog 132 S_q80q:=Contract.less (fun N:Nat=>F_q80q N) C_q80q_raw (fun d r h=>⟨0,(F_q80q_tot 0 d).trans h⟩)
theorem C_q84q_raw (N:Nat):Contract Tryz.prog 154 ⟨[(K_PiSPiiqq,false),(K_Si,false)],[.bool],true,F_q84q N⟩:=
  have E:Env Tryz.prog Γ_q84q:=env_of tab ⟨C_q80q,trivial⟩
  con_of (body:=bodyOf Tryz.f154) (Pc:=[(0,⟨q84q_l0_h,q84q_l0_o,q84q_l0 N N⟩)]) E rfl mixed Tryz.func154 (by kernel_rfl) (by kernel_rfl) (by kernel_rfl) (by kernel_rfl) (fun A hA=>⟨pc_of (body:=loopOf Tryz.f154 0) (inner:=[]) E mixed hA (by kernel_rfl) (by kernel_rfl) (by kernel_rfl) trivial (fun _=>rfl) (fun _ _=>by kernel_rfl) N,trivial⟩) (fun _=>by kernel_rfl)
theorem C_q84q:Contract Tryz.prog 154 S_q84q:=Contract.less (fun N:Nat=>F_q84q N) C_q84q_raw l4Cops_lim
theorem C_spec_l1Has_raw (N:Nat):Contract Tryz.prog 101 ⟨[(K_Si,false),(I,false)],[.bool],true,F_spec_l1Has N⟩:=
  have E:Env Tryz.prog Γ_spec_l1Has:=env_of tab trivial
  con_of (body:=bodyOf Tryz.f101) (Pc:=[(0,⟨spec_l1Has_l0_h,spec_l1Has_l0_o,spec_l1Has_l0 N N⟩)]) E rfl mixed Tryz.func101 (by kernel_rfl) (by kernel_rfl) (by kernel_rfl) (by kernel_rfl) (fun A hA=>⟨pc_of (body:=loopOf Tryz.f101 0) (inner:=[]) E mixed hA (by kernel_rfl) (by kernel_rfl) (by kernel_rfl) trivial (fun _=>rfl) (fun _ _=>by kernel_rfl) N,trivial⟩) (fun _=>by kernel_rfl)
theorem C_spec_l1Has:Contract Tryz.prog 101 S_spec_l1Has:=Contract.less (fun N:Nat=>F_spec_l1Has N) C_spec_l1Has_raw l1Has_lim
theorem C_q68q_raw (N:Nat):Contract Tryz.prog 147 ⟨[(K_PiSPiiqq,false),(K_Si,false),(I,false)],[.bool],true,F_q68q N⟩:=
  have E:Env Tryz.prog Γ_q68q:=env_of tab ⟨C_q71q,⟨C_spec_l1Has,⟨C_q80q,⟨C_q84q,trivial⟩⟩⟩⟩
  con_of (body:=bodyOf Tryz.f147) (Pc:=[]) E rfl mixed Tryz.func147 (by kernel_rfl) (by kernel_rfl) (by kernel_rfl) (by kernel_rfl) (fun A hA=>trivial) (fun _=>by kernel_rfl)
theorem C_q68q:Contract Tryz.prog 147 S_q68q:=C_q68q_raw 0
theorem C_spec_l1Own_raw (N:Nat):Contract Tryz.prog 151 ⟨[(K_Si,false)],[K_Si],true,F_spec_l1Own N⟩:=
  have E:Env Tryz.prog Γ_spec_l1Own:=env_of tab trivial
  con_of (body:=bodyOf Tryz.f151) (Pc:=[]) E rfl mixed Tryz.func151 (by kernel_rfl) (by kernel_rfl) (by kernel_rfl) (by kernel_rfl) (fun A hA=>trivial) (fun _=>by kernel_rfl)
theorem C_spec_l1Own:Contract Tryz.prog 151 S_spec_l1Own:=C_spec_l1Own_raw 0
theorem C_q47q_raw (N:Nat):Contract Tryz.prog 159 ⟨[(I,false),(I,false)],[K_SSi],true,F_q47q N⟩:=
  have E:Env Tryz.prog Γ_q47q:=env_of tab ⟨C_spec_l1Own,trivial⟩
  con_of (body:=bodyOf Tryz.f159) (Pc:=[(0,⟨q47q_l0_h,q47q_l0_o,q47q_l0 N N⟩)]) E rfl mixed Tryz.func159 (by kernel_rfl) (by kernel_rfl) (by kernel_rfl) (by kernel_rfl) (fun A hA=>⟨pc_of (body:=loopOf Tryz.f159 0) (inner:=[(2,⟨q47q_l2_h,q47q_l2_o,q47q_l2 N N⟩)]) E mixed hA (by kernel_rfl) (by kernel_rfl) (by kernel_rfl) ⟨pc_of (body:=loopOf Tryz.f159 2) (inner:=[(4,⟨q47q_l4_h,q47q_l4_o,q47q_l4 N N⟩)]) E mixed hA (by kernel_rfl) (by kernel_rfl) (by kernel_rfl) ⟨pc_of (body:=loopOf Tryz.f159 4) (inner:=[]) E mixed hA (by kernel_rfl) (by kernel_rfl) (by kernel_rfl) trivial (fun _=>rfl) (fun _ _=>by kernel_rfl) N,trivial⟩ (fun _=>rfl) (fun _ _=>by kernel_rfl) N,trivial⟩ (fun _=>rfl) (fun _ _=>by kernel_rfl) N,trivial⟩) (fun _=>by kernel_rfl)
theorem C_q47q:Contract Tryz.prog 159 S_q47q:=Contract.less (fun N:Nat=>F_q47q N) C_q47q_raw l4Configs_lim
theorem C_q34q_raw (N:Nat):Contract Tryz.prog 208 ⟨[(K_PiSPiiqq,false),(I,false)],[K_Si],true,F_q34q N⟩:=
  have E:Env Tryz.prog Γ_q34q:=env_of tab ⟨C_q79q,trivial⟩
  con_of (body:=bodyOf Tryz.f208) (Pc:=[(0,⟨q34q_l0_h,q34q_l0_o,q34q_l0 N N⟩)]) E rfl mixed Tryz.func208 (by kernel_rfl) (by kernel_rfl) (by kernel_rfl) (by kernel_rfl) (fun A hA=>⟨pc_of (body:=loopOf Tryz.f208 0) (inner:=[]) E mixed hA (by kernel_rfl) (by kernel_rfl) (by kernel_rfl) trivial (fun _=>rfl) (fun _ _=>by kernel_rfl) N,trivial⟩) (fun _=>by kernel_rfl)
theorem C_q34q:Contract Tryz.prog 208 S_q34q:=Contract.less (fun N:Nat=>F_q34q N) C_q34q_raw l2Neighbors_lim
theorem C_spec_l1Put_raw (N:Nat):Contract Tryz.prog 92 ⟨[(K_Si,false),(I,false)],[K_Si],false,F_spec_l1Put N⟩:=
  have E:Env Tryz.prog Γ_spec_l1Put:=env_of tab trivial
  con_of (body:=bodyOf Tryz.f92) (Pc:=[(0,⟨spec_l1Put_l0_h,spec_l1Put_l0_o,spec_l1Put_l0 N N⟩)]) E rfl mixed Tryz.func92 (by kernel_rfl) (by kernel_rfl) (by kernel_rfl) (by kernel_rfl) (fun A hA=>⟨pc_of (body:=loopOf Tryz.f92 0) (inner:=[]) E mixed hA (by kernel_rfl) (by kernel_rfl) (by kernel_rfl) trivial (fun _=>rfl) (fun _ _=>by kernel_rfl) N,trivial⟩) (fun _=>by kernel_rfl)
theorem C_spec_l1Put:Contract Tryz.prog 92 S_spec_l1Put:=Contract.less (fun N:Nat=>F_spec_l1Put N) C_spec_l1Put_raw l1Put_lim
theorem C_q78q_raw (N:Nat):Contract Tryz.prog 124 ⟨[(K_PiSPiiqq,false),(I,false)],[K_Si],false,F_q78q N⟩:=
  have E:Env Tryz.prog Γ_q78q:=env_of tab ⟨C_spec_l1Put,⟨C_q34q,trivial⟩⟩
  con_of (body:=bodyOf Tryz.f124) (Pc:=[]) E rfl mixed Tryz.func124 (by kernel_rfl) (by kernel_rfl) (by kernel_rfl) (by kernel_rfl) (fun A hA=>trivial) (fun _=>by kernel_rfl)
theorem C_q78q:Contract Tryz.prog 124 S_q78q:=C_q78q_raw 0
theorem C_q82q_raw (N:Nat):Contract Tryz.prog 254 ⟨[(K_Si,false),(K_Si,false)],[.bool],true,F_q82q N⟩:=
  have E:Env Tryz.prog Γ_q82q:=env_of tab trivial
  con_of (body:=bodyOf Tryz.f254) (Pc:=[(0,⟨q82q_l0_h,q82q_l0_o,q82q_l0 N N⟩)]) E rfl mixed Tryz.func254 (by kernel_rfl) (by kernel_rfl) (by kernel_rfl) (by kernel_rfl) (fun A hA=>⟨pc_of (body:=loopOf Tryz.f254 0) (inner:=[]) E mixed hA (by kernel_rfl) (by kernel_rfl) (by kernel_rfl) trivial (fun _=>rfl) (fun _ _=>by kernel_rfl) N,trivial⟩) (fun _=>by kernel_rfl)
theorem C_q82q:Contract Tryz.prog 254 S_q82q:=Contract.less (fun N:Nat=>F_q82q N) C_q82q_raw l4Less_lim
theorem C_q89q_raw (N:Nat):Contract Tryz.prog 220 ⟨[(K_Si,false),(K_Si,false)],[.bool],true,F_q89q N⟩:=
  have E:Env Tryz.prog Γ_q89q:=env_of tab trivial
  con_of (body:=bodyOf Tryz.f220) (Pc:=[(0,⟨q89q_l0_h,q89q_l0_o,q89q_l0 N N⟩)]) E rfl mixed Tryz.func220 (by kernel_rfl) (by kernel_rfl) (by kernel_rfl) (by kernel_rfl) (fun A hA=>⟨pc_of (body:=loopOf Tryz.f220 0) (inner:=[]) E mixed hA (by kernel_rfl) (by kernel_rfl) (by kernel_rfl) trivial (fun _=>rfl) (fun _ _=>by kernel_rfl) N,trivial⟩) (fun _=>by kernel_rfl)
theorem C_q89q:Contract Tryz.prog 220 S_q89q:=Contract.less (fun N:Nat=>F_q89q N) C_q89q_raw l1Same_lim
theorem C_spec_l4Put_raw (N:Nat):Contract Tryz.prog 224 ⟨[(K_SSi,false),(K_Si,false)],[K_SSi],false,F_spec_l4Put N⟩:=
  have E:Env Tryz.prog Γ_spec_l4Put:=env_of tab ⟨C_q89q,⟨C_q82q,trivial⟩⟩
  con_of (body:=bodyOf Tryz.f224) (Pc:=[(0,⟨spec_l4Put_l0_h,spec_l4Put_l0_o,spec_l4Put_l0 N N⟩)]) E rfl mixed Tryz.func224 (by kernel_rfl) (by kernel_rfl) (by kernel_rfl) (by kernel_rfl) (fun A hA=>⟨pc_of (body:=loopOf Tryz.f224 0) (inner:=[]) E mixed hA (by kernel_rfl) (by kernel_rfl) (by kernel_rfl) trivial (fun _=>rfl) (fun _ _=>by kernel_rfl) N,trivial⟩) (fun _=>by kernel_rfl)
theorem C_spec_l4Put:Contract Tryz.prog 224 S_spec_l4Put:=Contract.less (fun N:Nat=>F_spec_l4Put N) C_spec_l4Put_raw l4Put_lim
theorem C_q64q_raw (N:Nat):Contract Tryz.prog 155 ⟨[(K_PiSPiiqq,false),(K_Si,false)],[K_SSi],false,F_q64q N⟩:=
  have E:Env Tryz.prog Γ_q64q:=env_ofV tab ⟨C_q78q,⟨C_spec_l1Own,⟨C_spec_l4Put,⟨C_q60q,trivial⟩⟩⟩⟩ trivial (fun _ h=>by cases h)
  con_of (body:=bodyOf Tryz.f155) (Pc:=[(0,⟨q64q_l0_h,q64q_l0_o,q64q_l0 N N⟩),(6,⟨q64q_l6_h,q64q_l6_o,q64q_l6 N N⟩)]) E rfl mixed Tryz.func155 (by kernel_rfl) (by kernel_rfl) (by kernel_rfl) (by kernel_rfl) (fun A hA=>⟨pc_of (body:=loopOf Tryz.f155 0) (inner:=[(2,⟨q64q_l2_h,q64q_l2_o,q64q_l2 N N⟩)]) E mixed hA (by kernel_rfl) (by kernel_rfl) (by kernel_rfl) ⟨pc_of (body:=loopOf Tryz.f155 2) (inner:=[(4,⟨q64q_l4_h,q64q_l4_o,q64q_l4 N N⟩)]) E mixed hA (by kernel_rfl) (by kernel_rfl) (by kernel_rfl) ⟨pc_of (body:=loopOf Tryz.f155 4) (inner:=[]) E mixed hA (by kernel_rfl) (by kernel_rfl) (by kernel_rfl) trivial (fun _=>rfl) (fun _ _=>by kernel_rfl) N,trivial⟩ (fun _=>rfl) (fun _ _=>by kernel_rfl) N,trivial⟩ (fun _=>rfl) (fun _ _=>by kernel_rfl) N,⟨pc_of (body:=loopOf Tryz.f155 6) (inner:=[]) E mixed hA (by kernel_rfl) (by kernel_rfl) (by kernel_rfl) trivial (fun _=>rfl) (fun _ _=>by kernel_rfl) N,trivial⟩⟩) (fun _=>by kernel_rfl)
theorem C_q64q:Contract Tryz.prog 155 S_q64q:=Contract.less (fun N:Nat=>F_q64q N) C_q64q_raw l4Moves_lim
theorem C_spec_l4At_raw (N:Nat):Contract Tryz.prog 149 ⟨[(K_SSi,false),(K_Si,false)],[I],true,F_spec_l4At N⟩:=
  have E:Env Tryz.prog Γ_spec_l4At:=env_of tab ⟨C_q89q,trivial⟩
  con_of (body:=bodyOf Tryz.f149) (Pc:=[(0,⟨spec_l4At_l0_h,spec_l4At_l0_o,spec_l4At_l0 N N⟩)]) E rfl mixed Tryz.func149 (by kernel_rfl) (by kernel_rfl) (by kernel_rfl) (by kernel_rfl) (fun A hA=>⟨pc_of (body:=loopOf Tryz.f149 0) (inner:=[]) E mixed hA (by kernel_rfl) (by kernel_rfl) (by kernel_rfl) trivial (fun _=>rfl) (fun _ _=>by kernel_rfl) N,trivial⟩) (fun _=>by kernel_rfl)
theorem C_spec_l4At:Contract Tryz.prog 149 S_spec_l4At:=Contract.less (fun N:Nat=>F_spec_l4At N) C_spec_l4At_raw l4At_lim
theorem C_q83q_raw (N:Nat):Contract Tryz.prog 99 ⟨[(K_PiSPiiqq,false),(I,false)],[K_PZSiSSiSSiq],false,F_q83q N⟩:=
  have E:Env Tryz.prog Γ_q83q:=env_ofG tab ⟨C_q78q,⟨C_spec_l4At,⟨C_q64q,⟨C_q47q,trivial⟩⟩⟩⟩ trivial (fun _ h=>by cases h) trivial (by kernel_rfl)
  con_of (body:=bodyOf Tryz.f99) (Pc:=[(0,⟨q83q_l0_h,q83q_l0_o,q83q_l0 N N⟩),(4,⟨q83q_l4_h,q83q_l4_o,q83q_l4 N N⟩)]) E rfl mixed Tryz.func99 (by kernel_rfl) (by kernel_rfl) (by kernel_rfl) (by kernel_rfl) (fun A hA=>⟨pc_of (body:=loopOf Tryz.f99 0) (inner:=[(2,⟨q83q_l2_h,q83q_l2_o,q83q_l2 N N⟩)]) E mixed hA (by kernel_rfl) (by kernel_rfl) (by kernel_rfl) ⟨pc_of (body:=loopOf Tryz.f99 2) (inner:=[]) E mixed hA (by kernel_rfl) (by kernel_rfl) (by kernel_rfl) trivial (fun _=>rfl) (fun _ _=>by kernel_rfl) N,trivial⟩ (fun _=>rfl) (fun _ _=>by kernel_rfl) N,⟨pc_of (body:=loopOf Tryz.f99 4) (inner:=[]) E mixed hA (by kernel_rfl) (by kernel_rfl) (by kernel_rfl) trivial (fun _=>rfl) (fun _ _=>by kernel_rfl) N,trivial⟩⟩) (fun _=>by kernel_rfl)
theorem C_q83q:Contract Tryz.prog 99 S_q83q:=Contract.less (fun N:Nat=>F_q83q N) C_q83q_raw l4Make_lim
theorem C_q66q_raw (N:Nat):Contract Tryz.prog 217 ⟨[(K_PZSiSSiSSiq,false),(K_SSi,false),(I,false),(I,false)],[I],true,F_q66q N⟩:=
  have E:Env Tryz.prog Γ_q66q:=env_of tab ⟨C_spec_l1Has,⟨C_q85q,trivial⟩⟩
  con_of (body:=bodyOf Tryz.f217) (Pc:=[(0,⟨q66q_l0_h,q66q_l0_o,q66q_l0 N N⟩)]) E rfl mixed Tryz.func217 (by kernel_rfl) (by kernel_rfl) (by kernel_rfl) (by kernel_rfl) (fun A hA=>⟨pc_of (body:=loopOf Tryz.f217 0) (inner:=[]) E mixed hA (by kernel_rfl) (by kernel_rfl) (by kernel_rfl) trivial (fun _=>rfl) (fun _ _=>by kernel_rfl) N,trivial⟩) (fun _=>by kernel_rfl)
theorem C_q66q:Contract Tryz.prog 217 S_q66q:=Contract.less (fun N:Nat=>F_q66q N) C_q66q_raw l4After_lim
theorem C_q73q_raw (N:Nat):Contract Tryz.prog 138 ⟨[(K_PZSiSSiSSiq,false)],[K_SSi],true,F_q73q N⟩:=
  have E:Env Tryz.prog Γ_q73q:=env_of tab ⟨C_spec_l1Has,⟨C_spec_l1Own,⟨C_q66q,trivial⟩⟩⟩
  con_of (body:=bodyOf Tryz.f138) (Pc:=[(0,⟨q73q_l0_h,q73q_l0_o,q73q_l0 N N⟩),(4,⟨q73q_l4_h,q73q_l4_o,q73q_l4 N N⟩)]) E rfl mixed Tryz.func138 (by kernel_rfl) (by kernel_rfl) (by kernel_rfl) (by kernel_rfl) (fun A hA=>⟨pc_of (body:=loopOf Tryz.f138 0) (inner:=[(2,⟨q73q_l2_h,q73q_l2_o,q73q_l2 N N⟩)]) E mixed hA (by kernel_rfl) (by kernel_rfl) (by kernel_rfl) ⟨pc_of (body:=loopOf Tryz.f138 2) (inner:=[]) E mixed hA (by kernel_rfl) (by kernel_rfl) (by kernel_rfl) trivial (fun _=>rfl) (fun _ _=>by kernel_rfl) N,trivial⟩ (fun _=>rfl) (fun _ _=>by kernel_rfl) N,⟨pc_of (body:=loopOf Tryz.f138 4) (inner:=[(6,⟨q73q_l6_h,q73q_l6_o,q73q_l6 N N⟩)]) E mixed hA (by kernel_rfl) (by kernel_rfl) (by kernel_rfl) ⟨pc_of (body:=loopOf Tryz.f138 6) (inner:=[(8,⟨q73q_l8_h,q73q_l8_o,q73q_l8 N N⟩)]) E mixed hA (by kernel_rfl) (by kernel_rfl) (by kernel_rfl) ⟨pc_of (body:=loopOf Tryz.f138 8) (inner:=[(10,⟨q73q_l10_h,q73q_l10_o,q73q_l10 N N⟩)]) E mixed hA (by kernel_rfl) (by kernel_rfl) (by kernel_rfl) ⟨pc_of (body:=loopOf Tryz.f138 10) (inner:=[]) E mixed hA (by kernel_rfl) (by kernel_rfl) (by kernel_rfl) trivial (fun _=>rfl) (fun _ _=>by kernel_rfl) N,trivial⟩ (fun _=>rfl) (fun _ _=>by kernel_rfl) N,trivial⟩ (fun _=>rfl) (fun _ _=>by kernel_rfl) N,trivial⟩ (fun _=>rfl) (fun _ _=>by kernel_rfl) N,trivial⟩⟩) (fun _=>by kernel_rfl)
theorem C_q73q:Contract Tryz.prog 138 S_q73q:=Contract.less (fun N:Nat=>F_q73q N) C_q73q_raw l4Times_lim
theorem C_q88q_raw (N:Nat):Contract Tryz.prog 150 ⟨[(K_PZSiSSiSSiq,false),(K_SSi,false),(I,false),(I,false)],[I],true,F_q88q N⟩:=
  have E:Env Tryz.prog Γ_q88q:=env_of tab ⟨C_q66q,trivial⟩
  con_of (body:=bodyOf Tryz.f150) (Pc:=[(0,⟨q88q_l0_h,q88q_l0_o,q88q_l0 N N⟩)]) E rfl mixed Tryz.func150 (by kernel_rfl) (by kernel_rfl) (by kernel_rfl) (by kernel_rfl) (fun A hA=>⟨pc_of (body:=loopOf Tryz.f150 0) (inner:=[]) E mixed hA (by kernel_rfl) (by kernel_rfl) (by kernel_rfl) trivial (fun _=>rfl) (fun _ _=>by kernel_rfl) N,trivial⟩) (fun _=>by kernel_rfl)
theorem C_q88q:Contract Tryz.prog 150 S_q88q:=Contract.less (fun N:Nat=>F_q88q N) C_q88q_raw l4Best_lim
theorem C_q87q_raw (N:Nat):Contract Tryz.prog 152 ⟨[(K_PZSiSSiSSiq,false),(K_SSi,false),(I,false),(I,false)],[I],true,F_q87q N⟩:=
  have E:Env Tryz.prog Γ_q87q:=env_of tab trivial
  con_of (body:=bodyOf Tryz.f152) (Pc:=[(0,⟨q87q_l0_h,q87q_l0_o,q87q_l0 N N⟩)]) E rfl mixed Tryz.func152 (by kernel_rfl) (by kernel_rfl) (by kernel_rfl) (by kernel_rfl) (fun A hA=>⟨pc_of (body:=loopOf Tryz.f152 0) (inner:=[]) E mixed hA (by kernel_rfl) (by kernel_rfl) (by kernel_rfl) trivial (fun _=>rfl) (fun _ _=>by kernel_rfl) N,trivial⟩) (fun _=>by kernel_rfl)
theorem C_q87q:Contract Tryz.prog 152 S_q87q:=Contract.less (fun N:Nat=>F_q87q N) C_q87q_raw l4Flee_lim
theorem C_q62q_raw (N:Nat):Contract Tryz.prog 58 ⟨[(K_PiSPiiqq,false),(K_Si,false),(I,false),(I,false)],[K_SSi,K_Si,.bool],true,F_q62q N⟩:=
  have E:Env Tryz.prog Γ_q62q:=env_of tab ⟨C_q83q,⟨C_spec_l1Has,⟨C_q73q,⟨C_q68q,⟨C_spec_l1In,⟨C_spec_l4At,⟨C_q88q,⟨C_spec_l1Own,⟨C_q87q,trivial⟩⟩⟩⟩⟩⟩⟩⟩⟩
  con_of (body:=bodyOf Tryz.f58) (Pc:=[(0,⟨q62q_l0_h,q62q_l0_o,q62q_l0 N N⟩)]) E rfl mixed Tryz.func58 (by kernel_rfl) (by kernel_rfl) (by kernel_rfl) (by kernel_rfl) (fun A hA=>⟨pc_of (body:=loopOf Tryz.f58 0) (inner:=[]) E mixed hA (by kernel_rfl) (by kernel_rfl) (by kernel_rfl) trivial (fun _=>rfl) (fun _ _=>by kernel_rfl) N,trivial⟩) (fun _=>by kernel_rfl)
theorem C_q62q:Contract Tryz.prog 58 S_q62q:=Contract.less (fun N:Nat=>F_q62q N) C_q62q_raw specPC_lim
theorem C_laws_rInts_raw (N:Nat):Contract Tryz.prog 38 ⟨[(K_Si,false),(K_Si,false)],[.bool],true,F_laws_rInts N⟩:=
  have E:Env Tryz.prog Γ_laws_rInts:=env_of tab trivial
  con_of (body:=bodyOf Tryz.f38) (Pc:=[(0,⟨laws_rInts_l0_h,laws_rInts_l0_o,laws_rInts_l0 N N⟩)]) E rfl mixed Tryz.func38 (by kernel_rfl) (by kernel_rfl) (by kernel_rfl) (by kernel_rfl) (fun A hA=>⟨pc_of (body:=loopOf Tryz.f38 0) (inner:=[]) E mixed hA (by kernel_rfl) (by kernel_rfl) (by kernel_rfl) trivial (fun _=>rfl) (fun _ _=>by kernel_rfl) N,trivial⟩) (fun _=>by kernel_rfl)
theorem C_laws_rInts:Contract Tryz.prog 38 S_laws_rInts:=Contract.less (fun N:Nat=>F_laws_rInts N) C_laws_rInts_raw rInts_lim
theorem C_q81q_raw (N:Nat):Contract Tryz.prog 43 ⟨[(K_SSi,false),(K_SSi,false)],[.bool],true,F_q81q N⟩:=
  have E:Env Tryz.prog Γ_q81q:=env_of tab ⟨C_laws_rInts,trivial⟩
  con_of (body:=bodyOf Tryz.f43) (Pc:=[(0,⟨q81q_l0_h,q81q_l0_o,q81q_l0 N N⟩)]) E rfl mixed Tryz.func43 (by kernel_rfl) (by kernel_rfl) (by kernel_rfl) (by kernel_rfl) (fun A hA=>⟨pc_of (body:=loopOf Tryz.f43 0) (inner:=[]) E mixed hA (by kernel_rfl) (by kernel_rfl) (by kernel_rfl) trivial (fun _=>rfl) (fun _ _=>by kernel_rfl) N,trivial⟩) (fun _=>by kernel_rfl)
theorem C_q81q:Contract Tryz.prog 43 S_q81q:=Contract.less (fun N:Nat=>F_q81q N) C_q81q_raw rTable_lim
theorem C_q51q_raw (N:Nat):Contract Tryz.prog 59 ⟨[(K_PiSPiiqq,false),(K_Si,false),(I,false)],[K_Si,.bool],true,F_q51q N⟩:=
  have E:Env Tryz.prog Γ_q51q:=env_ofG tab ⟨C_impl_netOf,⟨C_q58q,⟨C_q69q,⟨C_q16q,⟨C_q15q,⟨C_q9q,trivial⟩⟩⟩⟩⟩⟩ trivial (fun _ h=>by cases h) ⟨C_q31q,trivial⟩ (by kernel_rfl)
  con_of (body:=bodyOf Tryz.f59) (Pc:=[]) E rfl mixed Tryz.func59 (by kernel_rfl) (by kernel_rfl) (by kernel_rfl) (by kernel_rfl) (fun A hA=>trivial) (fun _=>by kernel_rfl)
theorem C_q51q:Contract Tryz.prog 59 S_q51q:=C_q51q_raw 0
theorem C_q56q_raw (N:Nat):Contract Tryz.prog 60 ⟨[(K_PiSPiiqq,false),(K_Si,false),(I,false)],[K_Si,.bool],true,F_q56q N⟩:=
  have E:Env Tryz.prog Γ_q56q:=env_of tab ⟨C_q83q,⟨C_q73q,⟨C_q68q,⟨C_spec_l4At,⟨C_q88q,⟨C_spec_l1Own,trivial⟩⟩⟩⟩⟩⟩
  con_of (body:=bodyOf Tryz.f60) (Pc:=[]) E rfl mixed Tryz.func60 (by kernel_rfl) (by kernel_rfl) (by kernel_rfl) (by kernel_rfl) (fun A hA=>trivial) (fun _=>by kernel_rfl)
theorem C_q56q:Contract Tryz.prog 60 S_q56q:=C_q56q_raw 0
theorem C_q29q_raw (N:Nat):Contract Tryz.prog 61 ⟨[(K_PiSPiiqq,false),(K_Si,false),(I,false)],[I,.bool],true,F_q29q N⟩:=
  have E:Env Tryz.prog Γ_q29q:=env_ofG tab ⟨C_impl_netOf,⟨C_q58q,⟨C_q13q,⟨C_q6q,⟨C_q69q,⟨C_q16q,trivial⟩⟩⟩⟩⟩⟩ trivial (fun _ h=>by cases h) ⟨C_q31q,trivial⟩ (by kernel_rfl)
  con_of (body:=bodyOf Tryz.f61) (Pc:=[]) E rfl mixed Tryz.func61 (by kernel_rfl) (by kernel_rfl) (by kernel_rfl) (by kernel_rfl) (fun A hA=>trivial) (fun _=>by kernel_rfl)
theorem C_q29q:Contract Tryz.prog 61 S_q29q:=C_q29q_raw 0
theorem C_q33q_raw (N:Nat):Contract Tryz.prog 62 ⟨[(K_PiSPiiqq,false),(K_Si,false),(I,false)],[I,.bool],true,F_q33q N⟩:=
  have E:Env Tryz.prog Γ_q33q:=env_of tab ⟨C_q83q,⟨C_q73q,⟨C_q68q,⟨C_spec_l4At,⟨C_q87q,trivial⟩⟩⟩⟩⟩
  con_of (body:=bodyOf Tryz.f62) (Pc:=[]) E rfl mixed Tryz.func62 (by kernel_rfl) (by kernel_rfl) (by kernel_rfl) (by kernel_rfl) (fun A hA=>trivial) (fun _=>by kernel_rfl)
theorem C_q33q:Contract Tryz.prog 62 S_q33q:=C_q33q_raw 0
theorem C_q54q_raw (N:Nat):Contract Tryz.prog 63 ⟨[(K_PiSPiiqq,false),(K_Si,false)],[K_SSi,.bool],true,F_q54q N⟩:=
  have E:Env Tryz.prog Γ_q54q:=env_of tab ⟨C_impl_netOf,⟨C_q69q,⟨C_q25q,trivial⟩⟩⟩
  con_of (body:=bodyOf Tryz.f63) (Pc:=[]) E rfl mixed Tryz.func63 (by kernel_rfl) (by kernel_rfl) (by kernel_rfl) (by kernel_rfl) (fun A hA=>trivial) (fun _=>by kernel_rfl)
theorem C_q54q:Contract Tryz.prog 63 S_q54q:=C_q54q_raw 0
theorem C_q50q_raw (N:Nat):Contract Tryz.prog 64 ⟨[(K_PiSPiiqq,false),(K_Si,false)],[K_SSi,.bool],false,F_q50q N⟩:=
  have E:Env Tryz.prog Γ_q50q:=env_of tab ⟨C_q71q,⟨C_q84q,⟨C_q64q,trivial⟩⟩⟩
  con_of (body:=bodyOf Tryz.f64) (Pc:=[]) E rfl mixed Tryz.func64 (by kernel_rfl) (by kernel_rfl) (by kernel_rfl) (by kernel_rfl) (fun A hA=>trivial) (fun _=>by kernel_rfl)
theorem C_q50q:Contract Tryz.prog 64 S_q50q:=C_q50q_raw 0
theorem C_q76q_raw (N:Nat):Contract Tryz.prog 157 ⟨[(K_Si,false)],[I],true,F_q76q N⟩:=
  have E:Env Tryz.prog Γ_q76q:=env_of tab trivial
  con_of (body:=bodyOf Tryz.f157) (Pc:=[(0,⟨q76q_l0_h,q76q_l0_o,q76q_l0 N N⟩)]) E rfl mixed Tryz.func157 (by kernel_rfl) (by kernel_rfl) (by kernel_rfl) (by kernel_rfl) (fun A hA=>⟨pc_of (body:=loopOf Tryz.f157 0) (inner:=[]) E mixed hA (by kernel_rfl) (by kernel_rfl) (by kernel_rfl) trivial (fun _=>rfl) (fun _ _=>by kernel_rfl) N,trivial⟩) (fun _=>by kernel_rfl)
theorem C_q76q:Contract Tryz.prog 157 S_q76q:=Contract.less (fun N:Nat=>F_q76q N) C_q76q_raw maskOf_lim
theorem C_q37q_raw (N:Nat):Contract Tryz.prog 156 ⟨[(K_PSiq,false),(I,false)],[I],true,F_q37q N⟩:=
  have E:Env Tryz.prog Γ_q37q:=env_of tab trivial
  con_of (body:=bodyOf Tryz.f156) (Pc:=[(0,⟨q37q_l0_h,q37q_l0_o,q37q_l0 N N⟩)]) E rfl mixed Tryz.func156 (by kernel_rfl) (by kernel_rfl) (by kernel_rfl) (by kernel_rfl) (fun A hA=>⟨pc_of (body:=loopOf Tryz.f156 0) (inner:=[]) E mixed hA (by kernel_rfl) (by kernel_rfl) (by kernel_rfl) trivial (fun _=>rfl) (fun _ _=>by kernel_rfl) N,trivial⟩) (fun _=>by kernel_rfl)
theorem C_q37q:Contract Tryz.prog 156 S_q37q:=Contract.less (fun N:Nat=>F_q37q N) C_q37q_raw around_lim
theorem C_q20q_raw (N:Nat):Contract Tryz.prog 65 ⟨[(K_PiSPiiqq,false),(K_Si,false)],[K_Si,.bool],true,F_q20q N⟩:=
  have E:Env Tryz.prog Γ_q20q:=env_of tab ⟨C_impl_netOf,⟨C_impl_setOf,⟨C_q69q,⟨C_q37q,⟨C_q76q,trivial⟩⟩⟩⟩⟩
  con_of (body:=bodyOf Tryz.f65) (Pc:=[]) E rfl mixed Tryz.func65 (by kernel_rfl) (by kernel_rfl) (by kernel_rfl) (by kernel_rfl) (fun A hA=>trivial) (fun _=>by kernel_rfl)
theorem C_q20q:Contract Tryz.prog 65 S_q20q:=C_q20q_raw 0
theorem C_q21q_raw (N:Nat):Contract Tryz.prog 66 ⟨[(K_PiSPiiqq,false),(K_Si,false)],[K_Si,.bool],false,F_q21q N⟩:=
  have E:Env Tryz.prog Γ_q21q:=env_ofV tab ⟨C_spec_l1Put,⟨C_q71q,⟨C_q78q,⟨C_q84q,trivial⟩⟩⟩⟩ trivial (fun _ h=>by cases h)
  con_of (body:=bodyOf Tryz.f66) (Pc:=[(0,⟨q21q_l0_h,q21q_l0_o,q21q_l0 N N⟩)]) E rfl mixed Tryz.func66 (by kernel_rfl) (by kernel_rfl) (by kernel_rfl) (by kernel_rfl) (fun A hA=>⟨pc_of (body:=loopOf Tryz.f66 0) (inner:=[(2,⟨q21q_l2_h,q21q_l2_o,q21q_l2 N N⟩)]) E mixed hA (by kernel_rfl) (by kernel_rfl) (by kernel_rfl) ⟨pc_of (body:=loopOf Tryz.f66 2) (inner:=[]) E mixed hA (by kernel_rfl) (by kernel_rfl) (by kernel_rfl) trivial (fun _=>rfl) (fun _ _=>by kernel_rfl) N,trivial⟩ (fun _=>rfl) (fun _ _=>by kernel_rfl) N,trivial⟩) (fun _=>by kernel_rfl)
theorem C_q21q:Contract Tryz.prog 66 S_q21q:=Contract.less (fun N:Nat=>F_q21q N) C_q21q_raw specGN_lim
theorem C_q70q_raw (N:Nat):Contract Tryz.prog 67 ⟨[(K_PiSPiiqq,false),(K_Si,false)],[K_Si,.bool],true,F_q70q N⟩:=
  have E:Env Tryz.prog Γ_q70q:=env_ofG tab ⟨C_impl_netOf,⟨C_q69q,⟨C_q86q,⟨C_q16q,trivial⟩⟩⟩⟩ trivial (fun _ h=>by cases h) ⟨C_q31q,trivial⟩ (by kernel_rfl)
  con_of (body:=bodyOf Tryz.f67) (Pc:=[(0,⟨q70q_l0_h,q70q_l0_o,q70q_l0 N N⟩)]) E rfl mixed Tryz.func67 (by kernel_rfl) (by kernel_rfl) (by kernel_rfl) (by kernel_rfl) (fun A hA=>⟨pc_of (body:=loopOf Tryz.f67 0) (inner:=[]) E mixed hA (by kernel_rfl) (by kernel_rfl) (by kernel_rfl) trivial (fun _=>rfl) (fun _ _=>by kernel_rfl) N,trivial⟩) (fun _=>by kernel_rfl)
theorem C_q70q:Contract Tryz.prog 67 S_q70q:=Contract.less (fun N:Nat=>F_q70q N) C_q70q_raw implTO_lim
theorem C_q74q_raw (N:Nat):Contract Tryz.prog 68 ⟨[(K_PiSPiiqq,false),(K_Si,false)],[K_Si,.bool],true,F_q74q N⟩:=
  have E:Env Tryz.prog Γ_q74q:=env_ofV tab ⟨C_q71q,⟨C_q83q,⟨C_q73q,⟨C_spec_l1In,⟨C_spec_l4At,⟨C_q84q,trivial⟩⟩⟩⟩⟩⟩ trivial (fun _ h=>by cases h)
  con_of (body:=bodyOf Tryz.f68) (Pc:=[(0,⟨q74q_l0_h,q74q_l0_o,q74q_l0 N N⟩)]) E rfl mixed Tryz.func68 (by kernel_rfl) (by kernel_rfl) (by kernel_rfl) (by kernel_rfl) (fun A hA=>⟨pc_of (body:=loopOf Tryz.f68 0) (inner:=[]) E mixed hA (by kernel_rfl) (by kernel_rfl) (by kernel_rfl) trivial (fun _=>rfl) (fun _ _=>by kernel_rfl) N,trivial⟩) (fun _=>by kernel_rfl)
theorem C_q74q:Contract Tryz.prog 68 S_q74q:=Contract.less (fun N:Nat=>F_q74q N) C_q74q_raw specTO_lim
theorem C_laws_rHas_raw (N:Nat):Contract Tryz.prog 47 ⟨[(K_Si,false),(I,false)],[.bool],true,F_laws_rHas N⟩:=
  have E:Env Tryz.prog Γ_laws_rHas:=env_of tab trivial
  con_of (body:=bodyOf Tryz.f47) (Pc:=[(0,⟨laws_rHas_l0_h,laws_rHas_l0_o,laws_rHas_l0 N N⟩)]) E rfl mixed Tryz.func47 (by kernel_rfl) (by kernel_rfl) (by kernel_rfl) (by kernel_rfl) (fun A hA=>⟨pc_of (body:=loopOf Tryz.f47 0) (inner:=[]) E mixed hA (by kernel_rfl) (by kernel_rfl) (by kernel_rfl) trivial (fun _=>rfl) (fun _ _=>by kernel_rfl) N,trivial⟩) (fun _=>by kernel_rfl)
theorem C_laws_rHas:Contract Tryz.prog 47 S_laws_rHas:=Contract.less (fun N:Nat=>F_laws_rHas N) C_laws_rHas_raw rHas_lim
theorem C_laws_rPart_raw (N:Nat):Contract Tryz.prog 15 ⟨[(K_Si,false),(K_Si,false)],[.bool],true,F_laws_rPart N⟩:=
  have E:Env Tryz.prog Γ_laws_rPart:=env_of tab ⟨C_laws_rHas,trivial⟩
  con_of (body:=bodyOf Tryz.f15) (Pc:=[(0,⟨laws_rPart_l0_h,laws_rPart_l0_o,laws_rPart_l0 N N⟩)]) E rfl mixed Tryz.func15 (by kernel_rfl) (by kernel_rfl) (by kernel_rfl) (by kernel_rfl) (fun A hA=>⟨pc_of (body:=loopOf Tryz.f15 0) (inner:=[]) E mixed hA (by kernel_rfl) (by kernel_rfl) (by kernel_rfl) trivial (fun _=>rfl) (fun _ _=>by kernel_rfl) N,trivial⟩) (fun _=>by kernel_rfl)
theorem C_laws_rPart:Contract Tryz.prog 15 S_laws_rPart:=Contract.less (fun N:Nat=>F_laws_rPart N) C_laws_rPart_raw rPart_lim
theorem C_q55q_raw (N:Nat):Contract Tryz.prog 69 ⟨[(K_PiSPiiqq,false),(I,false)],[K_SSi,.bool],true,F_q55q N⟩:=
  have E:Env Tryz.prog Γ_q55q:=env_of tab ⟨C_q48q,⟨C_q59q,trivial⟩⟩
  con_of (body:=bodyOf Tryz.f69) (Pc:=[]) E rfl mixed Tryz.func69 (by kernel_rfl) (by kernel_rfl) (by kernel_rfl) (by kernel_rfl) (fun A hA=>trivial) (fun _=>by kernel_rfl)
theorem C_q55q:Contract Tryz.prog 69 S_q55q:=C_q55q_raw 0
theorem C_q19q_raw (N:Nat):Contract Tryz.prog 30 ⟨[(K_PiSPiiqq,false),(I,false)],[K_SSi,.bool],true,F_q19q N⟩:=
  have E:Env Tryz.prog Γ_q19q:=env_ofG tab ⟨C_q48q,⟨C_impl_netOf,trivial⟩⟩ trivial (fun _ h=>by cases h) ⟨C_q31q,trivial⟩ (by kernel_rfl)
  con_of (body:=bodyOf Tryz.f30) (Pc:=[]) E rfl mixed Tryz.func30 (by kernel_rfl) (by kernel_rfl) (by kernel_rfl) (by kernel_rfl) (fun A hA=>trivial) (fun _=>by kernel_rfl)
theorem C_q19q:Contract Tryz.prog 30 S_q19q:=C_q19q_raw 0
theorem C_q22q_raw (N:Nat):Contract Tryz.prog 53 ⟨[(K_PiSPiiqq,false),(I,false)],[K_SSi,.bool],true,F_q22q N⟩:=
  have E:Env Tryz.prog Γ_q22q:=env_of tab ⟨C_q71q,⟨C_q83q,⟨C_q73q,trivial⟩⟩⟩
  con_of (body:=bodyOf Tryz.f53) (Pc:=[]) E rfl mixed Tryz.func53 (by kernel_rfl) (by kernel_rfl) (by kernel_rfl) (by kernel_rfl) (fun A hA=>trivial) (fun _=>by kernel_rfl)
theorem C_q22q:Contract Tryz.prog 53 S_q22q:=C_q22q_raw 0
theorem C_q53q_raw (N:Nat):Contract Tryz.prog 70 ⟨[(K_PiSPiiqq,false),(I,false)],[K_SSi,.bool],true,F_q53q N⟩:=
  have E:Env Tryz.prog Γ_q53q:=env_of tab ⟨C_q71q,⟨C_q47q,trivial⟩⟩
  con_of (body:=bodyOf Tryz.f70) (Pc:=[]) E rfl mixed Tryz.func70 (by kernel_rfl) (by kernel_rfl) (by kernel_rfl) (by kernel_rfl) (fun A hA=>trivial) (fun _=>by kernel_rfl)
theorem C_q53q:Contract Tryz.prog 70 S_q53q:=C_q53q_raw 0
theorem C_q75q_raw (N:Nat):Contract Tryz.prog 71 ⟨[(K_SSi,false),(K_Si,false)],[I],true,F_q75q N⟩:=
  have E:Env Tryz.prog Γ_q75q:=env_of tab ⟨C_laws_rInts,trivial⟩
  con_of (body:=bodyOf Tryz.f71) (Pc:=[(0,⟨q75q_l0_h,q75q_l0_o,q75q_l0 N N⟩)]) E rfl mixed Tryz.func71 (by kernel_rfl) (by kernel_rfl) (by kernel_rfl) (by kernel_rfl) (fun A hA=>⟨pc_of (body:=loopOf Tryz.f71 0) (inner:=[]) E mixed hA (by kernel_rfl) (by kernel_rfl) (by kernel_rfl) trivial (fun _=>rfl) (fun _ _=>by kernel_rfl) N,trivial⟩) (fun _=>by kernel_rfl)
theorem C_q75q:Contract Tryz.prog 71 S_q75q:=Contract.less (fun N:Nat=>F_q75q N) C_q75q_raw rIndex_lim
theorem C_q32q_raw (N:Nat):Contract Tryz.prog 72 ⟨[(K_PiSPiiqq,false),(I,false)],[K_Si,.bool],true,F_q32q N⟩:=
  have E:Env Tryz.prog Γ_q32q:=env_of tab ⟨C_impl_netOf,⟨C_q58q,⟨C_impl_setOf,trivial⟩⟩⟩
  con_of (body:=bodyOf Tryz.f72) (Pc:=[]) E rfl mixed Tryz.func72 (by kernel_rfl) (by kernel_rfl) (by kernel_rfl) (by kernel_rfl) (fun A hA=>trivial) (fun _=>by kernel_rfl)
theorem C_q32q:Contract Tryz.prog 72 S_q32q:=C_q32q_raw 0
theorem C_laws_FnCopPlay_raw (N:Nat):Contract Tryz.prog 7 ⟨[(K_Su8,false)],[.bool],true,F_laws_FnCopPlay N⟩:=
  have E:Env Tryz.prog Γ_laws_FnCopPlay:=env_of tab ⟨C_laws_rBig,⟨C_laws_rPart,⟨C_q19q,⟨C_laws_rInts,⟨C_q81q,⟨C_laws_rHas,⟨C_q22q,⟨C_q24q,⟨C_q52q,⟨C_q62q,⟨C_q51q,⟨C_q56q,⟨C_q29q,⟨C_q33q,⟨C_q54q,⟨C_q50q,⟨C_q20q,⟨C_q21q,⟨C_q70q,⟨C_q74q,⟨C_q55q,⟨C_q53q,⟨C_q75q,⟨C_q32q,trivial⟩⟩⟩⟩⟩⟩⟩⟩⟩⟩⟩⟩⟩⟩⟩⟩⟩⟩⟩⟩⟩⟩⟩⟩
  con_of (body:=bodyOf Tryz.f7) (Pc:=[(0,⟨laws_FnCopPlay_l0_h,laws_FnCopPlay_l0_o,laws_FnCopPlay_l0 N N⟩)]) E rfl mixed Tryz.func7 (by kernel_rfl) (by kernel_rfl) (by kernel_rfl) (by kernel_rfl) (fun A hA=>⟨pc_of (body:=loopOf Tryz.f7 0) (inner:=[]) E mixed hA (by kernel_rfl) (by kernel_rfl) (by kernel_rfl) trivial (fun _=>rfl) (fun _ _=>by kernel_rfl) N,trivial⟩) (fun _=>by kernel_rfl)
theorem C_laws_FnCopPlay:Contract Tryz.prog 7 S_laws_FnCopPlay:=Contract.less (fun N:Nat=>F_laws_FnCopPlay N) C_laws_FnCopPlay_raw lawCopPlay_lim
end Go.V.W
