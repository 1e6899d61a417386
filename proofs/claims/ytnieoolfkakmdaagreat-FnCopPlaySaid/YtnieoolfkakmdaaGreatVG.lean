/- What the law FnCopPlay leans on, part 7: an interpreter of the model as plain data, its soundness, the functions as it tells them, and their laws. -/
import Derived.Test.YtnieoolfkakmdaaGreatVF
set_option linter.unusedVariables false
set_option linter.unusedSimpArgs false
set_option maxRecDepth 100000
namespace Go.V.W
open Go.Proofs
theorem cm_l4 (N:Nat) (net:Nt) (cop:Int) (list cops:List Int) (n17 i:Int) (moves:List (List Int)) (n23 j:Int) (ball:List Int) (hb:ball.length<=8) (hlen:list.length<=1000):∀q k f (next:List (List Int)),k+q=ball.length->q<f->next.length+q<=1000 ->
  q25q_l4 N f (net,cop,next,list,cops,n17,i,moves,n23,j,ball,(ball.length:Int),(k:Int),())=some (.inl (net,cop,next++(ball.drop k).map (fun x=>list++[x]),cops,n17,i,moves,n23,j,())):=by
 intro q
 induction q with
 | zero=>
  intro k f next e1 e2 e3
  obtain ⟨f,rfl⟩:∃m,f=m+1:=⟨f-1,by omega⟩
  have e:k=ball.length:=by omega
  subst e
  rw [List.drop_of_length_le (Nat.le_refl _)]
  show q25q_l4_r _ _ _=_
  unfold q25q_l4_r
  simp only [lt_not,Bool.false_eq_true,if_false,List.map_nil,List.append_nil]
 | succ q ih=>
  intro k f next e1 e2 e3
  obtain ⟨f,rfl⟩:∃m,f=m+1:=⟨f-1,by omega⟩
  have hk:k<ball.length:=by omega
  have ek:at_ I ball k=ball[k]:=at_get (e:=I) hk
  have ht:G_toIntS (list,())=some (list,()):=by
   unfold G_toIntS
   rw [if_pos (show okL list=true from decide_eq_true (by unfold lim;omega))]
  have c1:decide (list.length+List.length [ball[k]]<=lim)=true:=by unfold lim;simp;omega
  have c2:decide (next.length+List.length [list++[ball[k]]]<=lim)=true:=by unfold lim;simp;omega
  show q25q_l4_r _ _ _=_
  unfold q25q_l4_r
  simp only [lt_dec hk,if_true,idxIn_nat hk,Int.toNat_natCast,ek,ht,Option.bind_some,c1,c2,wrap8 hk hb]
  rw [ih (k+1) f _ (by omega) (by omega) (by simp;omega),List.drop_eq_getElem_cons hk,List.map_cons,List.append_assoc,List.singleton_append]
theorem cm_l2 (N:Nat) (hN:10<=N) {l:List Int} (hn:netB l=true) (u:Unit) (c:Nat) (hc:c<l.length) (cops:List Int) (n17 i:Int) (now:List (List Int)) (hnow:now.length<=64) (hle:∀l∈now,l.length<=1000):∀q j f (next:List (List Int)),j+q=now.length->q<f->next.length+8*q<=900 ->
  q25q_l2 N f ((l,u),(c:Int),next,cops,n17,i,now,(now.length:Int),(j:Int),())=some (.inl ((l,u),next++(now.drop j).flatMap (fun l'=>(ballM l (c:Int)).map fun x=>l'++[x]),cops,n17,i,())):=by
 intro q
 have hb:=ballM_len l (c:Int)
 induction q with
 | zero=>
  intro j f next e1 e2 e3
  obtain ⟨f,rfl⟩:∃m,f=m+1:=⟨f-1,by omega⟩
  have e:j=now.length:=by omega
  subst e
  rw [List.drop_of_length_le (Nat.le_refl _)]
  show q25q_l2_r _ _ _=_
  unfold q25q_l2_r
  simp only [lt_not,Bool.false_eq_true,if_false,List.flatMap_nil,List.append_nil]
 | succ q ih=>
  intro j f next e1 e2 e3
  obtain ⟨f,rfl⟩:∃m,f=m+1:=⟨f-1,by omega⟩
  have hj:j<now.length:=by omega
  have ej:at_ K_Si now j=now[j]:=at_get (e:=K_Si) hj
  have hin:=cm_l4 N (l,u) (c:Int) now[j] cops n17 i now (now.length:Int) (j:Int) (ballM l (c:Int)) hb (hle _ (List.getElem_mem hj)) (ballM l (c:Int)).length 0 N next (by omega) (by omega) (by omega)
  simp only [Int.natCast_zero,List.drop_zero] at hin
  have hw:IntKind.wrap .i64 ((j:Int)+1)=((j+1:Nat):Int):=by
   rw [wrap_in _ (by omega) (by omega)]
   rfl
  show q25q_l2_r _ _ _=_
  unfold q25q_l2_r
  simp only [lt_dec hj,if_true,idxIn_nat hj,Int.toNat_natCast,ej,closedM hn u hc,setOfM hn hc,Option.bind_some,hin,hw]
  rw [ih (j+1) f _ (by omega) (by omega) (by simp;omega),List.drop_eq_getElem_cons hj,List.flatMap_cons,List.append_assoc]
theorem cm_l0 (N:Nat) (hN:100<=N) {l:List Int} (hn:netB l=true) (u:Unit) (cops:List Int) (h3:cops.length<=3) (hc:∀c∈cops,inB 0 ((l.length:Int)-1) c=true):∀q i f (now:List (List Int)),i+q=cops.length->q<f->now.length<=8 ^ i->(∀l∈now,l.length=i) ->
  q25q_l0 N f ((l,u),now,cops,(cops.length:Int),(i:Int),())=some (.inl (chL (ballM l) (cops.drop i) now,())):=by
 intro q
 induction q with
 | zero=>
  intro i f now e1 e2 e3 e4
  obtain ⟨f,rfl⟩:∃m,f=m+1:=⟨f-1,by omega⟩
  have e:i=cops.length:=by omega
  subst e
  rw [List.drop_of_length_le (Nat.le_refl _)]
  show q25q_l0_r _ _ _=_
  unfold q25q_l0_r
  simp only [lt_not,Bool.false_eq_true,if_false,chL]
 | succ q ih=>
  intro i f now e1 e2 e3 e4
  obtain ⟨f,rfl⟩:∃m,f=m+1:=⟨f-1,by omega⟩
  have hi:i<cops.length:=by omega
  have ei:at_ I cops i=cops[i]:=at_get (e:=I) hi
  obtain ⟨b1,b2⟩:=inB_len (hc _ (List.getElem_mem hi))
  have hbl:=ballM_len l cops[i]
  have h64:now.length<=64:=by
   have:8 ^ i<=8 ^ 2:=Nat.pow_le_pow_right (by omega) (by omega)
   omega
  have hin:=cm_l2 N (by omega) hn u cops[i].toNat b2 cops (cops.length:Int) (i:Int) now h64 (fun l hl=>by rw [e4 l hl];omega) now.length 0 N [] (by omega) (by omega) (by simp;omega)
  rw [<- b1] at hin
  simp only [Int.natCast_zero,List.drop_zero,List.nil_append] at hin
  have hw:IntKind.wrap .i64 ((i:Int)+1)=((i+1:Nat):Int):=by
   rw [wrap_in _ (by omega) (by omega)]
   rfl
  show q25q_l0_r _ _ _=_
  unfold q25q_l0_r
  simp only [lt_dec hi,if_true,idxIn_nat hi,Int.toNat_natCast,ei,hin,Option.bind_some,hw]
  rw [List.drop_eq_getElem_cons hi]
  refine ih (i+1) f _ (by omega) (by omega) ?_ (flat_each e4)
  rw [flat_len,Nat.pow_succ]
  exact Nat.mul_le_mul e3 hbl
theorem cm_l6 (N:Nat):∀(rest pre:List (List Int)) f,rest.length<f->pre.length+rest.length<=900->(∀l∈rest,l.length<=900) ->
  q25q_l6 N f (pre++rest,(),((pre.length+rest.length:Nat):Int),(pre.length:Int),())=some (.inl (pre++rest.map sortI,())):=by
 intro rest
 induction rest with
 | nil=>
  intro pre f e1 e2 e3
  obtain ⟨f,rfl⟩:∃m,f=m+1:=⟨f-1,by omega⟩
  show q25q_l6_r _ _ _=_
  unfold q25q_l6_r
  simp only [List.length_nil,Nat.add_zero,lt_not,Bool.false_eq_true,if_false,List.map_nil]
 | cons x rest ih=>
  intro pre f e1 e2 e3
  obtain ⟨f,rfl⟩:∃m,f=m+1:=⟨f-1,by omega⟩
  have e2':pre.length+(rest.length+1)<=900:=by simpa using e2
  have hlt:decide ((pre.length:Int)<((pre.length+(x::rest).length:Nat):Int))=true:=decide_eq_true (by simp;omega)
  have hix:idxIn (pre.length:Int) (pre++x::rest).length=true:=idxIn_nat (by simp)
  have hs:G_sortI (x,())=some (sortI x,()):=by
   unfold G_sortI
   rw [if_pos (decide_eq_true (by have:=e3 x (by simp);unfold lim;show x.length<=_;omega))]
  have hw:IntKind.wrap .i64 ((pre.length:Int)+1)=((pre.length+1:Nat):Int):=by
   rw [wrap_in _ (by omega) (by omega)]
   rfl
  show q25q_l6_r _ _ _=_
  unfold q25q_l6_r
  simp only [hlt,hix,if_true,Int.toNat_natCast,at_midS,hs,Option.bind_some,set_midS,hw]
  have:=ih (pre++[sortI x]) f (by simp at e1;omega) (by simp;omega) (fun l hl=>e3 l (by simp [hl]))
  simp only [List.length_append,List.length_singleton,List.append_assoc,List.singleton_append] at this
  rw [show ((pre.length+(x::rest).length:Nat):Int)=((pre.length+1+rest.length:Nat):Int) by simp;omega]
  rw [this,List.map_cons]
theorem copMoves47_lim (d) (r) (h:G_copMoves d=some r):∃N,F_q25q N d=some r:=by
 obtain ⟨⟨l,u⟩,cops,_⟩:=d
 unfold G_copMoves at h
 split at h
 ·rename_i hc
  simp only [Bool.and_eq_true] at hc
  obtain ⟨hn,hc⟩:=hc
  have hn:netB l=true:=hn
  obtain ⟨h3,hin⟩:=nodes_parts hc
  have h:=Option.some.inj h
  subst h
  refine ⟨1000,?_⟩
  unfold F_q25q
  have h0:=cm_l0 1000 (by omega) hn u cops h3 hin cops.length 0 1000 [[]] (by omega) (by omega) (by simp) (by simp)
  simp only [Int.natCast_zero,List.drop_zero] at h0
  obtain ⟨f1,f2⟩:=chL_facts (ball:=ballM l) (cs:=cops) (now:=[[]]) (i:=0) (fun c _=>ballM_len l c) (by simp)
  have hlen:(chL (ballM l) cops [[]]).length<=512:=by
   have:8 ^ cops.length<=8 ^ 3:=Nat.pow_le_pow_right (by omega) h3
   have e:([[]]:List (List Int)).length=1:=rfl
   rw [e] at f1
   omega
  have h6:=cm_l6 1000 (chL (ballM l) cops [[]]) [] 1000 (by omega) (by simp;omega) (fun l hl=>by rw [f2 l hl];omega)
  simp only [List.nil_append,List.length_nil,Nat.zero_add,Int.natCast_zero] at h6
  have hok:okLL ((chL (ballM l) cops [[]]).map sortI)=true:=by
   unfold okLL
   rw [Bool.and_eq_true]
   refine ⟨decide_eq_true (by rw [List.length_map];unfold lim;omega),List.all_eq_true.2 fun y hy => ?_⟩
   obtain ⟨x,hx,rfl⟩:=List.mem_map.1 hy
   exact decide_eq_true (by rw [sort_len,f2 x hx];unfold lim;omega)
  have hok2:okLL (sortS ((chL (ballM l) cops [[]]).map sortI))=true:=by
   unfold okLL at hok |-
   rw [Bool.and_eq_true] at hok |-
   refine ⟨decide_eq_true (by rw [sortS_len];exact okL_lim hok.1),List.all_eq_true.2 fun y hy => ?_⟩
   exact List.all_eq_true.1 hok.2 y ((sortS_perm _).mem_iff.1 hy)
  simp only [h0,Option.bind_some,h6,G_sortF,hok,if_true,G_compactF,hok2]
  rfl
 ·cases h
end Go.V.W
namespace Go.V.W
open Go.Proofs
theorem less_int (a b:Int) (u:Unit):g_q67q (a,b,u)=(decide (a<b),()):=by
 unfold g_q67q g_q61q
 simp only [bne_self_eq_false,Bool.false_eq_true,if_false]
theorem isSorted_lim (d) (r) (h:G_isSorted d=some r):∃N,F_q5q N d=some r:=by
 obtain ⟨l,_⟩:=d
 unfold G_isSorted at h
 split at h
 ·rename_i hl
  have hl:l.length<=lim:=of_decide_eq_true hl
  have hmx:=lim_max hl
  have h:=Option.some.inj h
  subst h
  refine ⟨l.length+1,?_⟩
  unfold F_q5q
  have key:∀i f,i<f->i<l.length -> ∃o,q5q_l0 (l.length+1) f (l,(i:Int),())=some o/\((o=.inl (false,()) /\ ¬ ∀j,0<j->j<=i->at_ I l (j-1)<=at_ I l j)\/(o=.inr (.inl ()) /\ ∀j,0<j->j<=i->at_ I l (j-1)<=at_ I l j)):=by
   intro i
   induction i with
   | zero=>
    intro f e1 e2
    obtain ⟨f,rfl⟩:∃m,f=m+1:=⟨f-1,by omega⟩
    refine ⟨.inr (.inl ()),?_,.inr ⟨rfl,fun j h1 h2=>by omega⟩⟩
    show q5q_l0_r _ _ _=_
    unfold q5q_l0_r
    simp
   | succ i ih=>
    intro f e1 e2
    obtain ⟨f,rfl⟩:∃m,f=m+1:=⟨f-1,by omega⟩
    have hg:decide (((i+1:Nat):Int)>0)=true:=decide_eq_true (by omega)
    have hi':i<l.length:=by omega
    show ∃o,q5q_l0_r _ _ _=some o/\_
    unfold q5q_l0_r
    simp only [hg,if_true,idxIn_nat e2,wrap_down (show 0<i+1 by omega) (show i+1<=maxLen by omega),Nat.add_sub_cancel,idxIn_nat hi',Int.toNat_natCast,less_int]
    by_cases hc:at_ I l (i+1)<at_ I l i
    ·simp only [hc,decide_true,if_true]
     refine ⟨_,rfl,.inl ⟨rfl,fun hh => ?_⟩⟩
     have:=hh (i+1) (by omega) (Nat.le_refl _)
     exact absurd hc (Int.not_lt.2 this)
    ·simp only [hc,decide_false,Bool.false_eq_true,if_false]
     obtain ⟨o,o1,o2⟩:=ih f (by omega) hi'
     refine ⟨o,o1,?_⟩
     rcases o2 with ⟨rfl,h2⟩ | ⟨rfl,h2⟩
     ·exact .inl ⟨rfl,fun hh=>h2 fun j h3 h4=>hh j h3 (by omega)⟩
     ·refine .inr ⟨rfl,fun j h3 h4 => ?_⟩
      by_cases e:j=i+1
      ·subst e
       exact Int.not_lt.1 hc
      ·exact h2 j h3 (by omega)
  by_cases hz:l.length=0
  ·have:l=[]:=List.length_eq_zero_iff.1 hz
   subst this
   rfl
  ·have hw:IntKind.wrap .i64 ((l.length:Int)-1)=((l.length-1:Nat):Int):=wrap_down (by omega) hmx
   obtain ⟨o,o1,o2⟩:=key (l.length-1) (l.length+1) (by omega) (by omega)
   simp only [hw,o1,Option.bind_some]
   rcases o2 with ⟨rfl,h2⟩ | ⟨rfl,h2⟩
   ·have:ndB l=false:=(Bool.not_eq_true _).mp fun hh=>h2 fun j h3 h4=>(ndB_iff l).1 hh j h3 (by omega)
    simp only [this]
   ·have:ndB l=true:=(ndB_iff l).2 fun j h3 h4=>h2 j h3 (by omega)
    simp only [this]
 ·cases h
theorem moves_ok {ball:Int->List Int} {cs:List Int} (h3:cs.length<=3) (hb:∀c∈cs,(ball c).length<=8):okLL (movesL ball cs)=true:=by
 obtain ⟨f1,f2⟩:=chL_facts (ball:=ball) (cs:=cs) (now:=[[]]) (i:=0) hb (by simp)
 have hlen:(chL ball cs [[]]).length<=512:=by
  have:8 ^ cs.length<=8 ^ 3:=Nat.pow_le_pow_right (by omega) h3
  have e:([[]]:List (List Int)).length=1:=rfl
  rw [e] at f1
  omega
 have hcl:(movesL ball cs).length<=512:=by
  unfold movesL compL
  rw [List.length_map]
  refine Nat.le_trans (keepI_le _ _) ?_
  rw [sortS_len,List.length_map]
  exact hlen
 unfold okLL
 rw [Bool.and_eq_true]
 refine ⟨decide_eq_true (by unfold lim;omega),List.all_eq_true.2 fun y hy => ?_⟩
 have hy2:=(sortS_perm _).mem_iff.1 ((comp_mem y).1 hy)
 obtain ⟨x,hx,rfl⟩:=List.mem_map.1 hy2
 exact decide_eq_true (by rw [sort_len,f2 x hx];unfold lim;omega)
theorem cops_nodes {n:Int} {c:List Int} (h:copsB n c=true) (h3:c.length<=3):nodesB n c=true:=by
 unfold copsB at h
 rw [Bool.and_eq_true] at h
 unfold nodesB
 rw [Bool.and_eq_true]
 exact ⟨decide_eq_true h3,h.1⟩
end Go.V.W
namespace Go.V.W
open Go.Proofs
theorem are_cops {n:Int} {es:List E} {v u:Unit} {l:List Int} (hg:graphB (n,es,v)=true) (ho:okL es=true) (hl:okL l=true):F_q69q 0 ((n,es,v),l,u)=some (decide (n>0)&&inB 1 3 (l.length:Int)&&copsB n l,()):=by
 unfold F_q69q F_q48q G_graph G_isSorted copsB
 simp only [ho,hl,hg,if_true,Option.bind_some,within_eq,has_nodes n es v () l ho hl,Bool.true_and]
 cases decide (n>0) with
 | false=>simp only [Bool.false_eq_true,if_false,Option.bind_some,Bool.false_and]
 | true=>
  simp only [if_true,Option.bind_some,Bool.true_and]
  cases inB 1 3 (l.length:Int) with
  | false=>simp only [Bool.false_eq_true,if_false,Bool.false_and]
  | true=>
   simp only [if_true,Bool.true_and]
   cases l.all (inB 0 (n-1)) with
   | false=>simp only [Bool.false_eq_true,if_false,Bool.false_and]
   | true=>simp only [if_true,Bool.true_and]
end Go.V.W
namespace Go.V.W
open Go.Proofs
theorem has1 {S:List Int} {y:Int} (h:okL S=true) (u:Unit):G_l1Has (S,y,u)=some (hasL S y,()):=by
 unfold G_l1Has hasL
 simp only [h,if_true]
end Go.V.W
namespace Go.V.W
open Go.Proofs
theorem has2 {S:List Int} {y:Int} (h:okL S=true) (u:Unit):F_q6q 0 (S,y,u)=some (hasL S y,()):=by
 unfold F_q6q G_index
 have hge:=idxI_ge (fun z=>y==z) S 0
 simp only [h,if_true,Option.bind_some,ge_iff_le,hge]
 unfold hasL
 have:(fun z=>y==z)=fun z:Int=>z==y:=by
  funext z
  rw [Bool.beq_comm]
 rw [this]
theorem nodeX {m:Nat} {z:Int} (h:inB 0 ((m:Int)-1) z=true):∃x:Nat,z=(x:Int)/\x<m:=by
 have:=inB_iff.1 h
 exact ⟨z.toNat,by omega,by omega⟩
theorem ball_two {m:Nat} {es:List E} {v:Unit} (hg:graphB ((m:Int),es,v)=true) (ho:okL es=true) {x:Nat} (hx:x<m):ballL m es (x:Int)=ballF m es (x:Int):=by
 obtain ⟨n0,n8⟩:=graphB_n hg
 have h1:=ball_some (graph_grB hg ho) (x:=x) (by simpa using hx)
 rw [ball_eq ((m:Int),es,v) m rfl (by omega) ho] at h1
 have:=congrArg Prod.fst (Option.some.inj h1)
 simpa using this
end Go.V.W
namespace Go.V.W
open Go.Proofs
theorem netB_small {l:List Int} (h:netB l=true):smallN l=true:=by
 unfold netB at h
 rw [Bool.and_eq_true] at h
 exact h.1
theorem around_some {l:List Int} (h:netB l=true) (u v:Unit) {s:Nat} (hs:s<256):G_around ((l,u),(s:Int),v)=some (((arN (fromI l) s l.length 0 s:Nat):Int),()):=by
 unfold G_around
 simp only [netB_small h,nonneg_dec,Bool.and_self,Bool.true_and,Int.toNat_natCast,decide_eq_true (show (s:Int)<256 by omega),if_true]
end Go.V.W
namespace Go.V.W
open Go.Proofs
theorem setOf_some {m:Nat} (h:m<256) (u:Unit):G_setOf ((m:Int),u)=some (setF (fun y=>m.testBit y) 8 0,()):=by
 unfold G_setOf
 simp only [nonneg_dec,Bool.true_and,decide_eq_true (show (m:Int)<256 by omega),if_true,Int.toNat_natCast]
end Go.V.W
namespace Go.V.W
open Go.Proofs
theorem lt_snoc1:∀{a b:List Int} {x y:Int},a.length=b.length->cmpL a b<0->cmpL (a++[x]) (b++[y])<0:=by
 intro a
 induction a with
 | nil=>
  intro b x y h1 h2
  cases b with
  | nil=>simp [cmpL] at h2
  | cons c b=>simp at h1
 | cons c a ih=>
  intro b x y h1 h2
  cases b with
  | nil=>simp at h1
  | cons e b=>
   simp only [cmpL,List.cons_append] at h2 |-
   by_cases h3:c<e
   ·rw [if_pos h3];omega
   ·rw [if_neg h3] at h2 |-
    by_cases h4:e<c
    ·rw [if_pos h4] at h2;omega
    ·rw [if_neg h4] at h2 |-
     exact ih (by simpa using h1) h2
theorem lt_snoc2:∀{a:List Int} {x y:Int},x<y->cmpL (a++[x]) (a++[y])<0:=by
 intro a
 induction a with
 | nil=>intro x y h;simp [cmpL,h]
 | cons c a ih=>
  intro x y h
  simp only [cmpL,List.cons_append,Int.lt_irrefl,if_false]
  exact ih h
theorem upTo_mem {a n:Nat} {x:Int}:x∈upTo a n ↔ ∃y:Nat,a<=y/\y<n/\x=(y:Int):=by
 unfold upTo
 simp only [List.mem_map,List.mem_range'_1]
 constructor
 ·rintro ⟨y,hy,rfl⟩
  exact ⟨y,by omega,by omega,rfl⟩
 ·rintro ⟨y,h1,h2,rfl⟩
  exact ⟨y,by omega,rfl⟩
theorem confL_len {n:Nat}:∀{k:Nat} {l:List Int},l∈confL n k->l.length=k:=by
 intro k
 induction k with
 | zero=>intro l h;simp [confL] at h;simp [h]
 | succ k ih=>
  intro l h
  unfold confL at h
  obtain ⟨a,ha,h2⟩:=List.mem_flatMap.1 h
  obtain ⟨x,_,rfl⟩:=List.mem_map.1 h2
  simp [ih ha]
theorem confL_rise (n:Nat):∀k:Nat,(confL n k).Pairwise ltL:=by
 intro k
 induction k with
 | zero=>simp [confL]
 | succ k ih=>
  unfold confL
  rw [List.pairwise_flatMap]
  refine ⟨fun a _ => ?_,?_⟩
  ·rw [List.pairwise_map]
   unfold upTo
   rw [List.pairwise_map]
   refine List.Pairwise.imp (fun {i j} h => ?_) (List.pairwise_lt_range' (s:=(a.getLastD 0).toNat) (n:=n-(a.getLastD 0).toNat))
   exact lt_snoc2 (by omega)
  ·refine List.Pairwise.imp_of_mem (fun {a b} ha hb h x hx y hy => ?_) ih
   obtain ⟨p,_,rfl⟩:=List.mem_map.1 hx
   obtain ⟨q,_,rfl⟩:=List.mem_map.1 hy
   exact lt_snoc1 (by rw [confL_len ha,confL_len hb]) h
theorem ndB_snoc:∀{l:List Int} {x:Int},ndB (l++[x])=(ndB l&&(match l.getLast? with | none=>true | some y=>decide (y<=x))):=by
 intro l
 induction l with
 | nil=>intro x;rfl
 | cons a l ih=>
  intro x
  cases l with
  | nil=>simp [ndB]
  | cons b l=>
   have:=ih (x:=x)
   simp only [List.cons_append,ndB] at this |-
   rw [this,List.getLast?_cons_cons,Bool.and_assoc]
theorem confL_mem {n:Nat}:∀{k:Nat} {l:List Int},l∈confL n k↔l.length=k/\copsB (n:Int) l=true:=by
 intro k
 induction k with
 | zero=>
  intro l
  simp only [confL,List.mem_singleton,List.length_eq_zero_iff]
  constructor
  ·rintro rfl;exact ⟨rfl,rfl⟩
  ·intro h;exact h.1
 | succ k ih=>
  intro l
  unfold confL
  rw [List.mem_flatMap]
  constructor
  ·rintro ⟨a,ha,h2⟩
   obtain ⟨x,hx,rfl⟩:=List.mem_map.1 h2
   obtain ⟨y,h3,h4,rfl⟩:=upTo_mem.1 hx
   obtain ⟨h5,h6⟩:=ih.1 ha
   refine ⟨by simp [h5],?_⟩
   unfold copsB at h6 |-
   rw [Bool.and_eq_true] at h6
   rw [List.all_append,ndB_snoc,h6.1,h6.2]
   simp only [List.all_cons,List.all_nil,Bool.true_and,Bool.and_true,Bool.and_eq_true]
   refine ⟨inB_iff.2 (by omega),?_⟩
   cases hg:a.getLast? with
   | none=>rfl
   | some z=>
    rw [List.getLastD_eq_getLast?,hg] at h3
    simp only [Option.getD_some] at h3
    exact decide_eq_true (by omega)
  ·rintro ⟨h1,h2⟩
   have hne:l≠[]:=fun h=>by simp [h] at h1
   refine ⟨l.dropLast,ih.2 ⟨by simp [h1],?_⟩,List.mem_map.2 ⟨l.getLast hne,?_,List.dropLast_concat_getLast hne⟩⟩
   ·have e:=List.dropLast_concat_getLast hne
    rw [<- e] at h2
    unfold copsB at h2 |-
    rw [List.all_append,ndB_snoc] at h2
    simp only [Bool.and_eq_true] at h2
    rw [Bool.and_eq_true]
    exact ⟨h2.1.1,h2.2.1⟩
   ·have e:=List.dropLast_concat_getLast hne
    rw [<- e] at h2
    unfold copsB at h2
    rw [List.all_append,ndB_snoc] at h2
    simp only [Bool.and_eq_true,List.all_cons,List.all_nil,and_true] at h2
    have h3:=inB_iff.1 h2.1.2
    refine upTo_mem.2 ⟨(l.getLast hne).toNat,?_,by omega,by omega⟩
    rw [List.getLastD_eq_getLast?]
    have h4:=h2.2.2
    cases hg:l.dropLast.getLast? with
    | none=>simp
    | some z=>
     rw [hg] at h4
     have h4:=of_decide_eq_true h4
     simp only [Option.getD_some]
     omega
theorem confL_120 {n k:Nat} (hn:n<=8) (hk:k<=3):(confL n k).length<=120:=by
 have key:∀n:Fin 9,∀k:Fin 4,(confL n.1 k.1).length<=120:=by decide +kernel
 exact key ⟨n,by omega⟩ ⟨k,by omega⟩
theorem riseB_iff:∀{l:List (List Int)},riseB l=true↔l.Pairwise ltL:=by
 intro l
 induction l with
 | nil=>simp [riseB]
 | cons a l ih=>
  cases l with
  | nil=>simp [riseB]
  | cons b l=>
   unfold riseB
   rw [Bool.and_eq_true,ih,decide_eq_true_eq]
   constructor
   ·rintro ⟨h1,h2⟩
    refine List.pairwise_cons.2 ⟨fun c hc => ?_,h2⟩
    rcases List.mem_cons.1 hc with rfl | hc
    ·exact h1
    ·exact ltL_trans h1 ((List.pairwise_cons.1 h2).1 c hc)
   ·intro h
    obtain ⟨h1,h2⟩:=List.pairwise_cons.1 h
    exact ⟨h1 b (by simp),h2⟩
theorem memB_iff {cf:List (List Int)} {c:List Int}:memB cf c=true↔c∈cf:=by
 unfold memB
 rw [List.any_eq_true]
 constructor
 ·rintro ⟨x,h1,h2⟩
  rw [<- of_decide_eq_true h2]
  exact h1
 ·intro h
  exact ⟨c,h,decide_eq_true rfl⟩
theorem idxN_at {α:Type} {q:α->Bool}:∀{l:List α} {i:Nat},(∃x∈l,q x=true) -> ∃j,j<l.length/\idxN q l i=some (i+j) /\ ∃h:j<l.length,q l[j]=true:=by
 intro l
 induction l with
 | nil=>intro i ⟨x,hx,_⟩;simp at hx
 | cons a l ih=>
  intro i ⟨x,hx,hq⟩
  unfold idxN
  by_cases ha:q a=true
  ·rw [if_pos ha]
   exact ⟨0,by simp,by simp,by simp,by simpa using ha⟩
  ·rw [if_neg ha]
   have:∃x∈l,q x=true:=by
    rcases List.mem_cons.1 hx with rfl | hx
    ·exact absurd hq ha
    ·exact ⟨x,hx,hq⟩
   obtain ⟨j,h1,h2,h3,h4⟩:=ih (i:=i+1) this
   exact ⟨j+1,by simp;omega,by rw [h2];congr 1;omega,by simp;omega,by simpa using h4⟩
theorem place_at {cf:List (List Int)} {c:List Int} (h:c∈cf):∃i,i<cf.length/\placeL cf c=(i:Int)/\cf.getD i []=c:=by
 obtain ⟨j,h1,h2,h3,h4⟩:=idxN_at (q:=fun y=>decide (y=c)) (i:=0) ⟨c,h,decide_eq_true rfl⟩
 refine ⟨j,h1,?_,?_⟩
 ·unfold placeL
  rw [h2]
  simp [idxI]
 ·rw [List.getD_eq_getElem?_getD,List.getElem?_eq_getElem h3]
  simpa using h4
theorem place_rng {cf:List (List Int)} {c:List Int} (h:c∈cf):inB 0 ((cf.length:Int)-1) (placeL cf c)=true:=by
 obtain ⟨i,h1,h2,_⟩:=place_at h
 exact inB_iff.2 (by omega)
theorem ndB_of {l:List Int} (h:l.Pairwise (· <= ·)):ndB l=true:=by
 induction l with
 | nil=>rfl
 | cons a l ih=>
  rw [List.pairwise_cons] at h
  cases l with
  | nil=>rfl
  | cons b l=>
   unfold ndB
   rw [Bool.and_eq_true]
   exact ⟨decide_eq_true (h.1 b (by simp)),ih h.2⟩
theorem chL_all {p:Int->Bool} {ball:Int->List Int}:∀{cs:List Int} {now:List (List Int)},(∀c∈cs,∀x∈ball c,p x=true)->(∀l∈now,l.all p=true) -> ∀l∈chL ball cs now,l.all p=true:=by
 intro cs
 induction cs with
 | nil=>intro now _ h;exact h
 | cons c cs ih=>
  intro now hb h
  refine ih (fun c hc=>hb c (by simp [hc])) fun l hl => ?_
  obtain ⟨a,ha,h2⟩:=List.mem_flatMap.1 hl
  obtain ⟨x,hx,rfl⟩:=List.mem_map.1 h2
  rw [List.all_append,h a ha]
  simp [hb c (by simp) x hx]
theorem moves_mem {n:Nat} {ball:Int->List Int} {c:List Int} (hb:∀x∈c,(ball x).length<=8) (hb2:∀x∈c,∀y∈ball x,inB 0 ((n:Int)-1) y=true) {m:List Int} (h:m∈movesL ball c):m∈confL n c.length:=by
 have h2:=(sortS_perm _).mem_iff.1 ((comp_mem m).1 h)
 obtain ⟨x,hx,rfl⟩:=List.mem_map.1 h2
 obtain ⟨f1,f2⟩:=chL_facts (ball:=ball) (cs:=c) (now:=[[]]) (i:=0) hb (by simp)
 have f3:=chL_all (p:=inB 0 ((n:Int)-1)) (ball:=ball) (cs:=c) (now:=[[]]) hb2 (by simp) x hx
 refine confL_mem.2 ⟨by rw [sort_len,f2 x hx];simp,?_⟩
 unfold copsB
 rw [Bool.and_eq_true]
 refine ⟨List.all_eq_true.2 fun y hy=>List.all_eq_true.1 f3 y ((sortI_perm x).mem_iff.1 hy),ndB_of (sortI_sorted x)⟩
theorem moves_len {ball:Int->List Int} {cs:List Int} (h3:cs.length<=3) (hb:∀c∈cs,(ball c).length<=8):(movesL ball cs).length<=512:=by
 obtain ⟨f1,f2⟩:=chL_facts (ball:=ball) (cs:=cs) (now:=[[]]) (i:=0) hb (by simp)
 have hlen:(chL ball cs [[]]).length<=512:=by
  have:8 ^ cs.length<=8 ^ 3:=Nat.pow_le_pow_right (by omega) h3
  have e:([[]]:List (List Int)).length=1:=rfl
  rw [e] at f1
  omega
 unfold movesL compL
 rw [List.length_map]
 refine Nat.le_trans (keepI_le _ _) ?_
 rw [sortS_len,List.length_map]
 exact hlen
theorem copsB_in {n:Int} {l:List Int} (h:copsB n l=true):∀x∈l,inB 0 (n-1) x=true:=by
 unfold copsB at h
 rw [Bool.and_eq_true] at h
 exact List.all_eq_true.1 h.1
theorem board_ok {n:Nat} (hn:n<=8) {k:Nat} (hk:k<=3) {ball:Int->List Int} (hb:∀x:Nat,x<n->(ball (x:Int)).length<=8) (hb2:∀x:Nat,x<n -> ∀y∈ball (x:Int),inB 0 ((n:Int)-1) y=true):gmB n (confL n k) (movesI ball (confL n k))=true:=by
 unfold gmB
 simp only [Bool.and_eq_true,decide_eq_true_eq,List.all_eq_true]
 refine ⟨⟨⟨confL_120 hn hk,by simp [movesI]⟩,fun c hc => ?_⟩,fun l hl => ?_⟩
 ·obtain ⟨h1,h2⟩:=confL_mem.1 hc
  exact ⟨by omega,copsB_in h2⟩
 ·obtain ⟨c,hc,rfl⟩:=List.mem_map.1 hl
  obtain ⟨h1,h2⟩:=confL_mem.1 hc
  have h3:=copsB_in h2
  have g1:∀x∈c,(ball x).length<=8:=fun x hx=>by
   have:=inB_iff.1 (h3 x hx)
   have e:x=((x.toNat:Nat):Int):=by omega
   rw [e]
   exact hb _ (by omega)
  have g2:∀x∈c,∀y∈ball x,inB 0 ((n:Int)-1) y=true:=fun x hx=>by
   have:=inB_iff.1 (h3 x hx)
   have e:x=((x.toNat:Nat):Int):=by omega
   rw [e]
   exact hb2 _ (by omega)
  refine ⟨?_,fun p hp => ?_⟩
  ·rw [List.length_map]
   have:=moves_len (ball:=ball) (cs:=c) (by omega) g1
   omega
  ·obtain ⟨m,hm,rfl⟩:=List.mem_map.1 hp
   have:=moves_mem g1 g2 hm
   rw [h1] at this
   exact place_rng this
theorem okLL_conf {n k:Nat} (hn:n<=8) (hk:k<=3):okLL (confL n k)=true:=by
 have h:=confL_120 hn hk
 unfold okLL
 rw [Bool.and_eq_true]
 refine ⟨decide_eq_true (by unfold lim;omega),List.all_eq_true.2 fun l hl=>decide_eq_true ?_⟩
 rw [confL_len hl]
 unfold lim
 omega
end Go.V.W
namespace Go.V.W
open Go.Proofs
def growL (n:Nat) (l:List Int):List (List Int):=(upTo (l.getLastD 0).toNat n).map fun x=>l++[x]
theorem confL_succ (n k:Nat):confL n (k+1)=(confL n k).flatMap (growL n):=rfl
theorem upTo_cons {a n:Nat} (h:a<n):upTo a n=(a:Int)::upTo (a+1) n:=by
 unfold upTo
 rw [show n-a=(n-(a+1))+1 by omega,List.range'_succ]
 rfl
theorem upTo_nil (n:Nat):upTo n n=[]:=by simp [upTo]
theorem growL_len (n:Nat) (l:List Int):(growL n l).length<=n:=by simp [growL,upTo]
theorem conf_last {n k:Nat} {l:List Int} (h:l∈confL n k):0<=l.getLastD 0/\l.getLastD 0<=(n:Int):=by
 obtain ⟨h1,h2⟩:=confL_mem.1 h
 rw [List.getLastD_eq_getLast?]
 cases hg:l.getLast? with
 | none=>simp
 | some z=>
  have:=inB_iff.1 (copsB_in h2 z (List.mem_of_getLast? hg))
  simp only [Option.getD_some]
  omega
theorem last_at {l:List Int} (h:0<l.length):at_ I l (l.length-1)=l.getLastD 0:=by
 have e:at_ I l (l.length-1)=l[l.length-1]:=at_get (e:=I) (by omega)
 rw [e,List.getLastD_eq_getLast?,List.getLast?_eq_getElem?,List.getElem?_eq_getElem (by omega)]
 rfl
theorem cf_l4 (N n:Nat) (hn:n<=8) (k i:Int) (now:List (List Int)) (j:Nat) (hj:j<now.length) (hlen:now[j].length<=1000):∀q x f (next:List (List Int)),x+q=n->q<f->next.length+q<=1000 ->
  q47q_l4 N f ((n:Int),k,now,i,next,(j:Int),(x:Int),())=some (.inl ((n:Int),k,now,i,next++(upTo x n).map (fun x=>now[j]++[x]),(j:Int),())):=by
 intro q
 induction q with
 | zero=>
  intro x f next e1 e2 e3
  obtain ⟨f,rfl⟩:∃m,f=m+1:=⟨f-1,by omega⟩
  have e:x=n:=by omega
  subst e
  rw [upTo_nil]
  show q47q_l4_r _ _ _=_
  unfold q47q_l4_r
  simp only [lt_not,Bool.false_eq_true,if_false,List.map_nil,List.append_nil]
 | succ q ih=>
  intro x f next e1 e2 e3
  obtain ⟨f,rfl⟩:∃m,f=m+1:=⟨f-1,by omega⟩
  have hx:x<n:=by omega
  have ej:at_ K_Si now j=now[j]:=at_get (e:=K_Si) hj
  have c1:decide (now[j].length+List.length [(x:Int)]<=lim)=true:=by unfold lim;simp;omega
  have c2:decide (next.length+List.length [now[j]++[(x:Int)]]<=lim)=true:=by unfold lim;simp;omega
  show q47q_l4_r _ _ _=_
  unfold q47q_l4_r
  simp only [lt_dec hx,if_true,idxIn_nat hj,Int.toNat_natCast,ej,own_some now[j] hlen,Option.bind_some,c1,c2,wrap8 hx hn]
  rw [ih (x+1) f _ (by omega) (by omega) (by simp;omega),upTo_cons hx,List.map_cons,List.append_assoc,List.singleton_append]
theorem small_wrap {j:Nat} (h:j<=100000):IntKind.wrap .i64 ((j:Int)+1)=((j+1:Nat):Int):=by
 rw [wrap_in _ (by omega) (by omega)]
 rfl
theorem cf_l2 (N:Nat) (hN:10<=N) (n:Nat) (hn:n<=8) (k:Int) (i:Nat) (hi3:i<=3) (now:List (List Int)) (hnow:now.length<=120) (hle:∀l∈now,l.length=i/\0<=l.getLastD 0/\l.getLastD 0<=(n:Int)):∀q j f (next:List (List Int)),j+q=now.length->q<f->next.length+8*q<=990 ->
  q47q_l2 N f ((n:Int),k,now,(i:Int),next,(j:Int),())=some (.inl ((n:Int),k,(i:Int),next++(now.drop j).flatMap (growL n),())):=by
 intro q
 induction q with
 | zero=>
  intro j f next e1 e2 e3
  obtain ⟨f,rfl⟩:∃m,f=m+1:=⟨f-1,by omega⟩
  have e:j=now.length:=by omega
  subst e
  rw [List.drop_of_length_le (Nat.le_refl _)]
  show q47q_l2_r _ _ _=_
  unfold q47q_l2_r
  simp only [lt_not,Bool.false_eq_true,if_false,List.flatMap_nil,List.append_nil]
 | succ q ih=>
  intro j f next e1 e2 e3
  obtain ⟨f,rfl⟩:∃m,f=m+1:=⟨f-1,by omega⟩
  have hj:j<now.length:=by omega
  obtain ⟨h1,h2,h3⟩:=hle _ (List.getElem_mem hj)
  have ej:at_ K_Si now j=now[j]:=at_get (e:=K_Si) hj
  have hin:=cf_l4 N n hn k (i:Int) now j hj (by omega) (n-(now[j].getLastD 0).toNat) (now[j].getLastD 0).toNat N next (by omega) (by omega) (by omega)
  have e4:(((now[j].getLastD 0).toNat:Nat):Int)=now[j].getLastD 0:=by omega
  rw [e4] at hin
  have hg:(upTo (now[j].getLastD 0).toNat n).map (fun x=>now[j]++[x])=growL n now[j]:=rfl
  rw [hg] at hin
  have hgl:=growL_len n now[j]
  have fin:=ih (j+1) f (next++growL n now[j]) (by omega) (by omega) (by simp;omega)
  rw [List.append_assoc,<- List.flatMap_cons,<- List.drop_eq_getElem_cons hj] at fin
  show q47q_l2_r _ _ _=_
  unfold q47q_l2_r
  by_cases hi:0<i
  ·have hp:decide ((i:Int)>0)=true:=by simp;omega
   have hw:IntKind.wrap .i64 ((i:Int)-1)=((i-1:Nat):Int):=wrap_down hi (by unfold maxLen;omega)
   have hx:idxIn ((i-1:Nat):Int) now[j].length=true:=idxIn_nat (by omega)
   have hl:at_ I now[j] (i-1)=now[j].getLastD 0:=by
    rw [<- h1]
    exact last_at (by omega)
   simp only [lt_dec hj,if_true,hp,idxIn_nat hj,hw,Int.toNat_natCast,ej,hx,hl,hin,Option.bind_some,small_wrap (show j<=100000 by omega),fin]
  ·have hp:decide ((i:Int)>0)=false:=by simp;omega
   have hl:now[j].getLastD 0=0:=by
    have:now[j]=[]:=List.length_eq_zero_iff.1 (by omega)
    rw [this]
    rfl
   rw [hl] at hin
   simp only [lt_dec hj,if_true,hp,Bool.false_eq_true,if_false,hin,Option.bind_some,small_wrap (show j<=100000 by omega),fin]
theorem cf_l0 (N:Nat) (hN:200<=N) (n:Nat) (hn:n<=8) (k:Nat) (hk:k<=3):∀q i f,i+q=k->q<f ->
  q47q_l0 N f ((n:Int),(k:Int),confL n i,(i:Int),())=some (.inl (confL n k,())):=by
 intro q
 induction q with
 | zero=>
  intro i f e1 e2
  obtain ⟨f,rfl⟩:∃m,f=m+1:=⟨f-1,by omega⟩
  have e:i=k:=by omega
  subst e
  show q47q_l0_r _ _ _=_
  unfold q47q_l0_r
  simp only [lt_not,Bool.false_eq_true,if_false]
 | succ q ih=>
  intro i f e1 e2
  obtain ⟨f,rfl⟩:∃m,f=m+1:=⟨f-1,by omega⟩
  have hi:i<k:=by omega
  have h120:=confL_120 hn (show i<=3 by omega)
  have hin:=cf_l2 N (by omega) n hn (k:Int) i (by omega) (confL n i) h120 (fun l hl=>⟨confL_len hl,conf_last hl⟩) (confL n i).length 0 N [] (by omega) (by omega) (by simp;omega)
  simp only [Int.natCast_zero,List.drop_zero,List.nil_append] at hin
  show q47q_l0_r _ _ _=_
  unfold q47q_l0_r
  simp only [lt_dec hi,if_true,hin,Option.bind_some,small_wrap (show i<=100000 by omega),<- confL_succ]
  exact ih (i+1) f (by omega) (by omega)
theorem conf_parts {d:Int×Int×Unit} {r} (h:G_configs d=some r):∃n k:Nat,n<=8/\k<=3/\d=((n:Int),(k:Int),())/\r=(confL n k,()):=by
 obtain ⟨n,k,_⟩:=d
 unfold G_configs at h
 split at h
 ·rename_i hc
  simp only [Bool.and_eq_true] at hc
  have h1:=inB_iff.1 hc.1
  have h2:=inB_iff.1 hc.2
  have h:=Option.some.inj h
  subst h
  refine ⟨n.toNat,k.toNat,by omega,by omega,?_,rfl⟩
  rw [show ((n.toNat:Nat):Int)=n by omega,show ((k.toNat:Nat):Int)=k by omega]
 ·cases h
theorem l4Configs_lim (d) (r) (h:G_configs d=some r):∃N,F_q47q N d=some r:=by
 obtain ⟨n,k,hn,hk,rfl,rfl⟩:=conf_parts h
 refine ⟨200,?_⟩
 have:=cf_l0 200 (by omega) n hn k hk k 0 200 (by omega) (by omega)
 unfold F_q47q
 simp only [Int.natCast_zero] at this
 have e:confL n 0=[[]]:=rfl
 rw [e] at this
 simp only [this,Option.bind_some]
theorem cl_l4 (N n:Nat) (hn:n<=8) (l:List Int) (hlen:l.length<=1000) (a b:Int) (now:List (List Int)) (c e:Int):∀q x f (next:List (List Int)),x+q=n->q<f->next.length+q<=1000 ->
  q59q_l4 N f ((n:Int),next,l,(x:Int),a,b,now,c,e,())=some (.inl ((n:Int),next++(upTo x n).map (fun x=>l++[x]),a,b,now,c,e,())):=by
 intro q
 induction q with
 | zero=>
  intro x f next e1 e2 e3
  obtain ⟨f,rfl⟩:∃m,f=m+1:=⟨f-1,by omega⟩
  have e:x=n:=by omega
  subst e
  rw [upTo_nil]
  show q59q_l4_r _ _ _=_
  unfold q59q_l4_r
  simp only [lt_not,Bool.false_eq_true,if_false,List.map_nil,List.append_nil]
 | succ q ih=>
  intro x f next e1 e2 e3
  obtain ⟨f,rfl⟩:∃m,f=m+1:=⟨f-1,by omega⟩
  have hx:x<n:=by omega
  have c0:okL l=true:=okL_of (by omega)
  have c1:decide (l.length+List.length [(x:Int)]<=lim)=true:=by unfold lim;simp;omega
  have c2:decide (next.length+List.length [l++[(x:Int)]]<=lim)=true:=by unfold lim;simp;omega
  show q59q_l4_r _ _ _=_
  unfold q59q_l4_r
  simp only [lt_dec hx,if_true,G_toIntS,c0,Option.bind_some,c1,c2,wrap8 hx hn]
  rw [ih (x+1) f _ (by omega) (by omega) (by simp;omega),upTo_cons hx,List.map_cons,List.append_assoc,List.singleton_append]
theorem cl_l2 (N:Nat) (hN:10<=N) (n:Nat) (hn:n<=8) (a b:Int) (now:List (List Int)) (hnow:now.length<=120) (hle:∀l∈now,l.length<=3/\0<=l.getLastD 0/\l.getLastD 0<=(n:Int)):∀q j f (next:List (List Int)),j+q=now.length->q<f->next.length+8*q<=990 ->
  q59q_l2 N f ((n:Int),next,a,b,now,(now.length:Int),(j:Int),())=some (.inl ((n:Int),next++(now.drop j).flatMap (growL n),a,b,())):=by
 intro q
 induction q with
 | zero=>
  intro j f next e1 e2 e3
  obtain ⟨f,rfl⟩:∃m,f=m+1:=⟨f-1,by omega⟩
  have e:j=now.length:=by omega
  subst e
  rw [List.drop_of_length_le (Nat.le_refl _)]
  show q59q_l2_r _ _ _=_
  unfold q59q_l2_r
  simp only [lt_not,Bool.false_eq_true,if_false,List.flatMap_nil,List.append_nil]
 | succ q ih=>
  intro j f next e1 e2 e3
  obtain ⟨f,rfl⟩:∃m,f=m+1:=⟨f-1,by omega⟩
  have hj:j<now.length:=by omega
  obtain ⟨h1,h2,h3⟩:=hle _ (List.getElem_mem hj)
  have ej:at_ K_Si now j=now[j]:=at_get (e:=K_Si) hj
  have hin:=cl_l4 N n hn now[j] (by omega) a b now (now.length:Int) (j:Int) (n-(now[j].getLastD 0).toNat) (now[j].getLastD 0).toNat N next (by omega) (by omega) (by omega)
  have e4:(((now[j].getLastD 0).toNat:Nat):Int)=now[j].getLastD 0:=by omega
  rw [e4] at hin
  have hg:(upTo (now[j].getLastD 0).toNat n).map (fun x=>now[j]++[x])=growL n now[j]:=rfl
  rw [hg] at hin
  have hgl:=growL_len n now[j]
  have fin:=ih (j+1) f (next++growL n now[j]) (by omega) (by omega) (by simp;omega)
  rw [List.append_assoc,<- List.flatMap_cons,<- List.drop_eq_getElem_cons hj] at fin
  show q59q_l2_r _ _ _=_
  unfold q59q_l2_r
  by_cases hi:0<now[j].length
  ·have hp:decide ((now[j].length:Int)>0)=true:=by simp;omega
   have hw:IntKind.wrap .i64 ((now[j].length:Int)-1)=((now[j].length-1:Nat):Int):=wrap_down hi (by unfold maxLen;omega)
   have hx:idxIn ((now[j].length-1:Nat):Int) now[j].length=true:=idxIn_nat (by omega)
   simp only [lt_dec hj,if_true,idxIn_nat hj,Int.toNat_natCast,ej,hp,hw,hx,last_at hi,hin,Option.bind_some,small_wrap (show j<=100000 by omega),fin]
  ·have hp:decide ((now[j].length:Int)>0)=false:=decide_eq_false (by omega)
   have hl:now[j].getLastD 0=0:=by
    have:now[j]=[]:=List.length_eq_zero_iff.1 (by omega)
    rw [this]
    rfl
   rw [hl] at hin
   simp only [lt_dec hj,if_true,idxIn_nat hj,Int.toNat_natCast,ej,hp,Bool.false_eq_true,if_false,hin,Option.bind_some,small_wrap (show j<=100000 by omega),fin]
theorem cl_l0 (N:Nat) (hN:200<=N) (n:Nat) (hn:n<=8) (k:Nat) (hk:k<=3):∀q i f,i+q=k->q<f ->
  q59q_l0 N f ((n:Int),confL n i,(k:Int),(i:Int),())=some (.inl (confL n k,())):=by
 intro q
 induction q with
 | zero=>
  intro i f e1 e2
  obtain ⟨f,rfl⟩:∃m,f=m+1:=⟨f-1,by omega⟩
  have e:i=k:=by omega
  subst e
  show q59q_l0_r _ _ _=_
  unfold q59q_l0_r
  simp only [lt_not,Bool.false_eq_true,if_false]
 | succ q ih=>
  intro i f e1 e2
  obtain ⟨f,rfl⟩:∃m,f=m+1:=⟨f-1,by omega⟩
  have hi:i<k:=by omega
  have h120:=confL_120 hn (show i<=3 by omega)
  have hin:=cl_l2 N (by omega) n hn (k:Int) (i:Int) (confL n i) h120 (fun l hl=>⟨by rw [confL_len hl];omega,conf_last hl⟩) (confL n i).length 0 N [] (by omega) (by omega) (by simp;omega)
  simp only [Int.natCast_zero,List.drop_zero,List.nil_append] at hin
  show q59q_l0_r _ _ _=_
  unfold q59q_l0_r
  simp only [lt_dec hi,if_true,hin,Option.bind_some,small_wrap (show i<=100000 by omega),<- confL_succ]
  exact ih (i+1) f (by omega) (by omega)
theorem copLists_lim (d) (r) (h:G_configs d=some r):∃N,F_q59q N d=some r:=by
 obtain ⟨n,k,hn,hk,rfl,rfl⟩:=conf_parts h
 refine ⟨200,?_⟩
 have:=cl_l0 200 (by omega) n hn k hk k 0 200 (by omega) (by omega)
 unfold F_q59q
 simp only [Int.natCast_zero] at this
 have e:confL n 0=[[]]:=rfl
 rw [e] at this
 simp only [this,Option.bind_some]
theorem mid_eq {i j:Nat} (h:i+j<=100000):IntKind.wrap .i64 (shr .u64 (IntKind.wrap .u64 (IntKind.wrap .i64 ((i:Int)+(j:Int)))) (1:Int))=(((i+j) / 2:Nat):Int):=by
 have e1:IntKind.wrap .i64 ((i:Int)+(j:Int))=((i+j:Nat):Int):=by
  rw [wrap_in _ (by omega) (by omega)]
  omega
 have e2:IntKind.wrap .u64 ((i+j:Nat):Int)=((i+j:Nat):Int):=Go.IntWalk.u64_in _ (by omega)
 have e3:shr .u64 ((i+j:Nat):Int) 1=(((i+j) / 2:Nat):Int):=by
  show ((i+j:Nat):Int).fdiv 2=_
  rw [Int.fdiv_eq_ediv_of_nonneg _ (by omega)]
  omega
 rw [e1,e2,e3]
 exact wrap_in _ (by omega) (by omega)
theorem bs_l0 (N:Nat) (cf:List (List Int)) (hr:cf.Pairwise ltL) (h1000:cf.length<=1000) (hok:okLL cf=true) (c:List Int) (hc:okL c=true) (p:Nat) (hp:p<cf.length) (hpc:cf[p]=c) (n:Int) (u:Unit×Unit):∀q i j f,i+q=j->i<=p->p<=j->j<=cf.length->q<f ->
  q0q_l0 N f (cf,c,u,n,(i:Int),(j:Int),())=some (.inl (cf,c,u,n,(p:Int),())):=by
 have hrise:=List.pairwise_iff_getElem.1 hr
 intro q
 induction q using Nat.strongRecOn with
 | ind q ih=>
  intro i j f e1 e2 e3 e4 e5
  obtain ⟨f,rfl⟩:∃m,f=m+1:=⟨f-1,by omega⟩
  by_cases hij:i<j
  ·have hm:(i+j) / 2<cf.length:=by omega
   have em:at_ K_Si cf ((i+j) / 2)=cf[(i+j) / 2]:=at_get (e:=K_Si) hm
   have hokm:okL cf[(i+j) / 2]=true:=by
    unfold okLL at hok
    rw [Bool.and_eq_true] at hok
    exact List.all_eq_true.1 hok.2 _ (List.getElem_mem hm)
   have hcmp:FV_q7q (cf[(i+j) / 2],c,u,())=some (cmpL cf[(i+j) / 2] c,()):=by
    unfold FV_q7q G_compare
    simp only [hokm,hc,Bool.and_self,if_true]
   have h01:decide ((0:Int)<=1)=true:=by decide
   show q0q_l0_r _ _ _=_
   unfold q0q_l0_r
   simp only [lt_dec hij,if_true,h01,mid_eq (show i+j<=100000 by omega),idxIn_nat hm,Int.toNat_natCast,em,hcmp,Option.bind_some]
   by_cases hlt:cmpL cf[(i+j) / 2] c<0
   ·have hpm:(i+j) / 2<p:=by
     rcases Nat.lt_trichotomy ((i+j) / 2) p with h | h | h
     ·exact h
     ·subst h
      rw [hpc,cmpL_self] at hlt
      omega
     ·have:=hrise p ((i+j) / 2) hp hm h
      rw [hpc] at this
      exact absurd (ltL_trans this hlt) (ltL_irr c)
    simp only [hlt,decide_true,if_true,small_wrap (show (i+j) / 2<=100000 by omega)]
    exact ih (j-((i+j) / 2+1)) (by omega) ((i+j) / 2+1) j f (by omega) (by omega) e3 e4 (by omega)
   ·have hpm:p<=(i+j) / 2:=by
     rcases Nat.lt_or_ge ((i+j) / 2) p with h | h
     ·have:=hrise ((i+j) / 2) p hm hp h
      rw [hpc] at this
      exact absurd this hlt
     ·exact h
    simp only [hlt,decide_false,Bool.false_eq_true,if_false]
    exact ih ((i+j) / 2-i) (by omega) i ((i+j) / 2) f (by omega) e2 hpm (by omega) (by omega)
  ·have e:i=j:=by omega
   subst e
   have e:i=p:=by omega
   subst e
   show q0q_l0_r _ _ _=_
   unfold q0q_l0_r
   simp only [lt_not,Bool.false_eq_true,if_false]
theorem binSearch_lim (d) (r) (h:G_bin d=some r):∃N,F_q0q N d=some r:=by
 obtain ⟨cf,c,u,_⟩:=d
 unfold G_bin at h
 split at h
 ·rename_i hc
  simp only [Bool.and_eq_true,decide_eq_true_eq] at hc
  obtain ⟨⟨⟨⟨h1,h2⟩,h3⟩,h4⟩,h5⟩:=hc
  have h:=Option.some.inj h
  subst h
  obtain ⟨p,p1,p2,p3⟩:=place_at (memB_iff.1 h5)
  have p4:cf[p]=c:=by
   rw [List.getD_eq_getElem?_getD,List.getElem?_eq_getElem p1] at p3
   simpa using p3
  refine ⟨2000,?_⟩
  have hl:=bs_l0 2000 cf (riseB_iff.1 h4) h1 h2 c h3 p p1 p4 (cf.length:Int) ((),()) cf.length 0 cf.length 2000 (by omega) (by omega) (by omega) (by omega) (by omega)
  have ep:at_ K_Si cf p=cf[p]:=at_get (e:=K_Si) p1
  have hokm:okL cf[p]=true:=by rw [p4];exact h3
  have hcmp:FV_q7q (cf[p],c,((),()),())=some (0,()):=by
   unfold FV_q7q G_compare
   simp only [hokm,h3,Bool.and_self,if_true,p4,cmpL_self]
  unfold F_q0q
  simp only [Int.natCast_zero] at hl
  simp only [hl,Option.bind_some,lt_dec p1,if_true,idxIn_nat p1,Int.toNat_natCast,ep,hcmp,p2,beq_self_eq_true]
 ·cases h
end Go.V.W
namespace Go.V.W
open Go.Proofs
theorem at_place {cf:List (List Int)} (h:okLL cf=true) (c:List Int):G_l4At (cf,c,())=some (placeL cf c,()):=by
 unfold G_l4At
 simp only [h,if_true]
 rfl
theorem mk_l2 (N:Nat) (g:Gr) (z y:Gm) (cf:List (List Int)) (hy:y.1=cf) (hok:okLL cf=true) (i:Int) (L:List (List Int)) (hL:L.length<=512):∀q j f (acc:List Int),j+q=L.length->q<f->acc.length+q<=1000 ->
  q83q_l2 N f (g,z,y,i,L,acc,(j:Int),())=some (.inl (g,z,y,i,acc++(L.drop j).map (placeL cf),())):=by
 intro q
 induction q with
 | zero=>
  intro j f acc e1 e2 e3
  obtain ⟨f,rfl⟩:∃m,f=m+1:=⟨f-1,by omega⟩
  have e:j=L.length:=by omega
  subst e
  rw [List.drop_of_length_le (Nat.le_refl _)]
  show q83q_l2_r _ _ _=_
  unfold q83q_l2_r
  simp only [lt_not,Bool.false_eq_true,if_false,List.map_nil,List.append_nil]
 | succ q ih=>
  intro j f acc e1 e2 e3
  obtain ⟨f,rfl⟩:∃m,f=m+1:=⟨f-1,by omega⟩
  have hj:j<L.length:=by omega
  have ej:at_ K_Si L j=L[j]:=at_get (e:=K_Si) hj
  have c1:decide (acc.length+List.length [placeL cf L[j]]<=lim)=true:=by unfold lim;simp;omega
  show q83q_l2_r _ _ _=_
  unfold q83q_l2_r
  simp only [lt_dec hj,if_true,idxIn_nat hj,Int.toNat_natCast,ej,hy,at_place hok,Option.bind_some,c1,small_wrap (show j<=100000 by omega)]
  rw [ih (j+1) f _ (by omega) (by omega) (by simp;omega),List.drop_eq_getElem_cons hj,List.map_cons,List.append_assoc,List.singleton_append]
theorem conf_nodes {n k:Nat} (hk:k<=3) {c:List Int} (h:c∈confL n k):nodesB (n:Int) c=true:=by
 obtain ⟨h1,h2⟩:=confL_mem.1 h
 exact cops_nodes h2 (by omega)
theorem mk_l0 (N:Nat) (hN:1000<=N) (g:Gr) (hG:grB g=true) (z:Gm) (k:Nat) (hk:k<=3):∀q i f (acc:List (List Int)),i+q=(confL g.1.toNat k).length->q<f->acc.length+q<=1000 ->
  q83q_l0 N f (g,z,(confL g.1.toNat k,acc,[],()),(i:Int),())=some (.inl (g,z,(confL g.1.toNat k,acc++((confL g.1.toNat k).drop i).map (fun c=>(movesL (ballF g.1.toNat g.2.1) c).map (placeL (confL g.1.toNat k))),[],()),())):=by
 obtain ⟨g1,g2,g3,g4⟩:=grB_parts hG
 have h120:=confL_120 g3 hk
 have hok:=okLL_conf g3 hk
 intro q
 induction q with
 | zero=>
  intro i f acc e1 e2 e3
  obtain ⟨f,rfl⟩:∃m,f=m+1:=⟨f-1,by omega⟩
  have e:i=(confL g.1.toNat k).length:=by omega
  subst e
  rw [List.drop_of_length_le (Nat.le_refl _)]
  show q83q_l0_r _ _ _=_
  unfold q83q_l0_r
  simp only [lt_not,Bool.false_eq_true,if_false,List.map_nil,List.append_nil]
 | succ q ih=>
  intro i f acc e1 e2 e3
  obtain ⟨f,rfl⟩:∃m,f=m+1:=⟨f-1,by omega⟩
  have hi:i<(confL g.1.toNat k).length:=by omega
  have ei:at_ K_Si (confL g.1.toNat k) i=(confL g.1.toNat k)[i]:=at_get (e:=K_Si) hi
  have hnb:=conf_nodes hk (List.getElem_mem hi)
  have hnb2:nodesB g.1 (confL g.1.toNat k)[i]=true:=by
   rw [<- g2] at hnb
   exact hnb
  have hmv:G_l4Moves (g,(confL g.1.toNat k)[i],())=some (movesL (ballF g.1.toNat g.2.1) (confL g.1.toNat k)[i],()):=by
   unfold G_l4Moves
   simp only [hG,hnb2,Bool.and_self,if_true]
  obtain ⟨n1,n2⟩:=nodes_parts hnb
  have hml:=moves_len (ball:=ballF g.1.toNat g.2.1) n1 (fun c hc=>by have:=ballF_len g.1.toNat g.2.1 c;omega)
  have hin:=mk_l2 N g z (confL g.1.toNat k,acc,[],()) (confL g.1.toNat k) rfl hok (i:Int) (movesL (ballF g.1.toNat g.2.1) (confL g.1.toNat k)[i]) hml (movesL (ballF g.1.toNat g.2.1) (confL g.1.toNat k)[i]).length 0 N [] (by omega) (by omega) (by simp;omega)
  simp only [Int.natCast_zero,List.drop_zero,List.nil_append] at hin
  have c1:∀l:List Int,decide (acc.length+List.length [l]<=lim)=true:=fun l=>by unfold lim;simp;omega
  show q83q_l0_r _ _ _=_
  unfold q83q_l0_r
  simp only [lt_dec hi,if_true,idxIn_nat hi,Int.toNat_natCast,ei,hmv,Option.bind_some,hin,c1,small_wrap (show i<=100000 by omega)]
  rw [ih (i+1) f _ (by omega) (by omega) (by simp;omega),List.drop_eq_getElem_cons hi,List.map_cons,List.append_assoc,List.singleton_append]
theorem mk_l4 (N:Nat) (g:Gr) (hG:grB g=true) (z:Gm) (cf mv:List (List Int)):∀q x f (acc:List (List Int)),x+q=g.1.toNat->q<f->acc.length+q<=1000 ->
  q83q_l4 N f (g,z,(cf,mv,acc,()),(x:Int),())=some (.inl (z,(cf,mv,acc++(List.range' x q).map (fun y:Nat=>ballF g.1.toNat g.2.1 (y:Int)),()),())):=by
 obtain ⟨g1,g2,g3,g4⟩:=grB_parts hG
 intro q
 induction q with
 | zero=>
  intro x f acc e1 e2 e3
  obtain ⟨f,rfl⟩:∃m,f=m+1:=⟨f-1,by omega⟩
  have e:x=g.1.toNat:=by omega
  have hlt:decide ((x:Int)<g.1)=false:=decide_eq_false (by omega)
  show q83q_l4_r _ _ _=_
  unfold q83q_l4_r
  simp only [hlt,Bool.false_eq_true,if_false,List.range'_zero,List.map_nil,List.append_nil]
 | succ q ih=>
  intro x f acc e1 e2 e3
  obtain ⟨f,rfl⟩:∃m,f=m+1:=⟨f-1,by omega⟩
  have hlt:decide ((x:Int)<g.1)=true:=decide_eq_true (by omega)
  have c1:∀l:List Int,decide (acc.length+List.length [l]<=lim)=true:=fun l=>by unfold lim;simp;omega
  show q83q_l4_r _ _ _=_
  unfold q83q_l4_r
  simp only [hlt,if_true,ball_some hG (show x<g.1.toNat by omega),Option.bind_some,c1,small_wrap (show x<=100000 by omega)]
  rw [ih (x+1) f _ (by omega) (by omega) (by simp;omega),List.range'_succ,List.map_cons,List.append_assoc,List.singleton_append]
theorem l4Make_lim (d) (r) (h:G_l4Make d=some r):∃N,F_q83q N d=some r:=by
 obtain ⟨g,k,_⟩:=d
 unfold G_l4Make at h
 split at h
 ·rename_i hc
  simp only [Bool.and_eq_true] at hc
  obtain ⟨hG,hk⟩:=hc
  have hk2:=inB_iff.1 hk
  obtain ⟨g1,g2,g3,g4⟩:=grB_parts hG
  have h:=Option.some.inj h
  subst h
  refine ⟨1000,?_⟩
  have h120:=confL_120 g3 (show k.toNat<=3 by omega)
  have hcf:G_configs (g.1,k,())=some (confL g.1.toNat k.toNat,()):=by
   unfold G_configs
   have i1:inB 0 8 g.1=true:=inB_iff.2 (by omega)
   simp only [i1,hk,Bool.and_self,if_true]
  have h0:=mk_l0 1000 (by omega) g hG ([],[],[],()) k.toNat (by omega) (confL g.1.toNat k.toNat).length 0 1000 [] (by omega) (by omega) (by simp;omega)
  simp only [Int.natCast_zero,List.drop_zero,List.nil_append] at h0
  have h4:=mk_l4 1000 g hG ([],[],[],()) (confL g.1.toNat k.toNat) ((confL g.1.toNat k.toNat).map (fun c=>(movesL (ballF g.1.toNat g.2.1) c).map (placeL (confL g.1.toNat k.toNat)))) g.1.toNat 0 1000 [] (by omega) (by omega) (by simp;omega)
  simp only [Int.natCast_zero,List.nil_append,<- List.range_eq_range'] at h4
  unfold F_q83q
  simp only [hcf,Option.bind_some,h0,h4]
  rfl
 ·cases h
theorem place_some {cf:List (List Int)} (h1:cf.length<=120) (h2:okLL cf=true) (h3:cf.Pairwise ltL) {c:List Int} (hm:c∈cf) (net:Nt) (mv:List (List Int)) (T:Tab) (u v:Unit):F_q16q 0 ((net,cf,mv,T,u),c,v)=some (placeL cf c,()):=by
 unfold F_q16q G_bin
 have a1:decide (cf.length<=1000)=true:=decide_eq_true (by omega)
 have a2:okL c=true:=List.all_eq_true.1 (okLL_of h2).2 c hm
 simp only [a1,h2,a2,riseB_iff.2 h3,memB_iff.2 hm,Bool.and_self,if_true,Option.bind_some]
theorem cb_l2 (N:Nat) (w:Nt) (cf:List (List Int)) (h1:cf.length<=120) (h2:okLL cf=true) (h3:cf.Pairwise ltL) (net:Nt) (mv:List (List Int)) (T:Tab) (u:Unit) (a:List (List Int)) (b c:Int) (L:List (List Int)) (hL:L.length<=512) (hLm:∀m∈L,m∈cf):∀q j f (acc:List Int),j+q=L.length->q<f->acc.length+q<=1000 ->
  q23q_l2 N f (w,(net,cf,mv,T,u),acc,a,b,c,L,(L.length:Int),(j:Int),())=some (.inl (w,(net,cf,mv,T,u),acc++(L.drop j).map (placeL cf),a,b,c,())):=by
 intro q
 induction q with
 | zero=>
  intro j f acc e1 e2 e3
  obtain ⟨f,rfl⟩:∃m,f=m+1:=⟨f-1,by omega⟩
  have e:j=L.length:=by omega
  subst e
  rw [List.drop_of_length_le (Nat.le_refl _)]
  show q23q_l2_r _ _ _=_
  unfold q23q_l2_r
  simp only [lt_not,Bool.false_eq_true,if_false,List.map_nil,List.append_nil]
 | succ q ih=>
  intro j f acc e1 e2 e3
  obtain ⟨f,rfl⟩:∃m,f=m+1:=⟨f-1,by omega⟩
  have hj:j<L.length:=by omega
  have ej:at_ K_Si L j=L[j]:=at_get (e:=K_Si) hj
  have c1:decide (acc.length+List.length [placeL cf L[j]]<=lim)=true:=by unfold lim;simp;omega
  show q23q_l2_r _ _ _=_
  unfold q23q_l2_r
  simp only [lt_dec hj,if_true,idxIn_nat hj,Int.toNat_natCast,ej,place_some h1 h2 h3 (hLm _ (List.getElem_mem hj)),Option.bind_some,c1,small_wrap (show j<=100000 by omega)]
  rw [ih (j+1) f _ (by omega) (by omega) (by simp;omega),List.drop_eq_getElem_cons hj,List.map_cons,List.append_assoc,List.singleton_append]
theorem ballM_in {l:List Int} (h:netB l=true) {x:Nat} (hx:x<l.length):∀y∈ballM l (x:Int),inB 0 ((l.length:Int)-1) y=true:=fun y hy=>by
 obtain ⟨z,hz,rfl⟩:=ballM_ok h x hx y hy
 exact inB_iff.2 (by omega)
theorem ballF_in {n:Nat} (es:List E) (x:Int):∀y∈ballF n es x,inB 0 ((n:Int)-1) y=true:=fun y hy=>by
 obtain ⟨z,hz,rfl⟩:=setF_nat y hy
 exact inB_iff.2 (by omega)
theorem conf_moves {l:List Int} (h:netB l=true) {k:Nat} {c:List Int} (hc:c∈confL l.length k):∀m∈movesL (ballM l) c,m∈confL l.length k:=by
 obtain ⟨h1,h2⟩:=confL_mem.1 hc
 have h3:=copsB_in h2
 intro m hm
 have:=moves_mem (n:=l.length) (fun x _=>ballM_len l x) (fun x hx=>by
  have:=inB_iff.1 (h3 x hx)
  have e:x=((x.toNat:Nat):Int):=by omega
  rw [e]
  exact ballM_in h (by omega)) hm
 rw [h1] at this
 exact this
theorem cb_l0 (N:Nat) (hN:1000<=N) (l:List Int) (hl:netB l=true) (v:Unit) (k:Nat) (hk:k<=3) (T:Tab) (u:Unit):∀q i f (acc:List (List Int)),i+q=(confL l.length k).length->q<f->acc.length+q<=1000 ->
  q23q_l0 N f ((l,v),((l,v),confL l.length k,acc,T,u),confL l.length k,((confL l.length k).length:Int),(i:Int),())=some (.inl (((l,v),confL l.length k,acc++((confL l.length k).drop i).map (fun c=>(movesL (ballM l) c).map (placeL (confL l.length k))),T,u),())):=by
 obtain ⟨p1,p2,p3,p4⟩:=netB_parts hl
 have h120:=confL_120 p3 hk
 have hok:=okLL_conf p3 hk
 have hrise:=confL_rise l.length k
 intro q
 induction q with
 | zero=>
  intro i f acc e1 e2 e3
  obtain ⟨f,rfl⟩:∃m,f=m+1:=⟨f-1,by omega⟩
  have e:i=(confL l.length k).length:=by omega
  subst e
  rw [List.drop_of_length_le (Nat.le_refl _)]
  show q23q_l0_r _ _ _=_
  unfold q23q_l0_r
  simp only [lt_not,Bool.false_eq_true,if_false,List.map_nil,List.append_nil]
 | succ q ih=>
  intro i f acc e1 e2 e3
  obtain ⟨f,rfl⟩:∃m,f=m+1:=⟨f-1,by omega⟩
  have hi:i<(confL l.length k).length:=by omega
  have ei:at_ K_Si (confL l.length k) i=(confL l.length k)[i]:=at_get (e:=K_Si) hi
  have hnb:=conf_nodes hk (List.getElem_mem hi)
  have hmv:G_copMoves ((l,v),(confL l.length k)[i],())=some (movesL (ballM l) (confL l.length k)[i],()):=by
   unfold G_copMoves
   simp only [hl,hnb,Bool.and_self,if_true]
  obtain ⟨n1,n2⟩:=nodes_parts hnb
  have hml:=moves_len (ball:=ballM l) n1 (fun c hc=>ballM_len l c)
  have hin:=cb_l2 N (l,v) (confL l.length k) h120 hok hrise (l,v) acc T u (confL l.length k) ((confL l.length k).length:Int) (i:Int) (movesL (ballM l) (confL l.length k)[i]) hml (conf_moves hl (List.getElem_mem hi)) (movesL (ballM l) (confL l.length k)[i]).length 0 N [] (by omega) (by omega) (by simp;omega)
  simp only [Int.natCast_zero,List.drop_zero,List.nil_append] at hin
  have c1:∀x:List Int,decide (acc.length+List.length [x]<=lim)=true:=fun x=>by unfold lim;simp;omega
  show q23q_l0_r _ _ _=_
  unfold q23q_l0_r
  simp only [lt_dec hi,if_true,idxIn_nat hi,Int.toNat_natCast,ei,hmv,Option.bind_some,hin,c1,small_wrap (show i<=100000 by omega)]
  rw [ih (i+1) f _ (by omega) (by omega) (by simp;omega),List.drop_eq_getElem_cons hi,List.map_cons,List.append_assoc,List.singleton_append]
theorem copBoard_lim (d) (r) (h:G_copBoard d=some r):∃N,F_q23q N d=some r:=by
 obtain ⟨⟨l,v⟩,k,_⟩:=d
 unfold G_copBoard at h
 split at h
 ·rename_i hc
  simp only [Bool.and_eq_true] at hc
  obtain ⟨hl,hk⟩:=hc
  have hk2:=inB_iff.1 hk
  obtain ⟨p1,p2,p3,p4⟩:=netB_parts hl
  have h:=Option.some.inj h
  subst h
  refine ⟨1000,?_⟩
  have h120:=confL_120 p3 (show k.toNat<=3 by omega)
  have hcf:G_configs ((l.length:Int),k,())=some (confL l.length k.toNat,()):=by
   unfold G_configs
   have i1:inB 0 8 (l.length:Int)=true:=inB_iff.2 (by omega)
   simp only [i1,hk,Bool.and_self,if_true,Int.toNat_natCast]
  have h0:=cb_l0 1000 (by omega) l hl v k.toNat (by omega) [] () (confL l.length k.toNat).length 0 1000 [] (by omega) (by omega) (by simp;omega)
  simp only [Int.natCast_zero,List.drop_zero,List.nil_append] at h0
  unfold F_q23q g_q49q
  simp only [hcf,Option.bind_some,h0]
  rfl
 ·cases h
end Go.V.W
namespace Go.V.W
open Go.Proofs
theorem tabM_len (m n:Nat) (f:Nat->Nat->Int):(tabM m n f).length=m:=by simp [tabM]
theorem tabM_row {m n c:Nat} (f:Nat->Nat->Int) (h:c<m):(tabM m n f)[c]? = some ((List.range n).map fun x=>f c x):=by
 unfold tabM
 rw [List.getElem?_map,List.getElem?_range h]
 rfl
theorem tab2_tabM {m n c x:Nat} (f:Nat->Nat->Int) (hc:c<m) (hx:x<n):tab2 (tabM m n f) (c:Int) (x:Int)=f c x:=by
 unfold tab2
 simp only [Int.toNat_natCast,List.getD_eq_getElem?_getD,tabM_row f hc,Option.getD_some,rowR_get _ hx]
theorem tabM_congr {m n:Nat} {f g:Nat->Nat->Int} (h:∀c x,c<m->x<n->f c x=g c x):tabM m n f=tabM m n g:=by
 unfold tabM
 refine List.map_congr_left fun c hc=>List.map_congr_left fun x hx=>h c x (List.mem_range.1 hc) (List.mem_range.1 hx)
theorem rcB_parts {m n:Nat} {T:Tab} (h:rcB m n T=true):T.length=m /\ ∀c,c<m->(at_ K_Si T c).length=n:=by
 unfold rcB at h
 simp only [Bool.and_eq_true,decide_eq_true_eq,List.all_eq_true] at h
 refine ⟨h.1,fun c hc => ?_⟩
 have hlt:c<T.length:=by omega
 have e:at_ K_Si T c=T[c]:=at_get (e:=K_Si) hlt
 rw [e]
 exact h.2 _ (List.getElem_mem hlt)
theorem tab2_rc {m n:Nat} {T:Tab} (h:rcB m n T=true) {c x:Nat} (hc:c<m) (hx:x<n):at_ I (at_ K_Si T c) x=tab2 T (c:Int) (x:Int):=by
 obtain ⟨h1,h2⟩:=rcB_parts h
 have hlt:c<T.length:=by omega
 have e:at_ K_Si T c=T[c]:=at_get (e:=K_Si) hlt
 have h3:=h2 c hc
 rw [e] at h3 |-
 have e2:at_ I T[c] x=T[c][x]:=at_get (e:=I) (by omega)
 rw [e2]
 unfold tab2
 simp only [Int.toNat_natCast,List.getD_eq_getElem?_getD,List.getElem?_eq_getElem hlt,Option.getD_some]
 rw [List.getElem?_eq_getElem (by omega)]
 rfl
theorem rc_tabM (m n:Nat) (f:Nat->Nat->Int):rcB m n (tabM m n f)=true:=by
 unfold rcB tabM
 simp
theorem row_rc {m n:Nat} {T:Tab} (h:rcB m n T=true) {c:Nat} (hc:c<m):at_ K_Si T c=(List.range n).map fun (x:Nat)=>tab2 T (c:Int) (x:Int):=by
 obtain ⟨h1,h2⟩:=rcB_parts h
 have h3:=h2 c hc
 apply List.ext_getElem
 ·simp [h3]
 ·intro i i1 i2
  have hi:i<n:=by omega
  rw [List.getElem_map,List.getElem_range,<- tab2_rc h hc hi]
  exact (at_get (e:=I) i1).symm
theorem tabM_self {m n:Nat} {T:Tab} (h:rcB m n T=true):tabM m n (fun c x=>tab2 T (c:Int) (x:Int))=T:=by
 obtain ⟨h1,h2⟩:=rcB_parts h
 apply List.ext_getElem
 ·rw [tabM_len,h1]
 ·intro c c1 c2
  have hc:c<m:=by omega
  have e:at_ K_Si T c=T[c]:=at_get (e:=K_Si) c2
  rw [<- e,row_rc h hc]
  simp [tabM]
def rowU (n:Nat) (f g:Nat->Int) (x:Nat):List Int:=(List.range n).map fun j=>if j<x then g j else f j
theorem rowU_len (n:Nat) (f g:Nat->Int) (x:Nat):(rowU n f g x).length=n:=by simp [rowU]
theorem rowU_at {n:Nat} {f g:Nat->Int} {x:Nat} (h:x<n):at_ I (rowU n f g x) x=f x:=by
 have:(rowU n f g x)[x]? = some (f x):=by
  unfold rowU
  rw [rowR_get _ h,if_neg (by omega)]
 exact (at_some this).1
theorem rowU_set {n:Nat} {f g:Nat->Int} {x:Nat} {v:Int} (h:x<n) (hv:g x=v):(rowU n f g x).set x v=rowU n f g (x+1):=by
 unfold rowU
 rw [map_set]
 refine List.map_congr_left fun j _ => ?_
 by_cases e:j=x
 ·subst e
  have:j<j+1:=by omega
  simp [this,hv]
 ·by_cases e2:j<x
  ·have:j<x+1:=by omega
   simp [e,e2,this]
  ·have:¬j<x+1:=by omega
   simp [e,e2,this]
theorem rowU_keep {n:Nat} {f g:Nat->Int} {x:Nat} (hv:g x=f x):rowU n f g x=rowU n f g (x+1):=by
 unfold rowU
 refine List.map_congr_left fun j _ => ?_
 by_cases e:j=x
 ·subst e
  have:j<j+1:=by omega
  simp [this,hv]
 ·by_cases e2:j<x
  ·have:j<x+1:=by omega
   simp [e2,this]
  ·have:¬j<x+1:=by omega
   simp [e2,this]
theorem rowU_zero (n:Nat) (f g:Nat->Int):rowU n f g 0=(List.range n).map f:=List.map_congr_left fun j _=>if_neg (by omega)
theorem rowU_full (n:Nat) (f g:Nat->Int):rowU n f g n=(List.range n).map g:=List.map_congr_left fun j hj=>if_pos (List.mem_range.1 hj)
def negsM (m n:Nat) (T:Tab):Nat:=(List.range (m*n)).countP fun i=>decide (tab2 T ((i / n:Nat):Int) ((i % n:Nat):Int)<0)
theorem anyG_spec {cf mv:List (List Int)} {ball:Int->List Int} {n:Nat} {T:Tab}:anyG cf mv ball n T=true ↔ ∃c x,c<cf.length/\x<n/\canG cf mv ball T c x=true:=by
 unfold anyG
 simp only [List.any_eq_true,List.mem_range]
 constructor
 ·rintro ⟨c,hc,r,hr,h⟩
  exact ⟨c,r,hc,hr,h⟩
 ·rintro ⟨c,r,hc,hr,h⟩
  exact ⟨c,hc,r,hr,h⟩
theorem stepG_at {cf mv:List (List Int)} {ball:Int->List Int} {n:Nat} {t:Int} {T:Tab} {c x:Nat} (hc:c<cf.length) (hx:x<n):tab2 (stepG cf mv ball n t T) (c:Int) (x:Int)=if canG cf mv ball T c x=true then t else tab2 T (c:Int) (x:Int):=tab2_tabM _ hc hx
theorem negsM_step {cf mv:List (List Int)} {ball:Int->List Int} {n:Nat} {t:Int} (ht:0<=t) {T:Tab} (h:anyG cf mv ball n T=true):negsM cf.length n (stepG cf mv ball n t T)<negsM cf.length n T:=by
 obtain ⟨c,x,hc,hx,hcan⟩:=anyG_spec.1 h
 have hdiv:∀i,i<cf.length*n->i / n<cf.length/\i % n<n:=fun i hi=>by
  have hn:0<n:=by omega
  exact ⟨(Nat.div_lt_iff_lt_mul hn).2 hi,Nat.mod_lt _ hn⟩
 have hsub:=countP_lt (p:=fun i=>decide (tab2 T ((i / n:Nat):Int) ((i % n:Nat):Int)<0)) (q:=fun i=>decide (tab2 (stepG cf mv ball n t T) ((i / n:Nat):Int) ((i % n:Nat):Int)<0)) (l:=List.range (cf.length*n)) (fun i hi h=>by
  obtain ⟨d1,d2⟩:=hdiv i (List.mem_range.1 hi)
  have h:=of_decide_eq_true h
  rw [stepG_at d1 d2] at h
  split at h
  ·omega
  ·exact decide_eq_true h)
 refine hsub.2 ⟨c*n+x,?_,?_,?_⟩
 ·rw [List.mem_range]
  have:(c+1)*n<=cf.length*n:=Nat.mul_le_mul_right _ hc
  rw [Nat.succ_mul] at this
  omega
 all_goals
  have e1:(c*n+x) / n=c:=by
   rw [Nat.mul_comm,Nat.mul_add_div (by omega),Nat.div_eq_of_lt hx]
   omega
  have e2:(c*n+x) % n=x:=by
   rw [Nat.mul_comm,Nat.mul_add_mod,Nat.mod_eq_of_lt hx]
  simp only [e1,e2]
 ·unfold canG at hcan
  simp only [Bool.and_eq_true] at hcan
  exact hcan.1
 ·rw [stepG_at hc hx,if_pos hcan]
  simpa using ht
theorem negsM_le (m n:Nat) (T:Tab):negsM m n T<=m*n:=by
 unfold negsM
 have:=List.countP_le_length (p:=fun i=>decide (tab2 T ((i / n:Nat):Int) ((i % n:Nat):Int)<0)) (l:=List.range (m*n))
 simpa using this
theorem stepG_none {cf mv:List (List Int)} {ball:Int->List Int} {n:Nat} {t:Int} {T:Tab} (hT:rcB cf.length n T=true) (h:anyG cf mv ball n T=false):stepG cf mv ball n t T=T:=by
 refine Eq.trans (tabM_congr fun c x hc hx=>if_neg fun hh => ?_) (tabM_self hT)
 have:=anyG_spec.2 ⟨c,x,hc,hx,hh⟩
 rw [h] at this
 cases this
theorem gmB_parts {n:Nat} {cf mv:List (List Int)} (h:gmB n cf mv=true):cf.length<=120/\mv.length=cf.length/\(∀c,c<cf.length->(at_ K_Si cf c).length<=3/\cf.getD c []=at_ K_Si cf c /\ ∀x∈at_ K_Si cf c,inB 0 ((n:Int)-1) x=true) /\
  (∀c,c<cf.length->(at_ K_Si mv c).length<=1000/\mv.getD c []=at_ K_Si mv c /\ ∀d∈at_ K_Si mv c,inB 0 ((cf.length:Int)-1) d=true):=by
 unfold gmB at h
 simp only [Bool.and_eq_true,decide_eq_true_eq,List.all_eq_true] at h
 obtain ⟨⟨⟨h1,h2⟩,h3⟩,h4⟩:=h
 refine ⟨h1,h2,fun c hc => ?_,fun c hc => ?_⟩
 ·have e:at_ K_Si cf c=cf[c]:=at_get (e:=K_Si) hc
  have:=h3 _ (List.getElem_mem hc)
  rw [e]
  refine ⟨this.1,?_,this.2⟩
  rw [List.getD_eq_getElem?_getD,List.getElem?_eq_getElem hc]
  rfl
 ·have hc2:c<mv.length:=by omega
  have e:at_ K_Si mv c=mv[c]:=at_get (e:=K_Si) hc2
  have:=h4 _ (List.getElem_mem hc2)
  rw [e]
  refine ⟨this.1,?_,this.2⟩
  rw [List.getD_eq_getElem?_getD,List.getElem?_eq_getElem hc2]
  rfl
theorem blB_parts {bl:List (List Int)} (h:blB bl=true):bl.length<=8 /\ ∀x:Nat,x<bl.length->at_ K_Si bl x=ballA bl (x:Int)/\(ballA bl (x:Int)).length<=8 /\ ∀z∈ballA bl (x:Int),∃y:Nat,y<bl.length/\z=(y:Int):=by
 unfold blB at h
 simp only [Bool.and_eq_true,decide_eq_true_eq,List.all_eq_true] at h
 refine ⟨h.1,fun x hx => ?_⟩
 have e:at_ K_Si bl x=bl[x]:=at_get (e:=K_Si) hx
 have e2:ballA bl (x:Int)=bl[x]:=by
  unfold ballA
  rw [Int.toNat_natCast,List.getD_eq_getElem?_getD,List.getElem?_eq_getElem hx]
  rfl
 have:=h.2 _ (List.getElem_mem hx)
 rw [e,e2]
 refine ⟨rfl,this.1,fun z hz => ?_⟩
 obtain ⟨y,hy,h2⟩:=nodeX (this.2 z hz)
 exact ⟨y,h2,hy⟩
theorem af_l0 (N m n:Nat) (T:Tab) (hT:rcB m n T=true) (c:Nat) (hc:c<m) (ball:List Int) (hb:∀z∈ball,∃y:Nat,y<n/\z=(y:Int)) (hl:ball.length<=1000):∀(k i f:Nat) (s:Int),i+k=ball.length->k<f ->
  q66q_l0 N f (T,(c:Int),s,ball,(i:Int),())=some (.inl (worstL (tab2 T c) (ball.drop i) s,()))\/q66q_l0 N f (T,(c:Int),s,ball,(i:Int),())=some (.inr (.inl (worstL (tab2 T c) (ball.drop i) s,()))):=by
 have hmx:ball.length<=maxLen:=by unfold maxLen;omega
 obtain ⟨t1,t2⟩:=rcB_parts hT
 intro k
 induction k with
 | zero=>
  intro i f m h1 h2
  obtain ⟨f,rfl⟩:∃m,f=m+1:=⟨f-1,by omega⟩
  have e:i=ball.length:=by omega
  subst e
  rw [List.drop_of_length_le (Nat.le_refl _)]
  right
  simp [q66q_l0,q66q_l0_r,worstL]
 | succ k ih=>
  intro i f s h1 h2
  obtain ⟨f,rfl⟩:∃m,f=m+1:=⟨f-1,by omega⟩
  have hi:i<ball.length:=by omega
  obtain ⟨y,hy,ey⟩:=hb ball[i] (List.getElem_mem hi)
  have e:at_ I ball i=(y:Int):=(at_get (e:=I) hi).trans ey
  have i1:idxIn (c:Int) T.length=true:=idxIn_nat (by omega)
  have i2:idxIn (y:Int) (at_ K_Si T c).length=true:=idxIn_nat (by rw [t2 c hc];exact hy)
  have hv:=tab2_rc hT hc hy
  have hd:ball.drop i=(y:Int)::ball.drop (i+1):=by rw [List.drop_eq_getElem_cons hi,ey]
  have step:q66q_l0 N (f+1) (T,(c:Int),s,ball,(i:Int),())=if tab2 T c y<0 then some (.inl (-1,())) else q66q_l0 N f (T,(c:Int),(if s<tab2 T c y then tab2 T c y else s),ball,((i+1:Nat):Int),()):=by
   show q66q_l0_r N (q66q_l0 N f) (T,(c:Int),s,ball,(i:Int),())=_
   unfold q66q_l0_r
   simp only [lt_dec hi,if_true,i1,idxIn_nat hi,Int.toNat_natCast,e,i2,hv,most_eq,wrap_up hi hmx]
   by_cases h:tab2 T c y<0
   ·simp only [h,decide_true,if_true]
   ·simp only [h,decide_false,Bool.false_eq_true,if_false]
  rw [step,hd]
  simp only [worstL]
  by_cases h:tab2 T c y<0
  ·rw [if_pos h,if_pos h]
   exact .inl rfl
  ·rw [if_neg h,if_neg h]
   exact ih (i+1) f _ (by omega) (by omega)
theorem l4After_lim (d) (r) (h:G_l4After d=some r):∃N,F_q66q N d=some r:=by
 obtain ⟨⟨cf,mv,bl,v⟩,T,c,x,_⟩:=d
 unfold G_l4After at h
 split at h
 ·rename_i hc
  simp only [Bool.and_eq_true] at hc
  obtain ⟨⟨⟨⟨hg,hb⟩,hT⟩,hc'⟩,hx'⟩:=hc
  obtain ⟨g1,g2,g3,g4⟩:=gmB_parts hg
  obtain ⟨b1,b2⟩:=blB_parts hb
  obtain ⟨c,rfl,hc⟩:=nodeX hc'
  obtain ⟨x,rfl,hx⟩:=nodeX hx'
  have h:=Option.some.inj h
  subst h
  obtain ⟨x1,x2,x3⟩:=b2 x hx
  obtain ⟨y1,y2,y3⟩:=g3 c hc
  refine ⟨20,?_⟩
  have hl:=af_l0 20 cf.length bl.length T hT c hc (ballA bl (x:Int)) x3 (by omega) (ballA bl (x:Int)).length 0 20 0 (by omega) (by omega)
  simp only [Int.natCast_zero,List.drop_zero] at hl
  unfold F_q66q afterG
  simp only [idxIn_nat hc,idxIn_nat hx,if_true,Int.toNat_natCast,has1 (okL_of (show (at_ K_Si cf c).length<=1048576 by omega)),Option.bind_some,x1,y2]
  by_cases hh:hasL (at_ K_Si cf c) (x:Int)=true
  ·simp only [hh,if_true]
  ·simp only [hh,Bool.false_eq_true,if_false]
   rcases hl with h | h
   ·simp only [h,Option.bind_some]
   ·simp only [h,Option.bind_some]
 ·cases h
theorem afterG_some {cf mv bl:List (List Int)} (hg:gmB bl.length cf mv=true) (hb:blB bl=true) {T:Tab} (hT:rcB cf.length bl.length T=true) {d x:Int} (hd:inB 0 ((cf.length:Int)-1) d=true) (hx:inB 0 ((bl.length:Int)-1) x=true) (v u:Unit):G_l4After ((cf,mv,bl,v),T,d,x,u)=some (afterG cf (ballA bl) T d x,()):=by
 unfold G_l4After
 simp only [hg,hb,hT,hd,hx,Bool.and_self,if_true]
theorem ts_l2 (N:Nat) (cf mv bl:List (List Int)) (hg:gmB bl.length cf mv=true) (hb:blB bl=true) (v:Unit) (T:Tab) (c:Nat) (hc:c<cf.length):∀(k x f:Nat),x+k=bl.length->k<f ->
  q73q_l2 N f ((cf,mv,bl,v),T,(c:Int),(List.range x).map (fun (x:Nat)=>if hasL (cf.getD c []) (x:Int)=true then 0 else -1),(x:Int),())=some (.inl ((cf,mv,bl,v),T,(c:Int),(List.range bl.length).map (fun (x:Nat)=>if hasL (cf.getD c []) (x:Int)=true then 0 else -1),())):=by
 obtain ⟨g1,g2,g3,g4⟩:=gmB_parts hg
 obtain ⟨b1,b2⟩:=blB_parts hb
 obtain ⟨y1,y2,y3⟩:=g3 c hc
 intro k
 induction k with
 | zero=>
  intro x f h1 h2
  obtain ⟨f,rfl⟩:∃m,f=m+1:=⟨f-1,by omega⟩
  have e:x=bl.length:=by omega
  subst e
  show q73q_l2_r _ _ _=_
  unfold q73q_l2_r
  simp only [lt_not,Bool.false_eq_true,if_false]
 | succ k ih=>
  intro x f h1 h2
  obtain ⟨f,rfl⟩:∃m,f=m+1:=⟨f-1,by omega⟩
  have hx:x<bl.length:=by omega
  have hle:∀w:Int,decide (((List.range x).map (fun (x:Nat)=>if hasL (cf.getD c []) (x:Int)=true then (0:Int) else -1)).length+List.length [w]<=lim)=true:=fun w=>by
   unfold lim
   simp
   omega
  have fin:=ih (x+1) f (by omega) (by omega)
  rw [<- range_snoc x (fun (x:Nat)=>if hasL (cf.getD c []) (x:Int)=true then 0 else -1)] at fin
  show q73q_l2_r _ _ _=_
  unfold q73q_l2_r
  simp only [lt_dec hx,if_true,idxIn_nat hc,Int.toNat_natCast,has1 (okL_of (show (at_ K_Si cf c).length<=1048576 by omega)),Option.bind_some,hle,small_wrap (show x<=100000 by omega)]
  by_cases hh:hasL (at_ K_Si cf c) (x:Int)=true
  ·rw [y2,if_pos hh] at fin
   simp only [hh,if_true,y2]
   exact fin
  ·rw [y2,if_neg hh] at fin
   simp only [hh,Bool.false_eq_true,if_false,y2]
   exact fin
theorem ts_l0 (N:Nat) (hN:200<=N) (cf mv bl:List (List Int)) (hg:gmB bl.length cf mv=true) (hb:blB bl=true) (v:Unit):∀(k c f:Nat),c+k=cf.length->k<f ->
  q73q_l0 N f ((cf,mv,bl,v),(List.range c).map (fun c=>(List.range bl.length).map (fun (x:Nat)=>if hasL (cf.getD c []) (x:Int)=true then (0:Int) else -1)),(c:Int),())=some (.inl ((cf,mv,bl,v),startG cf bl.length,())):=by
 obtain ⟨g1,g2,g3,g4⟩:=gmB_parts hg
 obtain ⟨b1,b2⟩:=blB_parts hb
 intro k
 induction k with
 | zero=>
  intro c f h1 h2
  obtain ⟨f,rfl⟩:∃m,f=m+1:=⟨f-1,by omega⟩
  have e:c=cf.length:=by omega
  subst e
  show q73q_l0_r _ _ _=_
  unfold q73q_l0_r
  simp only [lt_not,Bool.false_eq_true,if_false]
  rfl
 | succ k ih=>
  intro c f h1 h2
  obtain ⟨f,rfl⟩:∃m,f=m+1:=⟨f-1,by omega⟩
  have hc:c<cf.length:=by omega
  have hin:=ts_l2 N cf mv bl hg hb v ((List.range c).map (fun c=>(List.range bl.length).map (fun (x:Nat)=>if hasL (cf.getD c []) (x:Int)=true then (0:Int) else -1))) c hc bl.length 0 N (by omega) (by omega)
  simp only [List.range_zero,List.map_nil,Int.natCast_zero] at hin
  have hle:∀w:List Int,decide (((List.range c).map (fun c=>(List.range bl.length).map (fun (x:Nat)=>if hasL (cf.getD c []) (x:Int)=true then (0:Int) else -1))).length+List.length [w]<=lim)=true:=fun w=>by
   unfold lim
   simp
   omega
  have fin:=ih (c+1) f (by omega) (by omega)
  rw [<- range_snocT c (fun c=>(List.range bl.length).map (fun (x:Nat)=>if hasL (cf.getD c []) (x:Int)=true then (0:Int) else -1))] at fin
  show q73q_l0_r _ _ _=_
  unfold q73q_l0_r
  simp only [lt_dec hc,if_true,hin,Option.bind_some,hle,small_wrap (show c<=100000 by omega)]
  exact fin
theorem ts_l10 (N:Nat) (cf mv bl:List (List Int)) (hg:gmB bl.length cf mv=true) (hb:blB bl=true) (v:Unit) (T:Tab) (hT:rcB cf.length bl.length T=true) (t:Nat) (ht:1<=t) (next:Tab) (c:Nat) (hc:c<cf.length) (x:Nat) (hx:x<bl.length) (row:List Int) (hr:row.length=bl.length) (hneg:at_ I row x<0) :
  ∀(k i f:Nat) (ch:Bool),i+k=(at_ K_Si mv c).length->k+1<f ->
  q73q_l10 N f ((cf,mv,bl,v),T,(t:Int),next,ch,(c:Int),row,(x:Int),(i:Int),()) =
   some (.inl ((cf,mv,bl,v),T,(t:Int),next,ch||((at_ K_Si mv c).drop i).any (fun d=>decide (0<=afterG cf (ballA bl) T d (x:Int))),(c:Int),(if ((at_ K_Si mv c).drop i).any (fun d=>decide (0<=afterG cf (ballA bl) T d (x:Int)))=true then row.set x (t:Int) else row),(x:Int),())):=by
 obtain ⟨g1,g2,g3,g4⟩:=gmB_parts hg
 obtain ⟨b1,b2⟩:=blB_parts hb
 obtain ⟨m1,m2,m3⟩:=g4 c hc
 have i1:idxIn (c:Int) mv.length=true:=idxIn_nat (by omega)
 have i2:idxIn (x:Int) row.length=true:=idxIn_nat (by omega)
 have hxi:inB 0 ((bl.length:Int)-1) (x:Int)=true:=inB_iff.2 (by omega)
 intro k
 induction k with
 | zero=>
  intro i f ch h1 h2
  obtain ⟨f,rfl⟩:∃m,f=m+1:=⟨f-1,by omega⟩
  have e:i=(at_ K_Si mv c).length:=by omega
  rw [List.drop_of_length_le (by omega)]
  subst e
  show q73q_l10_r _ _ _=_
  unfold q73q_l10_r
  simp only [i1,if_true,Int.toNat_natCast,lt_not,Bool.false_eq_true,if_false,List.any_nil,Bool.or_false]
 | succ k ih=>
  intro i f ch h1 h2
  obtain ⟨f,rfl⟩:∃m,f=m+1:=⟨f-1,by omega⟩
  have hi:i<(at_ K_Si mv c).length:=by omega
  have ei:at_ I (at_ K_Si mv c) i=(at_ K_Si mv c)[i]:=at_get (e:=I) hi
  have haf:=afterG_some hg hb hT (m3 _ (List.getElem_mem hi)) hxi v ()
  rw [List.drop_eq_getElem_cons hi,List.any_cons]
  show q73q_l10_r _ _ _=_
  unfold q73q_l10_r
  simp only [i1,if_true,Int.toNat_natCast,lt_dec hi,i2,hneg,decide_true,idxIn_nat hi,ei,haf,Option.bind_some,small_wrap (show i<=100000 by omega)]
  by_cases h0:0<=afterG cf (ballA bl) T (at_ K_Si mv c)[i] (x:Int)
  ·have h0':decide (afterG cf (ballA bl) T (at_ K_Si mv c)[i] (x:Int)>=0)=true:=decide_eq_true h0
   simp only [h0',h0,decide_true,if_true,Bool.true_or,Bool.or_true]
   obtain ⟨f,rfl⟩:∃m,f=m+1:=⟨f-1,by omega⟩
   have es:at_ I (row.set x (t:Int)) x=(t:Int):=by
    have e1:at_ I (row.set x (t:Int)) x=(row.set x (t:Int))[x]'(by rw [List.length_set];omega):=at_get (e:=I) (by rw [List.length_set];omega)
    rw [e1,List.getElem_set_self]
   have i3:idxIn (x:Int) (row.set x (t:Int)).length=true:=idxIn_nat (by rw [List.length_set];omega)
   have hpos:decide ((t:Int)<0)=false:=decide_eq_false (by omega)
   show q73q_l10_r _ _ _=_
   unfold q73q_l10_r
   by_cases hi2:i+1<(at_ K_Si mv c).length
   ·simp only [i1,if_true,Int.toNat_natCast,lt_dec hi2,i3,es,hpos,Bool.false_eq_true,if_false]
   ·have e:decide (((i+1:Nat):Int)<((at_ K_Si mv c).length:Int))=false:=decide_eq_false (by omega)
    simp only [i1,if_true,Int.toNat_natCast,e,Bool.false_eq_true,if_false]
  ·have h0':decide (afterG cf (ballA bl) T (at_ K_Si mv c)[i] (x:Int)>=0)=false:=decide_eq_false h0
   simp only [h0',h0,decide_false,Bool.false_eq_true,if_false,Bool.false_or]
   exact ih (i+1) f ch (by omega) (by omega)
theorem ts_l8 (N:Nat) (hN:2000<=N) (cf mv bl:List (List Int)) (hg:gmB bl.length cf mv=true) (hb:blB bl=true) (v:Unit) (T:Tab) (hT:rcB cf.length bl.length T=true) (t:Nat) (ht:1<=t) (next:Tab) (c:Nat) (hc:c<cf.length):∀(k x f:Nat) (ch:Bool),x+k=bl.length->k<f ->
  q73q_l8 N f ((cf,mv,bl,v),T,(t:Int),next,ch,(c:Int),rowU bl.length (fun x=>tab2 T (c:Int) (x:Int)) (fun x=>if canG cf mv (ballA bl) T c x=true then (t:Int) else tab2 T (c:Int) (x:Int)) x,(x:Int),()) =
   some (.inl ((cf,mv,bl,v),T,(t:Int),next,ch||(List.range' x k).any (fun x=>canG cf mv (ballA bl) T c x),(c:Int),(List.range bl.length).map (fun x=>if canG cf mv (ballA bl) T c x=true then (t:Int) else tab2 T (c:Int) (x:Int)),())):=by
 obtain ⟨g1,g2,g3,g4⟩:=gmB_parts hg
 obtain ⟨b1,b2⟩:=blB_parts hb
 obtain ⟨m1,m2,m3⟩:=g4 c hc
 have i1:idxIn (c:Int) mv.length=true:=idxIn_nat (by omega)
 intro k
 induction k with
 | zero=>
  intro x f ch h1 h2
  obtain ⟨f,rfl⟩:∃m,f=m+1:=⟨f-1,by omega⟩
  have e:x=bl.length:=by omega
  subst e
  show q73q_l8_r _ _ _=_
  unfold q73q_l8_r
  simp only [rowU_full,List.length_map,List.length_range,lt_not,Bool.false_eq_true,if_false,List.range'_zero,List.any_nil,Bool.or_false]
 | succ k ih=>
  intro x f ch h1 h2
  obtain ⟨f,rfl⟩:∃m,f=m+1:=⟨f-1,by omega⟩
  have hx:x<bl.length:=by omega
  have hlt:∀g h:Nat->Int,decide (((x:Nat):Int)<((rowU bl.length g h x).length:Int))=true:=fun g h=>by rw [rowU_len];exact lt_dec hx
  rw [List.range'_succ,List.any_cons,<- Bool.or_assoc]
  show q73q_l8_r _ _ _=_
  unfold q73q_l8_r
  by_cases hn:tab2 T (c:Int) (x:Int)<0
  ·have hin:=ts_l10 N cf mv bl hg hb v T hT t ht next c hc x hx (rowU bl.length (fun x=>tab2 T (c:Int) (x:Int)) (fun x=>if canG cf mv (ballA bl) T c x=true then (t:Int) else tab2 T (c:Int) (x:Int)) x) (rowU_len _ _ _ _) (by rw [rowU_at hx];exact hn) (at_ K_Si mv c).length 0 N ch (by omega) (by omega)
   simp only [Int.natCast_zero,List.drop_zero] at hin
   have hcan:canG cf mv (ballA bl) T c x=(at_ K_Si mv c).any (fun d=>decide (0<=afterG cf (ballA bl) T d (x:Int))):=by
    unfold canG
    rw [m2]
    simp [hn]
   rw [<- hcan] at hin
   simp only [hlt,if_true,hin,Option.bind_some,small_wrap (show x<=100000 by omega)]
   by_cases hcc:canG cf mv (ballA bl) T c x=true
   ·have e1:=rowU_set (n:=bl.length) (f:=fun x=>tab2 T (c:Int) (x:Int)) (g:=fun x=>if canG cf mv (ballA bl) T c x=true then (t:Int) else tab2 T (c:Int) (x:Int)) (v:=(t:Int)) hx (if_pos hcc)
    simp only [hcc,if_true,e1]
    exact ih (x+1) f _ (by omega) (by omega)
   ·have e1:=rowU_keep (n:=bl.length) (f:=fun x=>tab2 T (c:Int) (x:Int)) (g:=fun x=>if canG cf mv (ballA bl) T c x=true then (t:Int) else tab2 T (c:Int) (x:Int)) (x:=x) (if_neg hcc)
    rw [if_neg hcc,e1]
    exact ih (x+1) f _ (by omega) (by omega)
  ·have hcan:canG cf mv (ballA bl) T c x=false:=by
    unfold canG
    simp [hn]
   have e1:=rowU_keep (n:=bl.length) (f:=fun x=>tab2 T (c:Int) (x:Int)) (g:=fun x=>if canG cf mv (ballA bl) T c x=true then (t:Int) else tab2 T (c:Int) (x:Int)) (x:=x) (if_neg (by rw [hcan];simp))
   have i2:∀g h:Nat->Int,idxIn (x:Int) (rowU bl.length g h x).length=true:=fun g h=>by rw [rowU_len];exact idxIn_nat hx
   have hin:q73q_l10 N N ((cf,mv,bl,v),T,(t:Int),next,ch,(c:Int),rowU bl.length (fun x=>tab2 T (c:Int) (x:Int)) (fun x=>if canG cf mv (ballA bl) T c x=true then (t:Int) else tab2 T (c:Int) (x:Int)) x,(x:Int),0,())=some (.inl ((cf,mv,bl,v),T,(t:Int),next,ch,(c:Int),rowU bl.length (fun x=>tab2 T (c:Int) (x:Int)) (fun x=>if canG cf mv (ballA bl) T c x=true then (t:Int) else tab2 T (c:Int) (x:Int)) x,(x:Int),())):=by
    obtain ⟨M,rfl⟩:∃m,N=m+1:=⟨N-1,by omega⟩
    show q73q_l10_r _ _ _=_
    unfold q73q_l10_r
    simp only [i1,if_true,Int.toNat_natCast,i2,rowU_at hx,hn,decide_false,Bool.false_eq_true,if_false]
    split<;>rfl
   simp only [hlt,if_true,hin,Option.bind_some,small_wrap (show x<=100000 by omega),hcan,Bool.or_false]
   rw [e1]
   exact ih (x+1) f _ (by omega) (by omega)
theorem ts_l6 (N:Nat) (hN:2000<=N) (cf mv bl:List (List Int)) (hg:gmB bl.length cf mv=true) (hb:blB bl=true) (v:Unit) (T:Tab) (hT:rcB cf.length bl.length T=true) (t:Nat) (ht:1<=t):∀(k c f:Nat) (ch:Bool),c+k=cf.length->k<f ->
  q73q_l6 N f ((cf,mv,bl,v),T,(t:Int),(List.range c).map (fun c=>(List.range bl.length).map (fun x=>if canG cf mv (ballA bl) T c x=true then (t:Int) else tab2 T (c:Int) (x:Int))),ch,(c:Int),()) =
   some (.inl ((cf,mv,bl,v),(t:Int),stepG cf mv (ballA bl) bl.length (t:Int) T,ch||(List.range' c k).any (fun c=>(List.range bl.length).any fun x=>canG cf mv (ballA bl) T c x),())):=by
 obtain ⟨g1,g2,g3,g4⟩:=gmB_parts hg
 obtain ⟨b1,b2⟩:=blB_parts hb
 obtain ⟨t1,t2⟩:=rcB_parts hT
 intro k
 induction k with
 | zero=>
  intro c f ch h1 h2
  obtain ⟨f,rfl⟩:∃m,f=m+1:=⟨f-1,by omega⟩
  have e:c=cf.length:=by omega
  subst e
  have hlt:decide (((cf.length:Nat):Int)<(T.length:Int))=false:=by rw [t1];exact lt_not _
  show q73q_l6_r _ _ _=_
  unfold q73q_l6_r
  simp only [hlt,Bool.false_eq_true,if_false,List.range'_zero,List.any_nil,Bool.or_false]
  rfl
 | succ k ih=>
  intro c f ch h1 h2
  obtain ⟨f,rfl⟩:∃m,f=m+1:=⟨f-1,by omega⟩
  have hc:c<cf.length:=by omega
  have hlt:decide (((c:Nat):Int)<(T.length:Int))=true:=by rw [t1];exact lt_dec hc
  have i1:idxIn (c:Int) T.length=true:=by rw [t1];exact idxIn_nat hc
  have hin:=ts_l8 N hN cf mv bl hg hb v T hT t ht ((List.range c).map (fun c=>(List.range bl.length).map (fun x=>if canG cf mv (ballA bl) T c x=true then (t:Int) else tab2 T (c:Int) (x:Int)))) c hc bl.length 0 N ch (by omega) (by omega)
  rw [rowU_zero] at hin
  simp only [Int.natCast_zero,<- List.range_eq_range'] at hin
  have hle:∀w:List Int,decide (((List.range c).map (fun c=>(List.range bl.length).map (fun x=>if canG cf mv (ballA bl) T c x=true then (t:Int) else tab2 T (c:Int) (x:Int)))).length+List.length [w]<=lim)=true:=fun w=>by
   unfold lim
   simp
   omega
  have fin:=ih (c+1) f (ch||(List.range bl.length).any (fun x=>canG cf mv (ballA bl) T c x)) (by omega) (by omega)
  rw [<- range_snocT c (fun c=>(List.range bl.length).map (fun x=>if canG cf mv (ballA bl) T c x=true then (t:Int) else tab2 T (c:Int) (x:Int)))] at fin
  have hown:=own_some (at_ K_Si T c) (by rw [t2 c hc];omega)
  rw [row_rc hT hc] at hown
  rw [List.range'_succ,List.any_cons,<- Bool.or_assoc]
  show q73q_l6_r _ _ _=_
  unfold q73q_l6_r
  simp only [hlt,if_true,i1,Int.toNat_natCast,row_rc hT hc,hown,Option.bind_some,hin,hle,small_wrap (show c<=100000 by omega)]
  exact fin
theorem ts_l4 (N:Nat) (hN:2000<=N) (cf mv bl:List (List Int)) (hg:gmB bl.length cf mv=true) (hb:blB bl=true) (v:Unit):∀(k t:Nat) (T:Tab),rcB cf.length bl.length T=true->1<=t->t+k<=2000->negsM cf.length bl.length T<k -> ∀f,k+1<=f ->
  q73q_l4 N f ((cf,mv,bl,v),T,(t:Int),())=some (.inl (gameT cf mv (ballA bl) bl.length k (t:Int) T,())):=by
 obtain ⟨g1,g2,g3,g4⟩:=gmB_parts hg
 intro k
 induction k with
 | zero=>intro t T _ _ _ h;omega
 | succ k ih=>
  intro t T hT ht h2000 hneg f hf
  obtain ⟨f,rfl⟩:∃m,f=m+1:=⟨f-1,by omega⟩
  have hin:=ts_l6 N hN cf mv bl hg hb v T hT t ht cf.length 0 N false (by omega) (by omega)
  simp only [List.range_zero,List.map_nil,Int.natCast_zero,Bool.false_or,<- List.range_eq_range'] at hin
  have hany:((List.range cf.length).any (fun c=>(List.range bl.length).any fun x=>canG cf mv (ballA bl) T c x))=anyG cf mv (ballA bl) bl.length T:=rfl
  rw [hany] at hin
  show q73q_l4_r _ _ _=_
  unfold q73q_l4_r gameT
  simp only [hin,Option.bind_some]
  cases ha:anyG cf mv (ballA bl) bl.length T with
  | true=>
   have:=negsM_step (t:=(t:Int)) (by omega) ha
   simp only [Bool.not_true,Bool.false_eq_true,if_false,if_true,small_wrap (show t<=100000 by omega)]
   have:=ih (t+1) (stepG cf mv (ballA bl) bl.length (t:Int) T) (rc_tabM _ _ _) (by omega) (by omega) (by omega) f (by omega)
   exact this
  | false=>
   simp only [Bool.not_false,if_true,Bool.false_eq_true,if_false,stepG_none hT ha]
theorem l4Times_lim (d) (r) (h:G_l4Times d=some r):∃N,F_q73q N d=some r:=by
 obtain ⟨⟨cf,mv,bl,v⟩,_⟩:=d
 unfold G_l4Times at h
 split at h
 ·rename_i hc
  simp only [Bool.and_eq_true] at hc
  obtain ⟨hg,hb⟩:=hc
  obtain ⟨g1,g2,g3,g4⟩:=gmB_parts hg
  obtain ⟨b1,b2⟩:=blB_parts hb
  have h:=Option.some.inj h
  subst h
  refine ⟨2000,?_⟩
  have h0:=ts_l0 2000 (by omega) cf mv bl hg hb v cf.length 0 2000 (by omega) (by omega)
  simp only [List.range_zero,List.map_nil,Int.natCast_zero] at h0
  have hneg:=negsM_le cf.length bl.length (startG cf bl.length)
  have hmul:cf.length*bl.length<=120*8:=Nat.mul_le_mul g1 b1
  have h4:=ts_l4 2000 (by omega) cf mv bl hg hb v 1000 1 (startG cf bl.length) (rc_tabM _ _ _) (by omega) (by omega) (by omega) 2000 (by omega)
  unfold F_q73q
  simp only [h0,Option.bind_some]
  have e1:((1:Nat):Int)=1:=rfl
  rw [e1] at h4
  simp only [h4,Option.bind_some]
  rfl
 ·cases h
end Go.V.W
namespace Go.V.W
open Go.Proofs
theorem cgB_parts {l:List Int} {v u:Unit} {cf mv:List (List Int)} {T:Tab} (h:cgB ((l,v),cf,mv,T,u)=true):netB l=true/\1<=l.length/\gmB l.length cf mv=true/\rcB cf.length l.length T=true:=by
 unfold cgB at h
 simp only [Bool.and_eq_true,decide_eq_true_eq] at h
 exact ⟨h.1.1.1,h.1.1.2,h.1.2,h.2⟩
theorem timeAfter_some {l:List Int} (hl:netB l=true) {cf:List (List Int)} {T:Tab} (hT:rcB cf.length l.length T=true) {d x:Nat} (hd:d<cf.length) (hx:x<l.length) (v u:Unit):G_timeAfter ((l,v),at_ K_Si T d,(x:Int),u)=some (worstL (tab2 T (d:Int)) (ballM l (x:Int)) 0,()):=by
 obtain ⟨t1,t2⟩:=rcB_parts hT
 have hlen:decide ((at_ K_Si T d).length=l.length)=true:=decide_eq_true (t2 d hd)
 have i2:inB 0 ((l.length:Int)-1) (x:Int)=true:=inB_iff.2 (by omega)
 have hlt:d<T.length:=by omega
 have ea:at_ K_Si T d=T.getD d []:=by
  have:at_ K_Si T d=T[d]:=at_get (e:=K_Si) hlt
  rw [this,List.getD_eq_getElem?_getD,List.getElem?_eq_getElem hlt]
  rfl
 unfold G_timeAfter
 simp only [hl,hlen,i2,Bool.and_self,if_true]
 rw [ea]
 rfl
theorem can1g_some {l:List Int} {v u:Unit} {cf mv:List (List Int)} {T:Tab} (h:cgB ((l,v),cf,mv,T,u)=true) {d x:Nat} (hd:d<cf.length) (hx:x<l.length) (a b e:Unit):FV_q17q ((d:Int),(a,((l,v),cf,mv,T,u),(x:Int),b),e)=some (decide (0<=afterG cf (ballM l) T (d:Int) (x:Int)),()):=by
 obtain ⟨h1,h2,h3,h4⟩:=cgB_parts h
 obtain ⟨g1,g2,g3,g4⟩:=gmB_parts h3
 obtain ⟨y1,y2,y3⟩:=g3 d hd
 obtain ⟨t1,t2⟩:=rcB_parts h4
 have i1:idxIn (d:Int) T.length=true:=idxIn_nat (by omega)
 unfold FV_q17q F_q17q afterG
 simp only [idxIn_nat hd,if_true,Int.toNat_natCast,has2 (okL_of (show (at_ K_Si cf d).length<=1048576 by omega)),Option.bind_some,y2,i1,timeAfter_some h1 h4 hd hx]
 by_cases hh:hasL (at_ K_Si cf d) (x:Int)=true
 ·simp only [hh,if_true]
  rfl
 ·simp only [hh,Bool.false_eq_true,if_false]
theorem gameCan_lim (d) (r) (h:G_gameCan d=some r):∃N,F_q4q N d=some r:=by
 obtain ⟨xs,⟨a,⟨⟨l,v⟩,cf,mv,T,u⟩,q,b⟩,_⟩:=d
 unfold G_gameCan at h
 split at h
 ·rename_i hc
  simp only [Bool.and_eq_true,decide_eq_true_eq] at hc
  obtain ⟨⟨⟨hg,hq'⟩,hlen⟩,hxs⟩:=hc
  obtain ⟨q,rfl,hq⟩:=nodeX hq'
  have h:=Option.some.inj h
  subst h
  have hlen:xs.length<=1000:=hlen
  have hmx:xs.length<=maxLen:=by unfold maxLen;omega
  refine ⟨xs.length+1,?_⟩
  unfold F_q4q
  have:=loop_idx (L:=q4q_l0 (xs.length+1)) (r:=q4q_l0_r (xs.length+1)) (fun _ _=>rfl) (e:=I) xs (mk:=fun i=>(xs,(a,((l,v),cf,mv,T,u),(q:Int),b),(xs.length:Int),(i:Int),())) (q:=fun b=>decide (0<=afterG cf (ballM l) T b (q:Int))) (o:=fun i=>.inl ((i:Int),())) (f:=.inr (.inl ()))
   (by
    intro back i hi
    have hx:at_ I xs i=xs[i]:=at_get (e:=I) hi
    obtain ⟨y,b1,b2⟩:=nodeX (List.all_eq_true.1 hxs xs[i] (List.getElem_mem hi))
    have hcan:=can1g_some hg b2 hq a b ()
    rw [<- b1] at hcan
    unfold q4q_l0_r
    simp only [lt_dec hi,if_true,idxIn_nat hi,Int.toNat_natCast,wrap_up hi hmx,hx,hcan,Option.bind_some])
   (by intro back;unfold q4q_l0_r;simp only [lt_not,Bool.false_eq_true,if_false]) xs.length 0 (by omega) (by omega)
  simp only [Int.natCast_zero,List.drop_zero] at this
  simp only [this,Option.bind_some]
  cases idxN (fun b=>decide (0<=afterG cf (ballM l) T b (q:Int))) xs 0<;>rfl
 ·cases h
theorem gcan_some {l:List Int} {v u:Unit} {cf mv:List (List Int)} {T:Tab} (h:cgB ((l,v),cf,mv,T,u)=true) {c x:Nat} (hc:c<cf.length) (hx:x<l.length) (b:Unit):F_q28q 0 (((l,v),cf,mv,T,u),(c:Int),(x:Int),b)=some ((at_ K_Si mv c).any (fun d=>decide (0<=afterG cf (ballM l) T d (x:Int))),()):=by
 obtain ⟨h1,h2,h3,h4⟩:=cgB_parts h
 obtain ⟨g1,g2,g3,g4⟩:=gmB_parts h3
 obtain ⟨m1,m2,m3⟩:=g4 c hc
 have i1:idxIn (c:Int) mv.length=true:=idxIn_nat (by omega)
 have i2:inB 0 ((l.length:Int)-1) (x:Int)=true:=inB_iff.2 (by omega)
 have hall:(at_ K_Si mv c).all (inB 0 ((cf.length:Int)-1))=true:=List.all_eq_true.2 m3
 have hlen:decide ((at_ K_Si mv c).length<=1000)=true:=decide_eq_true m1
 unfold F_q28q F_q3q
 simp only [i1,if_true,Int.toNat_natCast,G_gameCan,h,i2,hlen,hall,Bool.and_self,Option.bind_some,idxI_ge]
theorem has_take {c:List Int} {j:Nat} (hj:j<c.length) (x:Int):hasL (c.take (j+1)) x=(hasL (c.take j) x||c[j]==x):=by
 unfold hasL
 rw [List.take_add_one,List.any_append,List.getElem?_eq_getElem hj]
 simp
theorem cg_l2 (N:Nat) (w:Nt) (y:Cg) (a:List (List Int)) (b e:Int) (n:Nat) (c:List Int) (hc3:c.length<=3) (hc:∀x∈c,inB 0 ((n:Int)-1) x=true):∀q j f,j+q=c.length->q<f ->
  q31q_l2 N f (w,y,(List.range n).map (fun (x:Nat)=>if hasL (c.take j) (x:Int)=true then (0:Int) else -1),a,b,e,c,(c.length:Int),(j:Int),())=some (.inl (w,y,(List.range n).map (fun (x:Nat)=>if hasL c (x:Int)=true then (0:Int) else -1),a,b,e,())):=by
 intro q
 induction q with
 | zero=>
  intro j f e1 e2
  obtain ⟨f,rfl⟩:∃m,f=m+1:=⟨f-1,by omega⟩
  have e:j=c.length:=by omega
  subst e
  rw [List.take_of_length_le (Nat.le_refl _)]
  show q31q_l2_r _ _ _=_
  unfold q31q_l2_r
  simp only [lt_not,Bool.false_eq_true,if_false]
 | succ q ih=>
  intro j f e1 e2
  obtain ⟨f,rfl⟩:∃m,f=m+1:=⟨f-1,by omega⟩
  have hj:j<c.length:=by omega
  obtain ⟨z,hz,hzn⟩:=nodeX (hc c[j] (List.getElem_mem hj))
  have ej:at_ I c j=(z:Int):=(at_get (e:=I) hj).trans hz
  have i1:∀g:Nat->Int,idxIn (z:Int) ((List.range n).map g).length=true:=fun g=>idxIn_nat (by simpa using hzn)
  have fin:=ih (j+1) f (by omega) (by omega)
  have er:(List.range n).map (fun (x:Nat)=>if hasL (c.take (j+1)) (x:Int)=true then (0:Int) else -1)=((List.range n).map (fun (x:Nat)=>if hasL (c.take j) (x:Int)=true then (0:Int) else -1)).set z 0:=by
   rw [map_set]
   refine List.map_congr_left fun x _ => ?_
   rw [has_take hj,hz]
   by_cases exz:x=z
   ·subst exz;simp
   ·have:((z:Int)==(x:Int))=false:=by simp;omega
    rw [this,Bool.or_false,if_neg exz]
  rw [er] at fin
  show q31q_l2_r _ _ _=_
  unfold q31q_l2_r
  simp only [lt_dec hj,if_true,idxIn_nat hj,Int.toNat_natCast,ej,i1,small_wrap (show j<=100000 by omega)]
  exact fin
theorem cg_l0 (N:Nat) (hN:10<=N) (l:List Int) (v:Unit) (h1:1<=l.length) (h8:l.length<=8) (net:Nt) (cf mv:List (List Int)) (u:Unit) (hg:gmB l.length cf mv=true):∀q i f (acc:Tab),i+q=cf.length->q<f->acc.length+q<=1000 ->
  q31q_l0 N f ((l,v),(net,cf,mv,acc,u),cf,(cf.length:Int),(i:Int),())=some (.inl ((net,cf,mv,acc++(List.range' i q).map (fun c=>(List.range l.length).map (fun (x:Nat)=>if hasL (cf.getD c []) (x:Int)=true then (0:Int) else -1)),u),())):=by
 obtain ⟨g1,g2,g3,g4⟩:=gmB_parts hg
 intro q
 induction q with
 | zero=>
  intro i f acc e1 e2 e3
  obtain ⟨f,rfl⟩:∃m,f=m+1:=⟨f-1,by omega⟩
  have e:i=cf.length:=by omega
  subst e
  show q31q_l0_r _ _ _=_
  unfold q31q_l0_r
  simp only [lt_not,Bool.false_eq_true,if_false,List.range'_zero,List.map_nil,List.append_nil]
 | succ q ih=>
  intro i f acc e1 e2 e3
  obtain ⟨f,rfl⟩:∃m,f=m+1:=⟨f-1,by omega⟩
  have hi:i<cf.length:=by omega
  obtain ⟨y1,y2,y3⟩:=g3 i hi
  have hr:G_repeat ([-1],(l.length:Int),())=some ((List.range l.length).map (fun (x:Nat)=>if hasL ((at_ K_Si cf i).take 0) (x:Int)=true then (0:Int) else -1),()):=by
   unfold G_repeat
   have e1:decide (1<=(l.length:Int))=true:=by simp;omega
   have e2:decide ((l.length:Int)<=8)=true:=by simp;omega
   simp only [List.length_singleton,decide_true,e1,e2,Bool.and_self,if_true,Int.toNat_natCast,List.headD_cons]
   congr 2
   apply List.ext_getElem
   ·simp
   ·intro i h1 h2
    simp [hasL]
  have hin:=cg_l2 N (l,v) (net,cf,mv,acc,u) cf (cf.length:Int) (i:Int) l.length (at_ K_Si cf i) y1 y3 (at_ K_Si cf i).length 0 N (by omega) (by omega)
  simp only [Int.natCast_zero] at hin
  have c1:∀x:List Int,decide (acc.length+List.length [x]<=lim)=true:=fun x=>by unfold lim;simp;omega
  show q31q_l0_r _ _ _=_
  unfold q31q_l0_r g_q49q
  simp only [lt_dec hi,if_true,idxIn_nat hi,Int.toNat_natCast,hr,Option.bind_some,hin,c1,small_wrap (show i<=100000 by omega)]
  rw [ih (i+1) f _ (by omega) (by omega) (by simp;omega),List.range'_succ,List.map_cons,List.append_assoc,List.singleton_append,y2]
theorem cg_l8 (N:Nat) {l:List Int} {v u:Unit} {cf mv:List (List Int)} {T:Tab} (h:cgB ((l,v),cf,mv,T,u)=true) (t:Int) (fd:Bool) (c:Nat) (hc:c<cf.length) (a b:Int):∀(k x f:Nat) (fresh:List E),x+k=l.length->k<f->fresh.length+k<=2000 ->
  q31q_l8 N f (((l,v),cf,mv,T,u),t,fd,fresh,(c:Int),a,b,(l.length:Int),(x:Int),(),(c:Int),()) =
   some (.inl (((l,v),cf,mv,T,u),t,fd,fresh++rowE (canG cf mv (ballM l) T) c k x,a,b,(),())):=by
 obtain ⟨h1,h2,h3,h4⟩:=cgB_parts h
 obtain ⟨g1,g2,g3,g4⟩:=gmB_parts h3
 obtain ⟨m1,m2,m3⟩:=g4 c hc
 obtain ⟨t1,t2⟩:=rcB_parts h4
 obtain ⟨p1,p2,p3,p4⟩:=netB_parts h1
 intro k
 induction k with
 | zero=>
  intro x f fresh e1 e2 e3
  obtain ⟨f,rfl⟩:∃m,f=m+1:=⟨f-1,by omega⟩
  have e:x=l.length:=by omega
  subst e
  show q31q_l8_r _ _ _=_
  unfold q31q_l8_r
  simp only [lt_not,Bool.false_eq_true,if_false,rowE,List.append_nil]
 | succ k ih=>
  intro x f fresh e1 e2 e3
  obtain ⟨f,rfl⟩:∃m,f=m+1:=⟨f-1,by omega⟩
  have hx:x<l.length:=by omega
  have i2:idxIn (x:Int) (at_ K_Si T c).length=true:=idxIn_nat (by rw [t2 c hc];exact hx)
  have hv:=tab2_rc h4 hc hx
  have hle:decide (fresh.length+List.length [(((c:Int),(x:Int),()):E)]<=lim)=true:=by
   unfold lim
   simp
   omega
  show q31q_l8_r _ _ _=_
  unfold q31q_l8_r
  simp only [lt_dec hx,if_true,Int.toNat_natCast,i2,hv,gcan_some h hc hx,Option.bind_some,hle,small_wrap (show x<=100000 by omega),rowE]
  have hcan:canG cf mv (ballM l) T c x=(decide (tab2 T (c:Int) (x:Int)<0)&&(at_ K_Si mv c).any (fun d=>decide (0<=afterG cf (ballM l) T d (x:Int)))):=by
   unfold canG
   rw [m2]
  by_cases hf:tab2 T (c:Int) (x:Int)<0
  ·cases hany:(at_ K_Si mv c).any (fun d=>decide (0<=afterG cf (ballM l) T d (x:Int))) with
   | true=>
    rw [hany] at hcan
    simp only [hf,decide_true,Bool.and_self] at hcan
    simp only [hf,decide_true,if_true,hcan]
    rw [ih (x+1) f _ (by omega) (by omega) (by simp;omega)]
    simp
   | false=>
    rw [hany,Bool.and_false] at hcan
    simp only [hf,decide_true,if_true,hcan,Bool.false_eq_true,if_false]
    exact ih (x+1) f fresh (by omega) (by omega) (by omega)
  ·simp only [hf,decide_false,Bool.false_and] at hcan
   simp only [hf,decide_false,Bool.false_eq_true,if_false,hcan]
   exact ih (x+1) f fresh (by omega) (by omega) (by omega)
theorem cg_l6 (N:Nat) (hN:10<=N) {l:List Int} {v u:Unit} {cf mv:List (List Int)} {T:Tab} (h:cgB ((l,v),cf,mv,T,u)=true) (t:Int) (fd:Bool):∀(k c f:Nat) (fresh:List E),c+k=cf.length->k<f->fresh.length+8*k<=1000 ->
  q31q_l6 N f (((l,v),cf,mv,T,u),t,fd,fresh,(cf.length:Int),(c:Int),(),()) =
   some (.inl (((l,v),cf,mv,T,u),t,fd,fresh++allP (canG cf mv (ballM l) T) l.length k c,())):=by
 obtain ⟨h1,h2,h3,h4⟩:=cgB_parts h
 obtain ⟨g1,g2,g3,g4⟩:=gmB_parts h3
 obtain ⟨t1,t2⟩:=rcB_parts h4
 obtain ⟨p1,p2,p3,p4⟩:=netB_parts h1
 intro k
 induction k with
 | zero=>
  intro c f fresh e1 e2 e3
  obtain ⟨f,rfl⟩:∃m,f=m+1:=⟨f-1,by omega⟩
  have e:c=cf.length:=by omega
  subst e
  show q31q_l6_r _ _ _=_
  unfold q31q_l6_r
  simp only [lt_not,Bool.false_eq_true,if_false,allP,List.append_nil]
 | succ k ih=>
  intro c f fresh e1 e2 e3
  obtain ⟨f,rfl⟩:∃m,f=m+1:=⟨f-1,by omega⟩
  have hc:c<cf.length:=by omega
  have i1:idxIn (c:Int) T.length=true:=idxIn_nat (by omega)
  have hin:=cg_l8 N h t fd c hc (cf.length:Int) (c:Int) l.length 0 N fresh (by omega) (by omega) (by omega)
  simp only [Int.natCast_zero] at hin
  have hrl:=rowE_len (p:=canG cf mv (ballM l) T) (x:=c) (m:=l.length) (y:=0)
  show q31q_l6_r _ _ _=_
  unfold q31q_l6_r
  simp only [lt_dec hc,if_true,i1,Int.toNat_natCast,t2 c hc,hin,Option.bind_some,small_wrap (show c<=100000 by omega),allP]
  rw [ih (c+1) f _ (by omega) (by omega) (by simp;omega),List.append_assoc]
theorem tabM_set {m n:Nat} {g:Nat->Nat->Int} {x z:Nat} (hx:x<m) (hz:z<n) (t:Int):List.set (tabM m n g) x (List.set (at_ K_Si (tabM m n g) x) z t)=tabM m n fun c r=>if c=x/\r=z then t else g c r:=by
 have hl:x<(tabM m n g).length:=by rw [tabM_len];exact hx
 have e:at_ K_Si (tabM m n g) x=(tabM m n g)[x]:=at_get (e:=K_Si) hl
 have hrow:=tabM_row (n:=n) g hx
 rw [List.getElem?_eq_getElem hl] at hrow
 rw [e,Option.some.inj hrow,map_set]
 apply List.ext_getElem
 ·simp [tabM]
 ·intro i h1 h2
  rw [List.getElem_set]
  by_cases ei:x=i
  ·subst ei
   simp only [if_true,tabM,List.getElem_map,List.getElem_range,true_and]
  ·have ei':¬i=x:=fun h=>ei h.symm
   simp only [ei,if_false,tabM,List.getElem_map,List.getElem_range,ei',false_and]
theorem cg_l10 (N:Nat) (w:Nt) (cf mv:List (List Int)) (u:Unit) (m n:Nat) (t:Int) (fresh:List E) (hfr:∀e∈fresh,∃x z:Nat,x<m/\z<n/\e=((x:Int),(z:Int),())) (hl:fresh.length<=1000):∀(k i f:Nat) (g:Nat->Nat->Int) (fd:Bool),i+k=fresh.length->k<f ->
  q31q_l10 N f ((w,cf,mv,tabM m n g,u),t,fd,fresh,(fresh.length:Int),(i:Int),()) =
   some (.inl ((w,cf,mv,tabM m n (fun c r=>if (fresh.drop i).any (isP c r)=true then t else g c r),u),t,fd||decide (0<k),())):=by
 intro k
 induction k with
 | zero=>
  intro i f g fd h1 h2
  obtain ⟨f,rfl⟩:∃m,f=m+1:=⟨f-1,by omega⟩
  have e:i=fresh.length:=by omega
  subst e
  show q31q_l10_r _ _ _=_
  unfold q31q_l10_r
  rw [List.drop_of_length_le (Nat.le_refl _)]
  simp only [lt_not,Bool.false_eq_true,if_false,List.any_nil,Nat.lt_irrefl,decide_false,Bool.or_false]
 | succ k ih=>
  intro i f g fd h1 h2
  obtain ⟨f,rfl⟩:∃m,f=m+1:=⟨f-1,by omega⟩
  have hi:i<fresh.length:=by omega
  obtain ⟨x,z,hx,hz,ee⟩:=hfr fresh[i] (List.getElem_mem hi)
  have e:at_ K_Piiq fresh i=((x:Int),(z:Int),()):=(at_get (e:=K_Piiq) hi).trans ee
  obtain ⟨t1,t2⟩:=rcB_parts (rc_tabM m n g)
  have i1:idxIn (x:Int) (tabM m n g).length=true:=idxIn_nat (by omega)
  have i2:idxIn (z:Int) (at_ K_Si (tabM m n g) x).length=true:=idxIn_nat (by rw [t2 x hx];exact hz)
  show q31q_l10_r _ _ _=_
  unfold q31q_l10_r
  simp only [lt_dec hi,if_true,idxIn_nat hi,Int.toNat_natCast,e,i1,i2,small_wrap (show i<=100000 by omega),tabM_set hx hz]
  rw [ih (i+1) f _ true (by omega) (by omega),List.drop_eq_getElem_cons hi,ee]
  have et:tabM m n (fun c r=>if (fresh.drop (i+1)).any (isP c r)=true then t else if c=x/\r=z then t else g c r)=tabM m n fun c r=>if (((x:Int),(z:Int),())::fresh.drop (i+1)).any (isP c r)=true then t else g c r:=tabM_congr fun c r _ _=>by
   rw [List.any_cons]
   by_cases h3:(fresh.drop (i+1)).any (isP c r)=true
   ·simp [h3]
   ·have h3':(fresh.drop (i+1)).any (isP c r)=false:=by simpa using h3
    by_cases h4:c=x/\r=z
    ·have:isP c r ((x:Int),(z:Int),())=true:=by
      unfold isP
      simp [h4.1,h4.2]
     rw [if_neg h3,if_pos h4,this,Bool.true_or,if_pos rfl]
    ·have:isP c r ((x:Int),(z:Int),())=false:=by
      unfold isP
      simp only [Bool.and_eq_false_iff,beq_eq_false_iff_ne,ne_eq]
      by_cases h5:c=x
      ·exact .inr fun h=>h4 ⟨h5,by omega⟩
      ·exact .inl fun h=>h5 (by omega)
     simp [h3',h4,this]
  rw [et]
  simp
theorem allP_anyM {p:Nat->Nat->Bool} {m n c r:Nat} (hc:c<m) (hr:r<n):(allP p n m 0).any (isP c r)=p c r:=by
 apply Bool.eq_iff_iff.2
 rw [List.any_eq_true]
 constructor
 ·rintro ⟨e,he,h⟩
  obtain ⟨x,z,h1,h2,h3,h4,rfl⟩:=allP_mem.1 he
  unfold isP at h
  simp only [Bool.and_eq_true,beq_iff_eq] at h
  have e1:x=c:=by omega
  have e2:z=r:=by omega
  subst e1 e2
  exact h4
 ·intro h
  exact ⟨((c:Int),(r:Int),()),allP_mem.2 ⟨c,r,Nat.zero_le _,by omega,hr,h,rfl⟩,by unfold isP;simp⟩
theorem allP_posM {cf mv:List (List Int)} {ball:Int->List Int} {n:Nat} {T:Tab}:decide (0<(allP (canG cf mv ball T) n cf.length 0).length)=anyG cf mv ball n T:=by
 apply Bool.eq_iff_iff.2
 rw [decide_eq_true_eq,anyG_spec]
 constructor
 ·intro h
  obtain ⟨x,z,h1,h2,h3,h4,_⟩:=allP_mem.1 (List.getElem_mem h)
  exact ⟨x,z,by omega,h3,h4⟩
 ·rintro ⟨c,r,hc,hr,h⟩
  exact List.length_pos_of_mem (allP_mem.2 ⟨c,r,Nat.zero_le _,by omega,hr,h,rfl⟩)
theorem cg_l4 (N:Nat) (hN:2000<=N) {l:List Int} {v u:Unit} {cf mv:List (List Int)} (hl:netB l=true) (h1:1<=l.length) (hg:gmB l.length cf mv=true):∀(k t:Nat) (T:Tab),rcB cf.length l.length T=true->t+k<=2000->negsM cf.length l.length T<k -> ∀f,k+1<=f ->
  q31q_l4 N f (((l,v),cf,mv,T,u),(t:Int),true,())=some (.inl (((l,v),cf,mv,gameT cf mv (ballM l) l.length k (t:Int) T,u),())):=by
 obtain ⟨g1,g2,g3,g4⟩:=gmB_parts hg
 obtain ⟨p1,p2,p3,p4⟩:=netB_parts hl
 intro k
 induction k with
 | zero=>intro t T _ _ h;omega
 | succ k ih=>
  intro t T hT ht hng f hf
  obtain ⟨f,rfl⟩:∃m,f=m+1:=⟨f-1,by omega⟩
  have h:cgB ((l,v),cf,mv,T,u)=true:=by
   unfold cgB
   simp only [hl,hg,hT,h1,decide_true,Bool.and_self]
  obtain ⟨t1,t2⟩:=rcB_parts hT
  have h6:=cg_l6 N (by omega) h (t:Int) false cf.length 0 N [] (by omega) (by omega) (by simp;omega)
  simp only [Int.natCast_zero,List.nil_append] at h6
  have hlen:=allP_len (p:=canG cf mv (ballM l) T) (n:=l.length) (k:=cf.length) (c:=0)
  have hnn:l.length*cf.length<=8*120:=Nat.mul_le_mul p3 g1
  have h10:=cg_l10 N (l,v) cf mv u cf.length l.length (t:Int) (allP (canG cf mv (ballM l) T) l.length cf.length 0) (fun e he=>by
   obtain ⟨x,z,_,h2,h3,_,h5⟩:=allP_mem.1 he
   exact ⟨x,z,by omega,h3,h5⟩) (by omega) (allP (canG cf mv (ballM l) T) l.length cf.length 0).length 0 N (fun c x=>tab2 T (c:Int) (x:Int)) false (by omega) (by omega)
  rw [tabM_self hT] at h10
  simp only [Int.natCast_zero,List.drop_zero,Bool.false_or,allP_posM] at h10
  have et:tabM cf.length l.length (fun c r=>if (allP (canG cf mv (ballM l) T) l.length cf.length 0).any (isP c r)=true then (t:Int) else tab2 T (c:Int) (r:Int))=stepG cf mv (ballM l) l.length (t:Int) T:=tabM_congr fun c r hc hr=>by
   rw [allP_anyM hc hr]
  rw [et] at h10
  show q31q_l4_r _ _ _=_
  unfold q31q_l4_r
  simp only [if_true,t1,h6,Option.bind_some,h10,small_wrap (show t<=100000 by omega),gameT]
  by_cases ha:anyG cf mv (ballM l) l.length T=true
  ·rw [if_pos ha,ha]
   have:=negsM_step (t:=(t:Int)) (by omega) ha
   exact ih (t+1) (stepG cf mv (ballM l) l.length (t:Int) T) (rc_tabM _ _ _) (by omega) (by omega) f (by omega)
  ·have ha':anyG cf mv (ballM l) l.length T=false:=(Bool.not_eq_true _).mp ha
   rw [if_neg ha,ha',stepG_none hT ha']
   obtain ⟨f,rfl⟩:∃m,f=m+1:=⟨f-1,by omega⟩
   rfl
theorem copGame_lim (d) (r) (h:G_copGame d=some r):∃N,F_q31q N d=some r:=by
 obtain ⟨⟨l,v⟩,k,_⟩:=d
 unfold G_copGame at h
 split at h
 ·rename_i hc
  simp only [Bool.and_eq_true,decide_eq_true_eq] at hc
  obtain ⟨⟨hl,h1⟩,hk⟩:=hc
  have hl:netB l=true:=hl
  have h1:1<=l.length:=h1
  have hk2:=inB_iff.1 hk
  obtain ⟨p1,p2,p3,p4⟩:=netB_parts hl
  have h:=Option.some.inj h
  subst h
  refine ⟨2000,?_⟩
  have hg:=board_ok (n:=l.length) p3 (k:=k.toNat) (by omega) (ball:=ballM l) (fun x _=>ballM_len l _) (fun x hx=>ballM_in hl hx)
  obtain ⟨g1,g2,g3,g4⟩:=gmB_parts hg
  have hb:G_copBoard ((l,v),k,())=some (((l,v),confL l.length k.toNat,movesI (ballM l) (confL l.length k.toNat),[],()),()):=by
   unfold G_copBoard
   simp only [hl,hk,Bool.and_self,if_true]
  have h0:=cg_l0 2000 (by omega) l v h1 p3 (l,v) (confL l.length k.toNat) (movesI (ballM l) (confL l.length k.toNat)) () hg (confL l.length k.toNat).length 0 2000 [] (by omega) (by omega) (by simp;omega)
  simp only [Int.natCast_zero,List.nil_append,<- List.range_eq_range'] at h0
  have e0:(List.range (confL l.length k.toNat).length).map (fun c=>(List.range l.length).map (fun (x:Nat)=>if hasL ((confL l.length k.toNat).getD c []) (x:Int)=true then (0:Int) else -1))=startG (confL l.length k.toNat) l.length:=rfl
  rw [e0] at h0
  have hneg:=negsM_le (confL l.length k.toNat).length l.length (startG (confL l.length k.toNat) l.length)
  have hmul:(confL l.length k.toNat).length*l.length<=120*8:=Nat.mul_le_mul g1 p3
  have h4:=cg_l4 2000 (by omega) (v:=v) (u:=()) hl h1 hg 1000 1 (startG (confL l.length k.toNat) l.length) (rc_tabM _ _ _) (by omega) (by omega) 2000 (by omega)
  have e1:((1:Nat):Int)=1:=rfl
  rw [e1] at h4
  unfold F_q31q
  simp only [hb,Option.bind_some,h0,h4]
  rfl
 ·cases h
end Go.V.W
namespace Go.V.W
open Go.Proofs
theorem after_congr {cf:List (List Int)} {b1 b2:Int->List Int} {T:Tab} {d x:Int} (h:b1 x=b2 x):afterG cf b1 T d x=afterG cf b2 T d x:=by
 unfold afterG
 rw [h]
theorem canG_congr {cf mv:List (List Int)} {b1 b2:Int->List Int} {T:Tab} {c x:Nat} (h:b1 (x:Int)=b2 (x:Int)):canG cf mv b1 T c x=canG cf mv b2 T c x:=by
 unfold canG
 simp only [after_congr (cf:=cf) (T:=T) h]
theorem anyG_congr {cf mv:List (List Int)} {b1 b2:Int->List Int} {n:Nat} (h:∀x:Nat,x<n->b1 (x:Int)=b2 (x:Int)) (T:Tab):anyG cf mv b1 n T=anyG cf mv b2 n T:=by
 apply bool_eq_iff
 rw [anyG_spec,anyG_spec]
 constructor
 ·rintro ⟨c,x,hc,hx,h2⟩
  exact ⟨c,x,hc,hx,by rw [<- canG_congr (h x hx)];exact h2⟩
 ·rintro ⟨c,x,hc,hx,h2⟩
  exact ⟨c,x,hc,hx,by rw [canG_congr (h x hx)];exact h2⟩
theorem gameT_congr {cf mv:List (List Int)} {b1 b2:Int->List Int} {n:Nat} (h:∀x:Nat,x<n->b1 (x:Int)=b2 (x:Int)):∀(k:Nat) (t:Int) (T:Tab),gameT cf mv b1 n k t T=gameT cf mv b2 n k t T:=by
 intro k
 induction k with
 | zero=>intro t T;rfl
 | succ k ih=>
  intro t T
  unfold gameT
  rw [anyG_congr h T]
  have:stepG cf mv b1 n t T=stepG cf mv b2 n t T:=tabM_congr fun c x hc hx=>by rw [canG_congr (h x hx)]
  rw [this,ih]
theorem times_congr {cf mv:List (List Int)} {b1 b2:Int->List Int} {n:Nat} (h:∀x:Nat,x<n->b1 (x:Int)=b2 (x:Int)):timesG cf mv b1 n=timesG cf mv b2 n:=gameT_congr h _ _ _
theorem gameT_rc {cf mv:List (List Int)} {ball:Int->List Int} {n:Nat}:∀(k:Nat) (t:Int) (T:Tab),rcB cf.length n T=true->rcB cf.length n (gameT cf mv ball n k t T)=true:=by
 intro k
 induction k with
 | zero=>intro t T h;exact h
 | succ k ih=>
  intro t T h
  unfold gameT
  split
  ·exact ih _ _ (rc_tabM _ _ _)
  ·exact h
theorem times_rc (cf mv:List (List Int)) (ball:Int->List Int) (n:Nat):rcB cf.length n (timesG cf mv ball n)=true:=gameT_rc _ _ _ (rc_tabM _ _ _)
theorem tm_rc (g:Gr) (k:Nat):rcB (cfG g k).length g.1.toNat (tmG g k)=true:=times_rc _ _ _ _
theorem ballA_L {n:Nat} (es:List E) {x:Nat} (hx:x<n):ballA (ballsL n es) (x:Int)=ballF n es (x:Int):=by
 unfold ballA ballsL
 rw [Int.toNat_natCast,List.getD_eq_getElem?_getD,List.getElem?_map,List.getElem?_range hx]
 rfl
theorem ballsL_len (n:Nat) (es:List E):(ballsL n es).length=n:=by simp [ballsL]
theorem balls_ok {n:Nat} (hn:n<=8) (es:List E):blB (ballsL n es)=true:=by
 unfold blB
 rw [ballsL_len,Bool.and_eq_true]
 refine ⟨decide_eq_true hn,List.all_eq_true.2 fun b hb => ?_⟩
 unfold ballsL at hb
 obtain ⟨x,_,rfl⟩:=List.mem_map.1 hb
 have:=ballF_len n es (x:Int)
 rw [Bool.and_eq_true]
 exact ⟨decide_eq_true (by omega),List.all_eq_true.2 (ballF_in es (x:Int))⟩
theorem field_parts {n:Int} {es:List E} {v:Unit} {k:Int} (h:fieldB (n,es,v) k=true):graphB (n,es,v)=true /\ ∃m q:Nat,n=(m:Int)/\k=(q:Int)/\1<=m/\m<=8/\1<=q/\q<=3:=by
 unfold fieldB at h
 simp only [Bool.and_eq_true,decide_eq_true_eq] at h
 obtain ⟨⟨h1,h2⟩,h3⟩:=h
 obtain ⟨h4,h5⟩:=graphB_n h1
 have h3:=inB_iff.1 h3
 exact ⟨h1,n.toNat,k.toNat,by omega,by omega,by omega,by omega,by omega,by omega⟩
theorem game_spec {m q:Nat} {es:List E} {v:Unit} (hg:graphB ((m:Int),es,v)=true) (ho:okL es=true) (hq:q<=3) (u w:Unit) :
  G_l4Make (((m:Int),es,v),(q:Int),u)=some ((cfG ((m:Int),es,v) q,mvG ((m:Int),es,v) q,ballsL m es,()),())/\G_l4Times ((cfG ((m:Int),es,v) q,mvG ((m:Int),es,v) q,ballsL m es,()),w)=some (tmG ((m:Int),es,v) q,()) /\
  gmB (ballsL m es).length (cfG ((m:Int),es,v) q) (mvG ((m:Int),es,v) q)=true/\blB (ballsL m es)=true:=by
 obtain ⟨h0,h8⟩:=graphB_n hg
 have hm:m<=8:=by omega
 have hG:=graph_grB hg ho
 have hk:inB 0 3 (q:Int)=true:=inB_iff.2 (by omega)
 have hb:=board_ok (n:=m) hm hq (ball:=ballF m es) (fun x _=>by have:=ballF_len m es (x:Int);omega) (fun x _=>ballF_in es (x:Int))
 have hb2:gmB (ballsL m es).length (cfG ((m:Int),es,v) q) (mvG ((m:Int),es,v) q)=true:=by
  rw [ballsL_len]
  unfold mvG cfG
  simp only [Int.toNat_natCast]
  exact hb
 have hbl:=balls_ok hm es
 refine ⟨?_,?_,hb2,hbl⟩
 ·unfold G_l4Make mvG cfG
  simp only [hG,hk,Bool.and_self,if_true,Int.toNat_natCast]
 ·unfold G_l4Times
  simp only [hb2,hbl,Bool.and_self,if_true]
  unfold tmG
  simp only [ballsL_len,Int.toNat_natCast]
  rw [times_congr fun x hx=>ballA_L es hx]
theorem game_impl {m q:Nat} {es:List E} {v:Unit} (hg:graphB ((m:Int),es,v)=true) (ho:okL es=true) (h1:1<=m) (hq:q<=3) (u:Unit) :
  G_copGame ((toI (netN m es),()),(q:Int),u)=some (((toI (netN m es),()),cfG ((m:Int),es,v) q,mvG ((m:Int),es,v) q,tmG ((m:Int),es,v) q,()),())/\cgB ((toI (netN m es),()),cfG ((m:Int),es,v) q,mvG ((m:Int),es,v) q,tmG ((m:Int),es,v) q,())=true:=by
 obtain ⟨h0,h8⟩:=graphB_n hg
 have hm:m<=8:=by omega
 obtain ⟨g1,_⟩:=graphB_edges hg
 obtain ⟨n1,n2⟩:=netB_net hm g1
 have hk:inB 0 3 (q:Int)=true:=inB_iff.2 (by omega)
 have e1:movesI (ballM (toI (netN m es))) (confL m q)=movesI (ballF m es) (confL m q):=by
  unfold movesI
  refine List.map_congr_left fun c hc => ?_
  rw [moves_congr fun x hx => ?_]
  have:=copsB_in (confL_mem.1 hc).2 x hx
  obtain ⟨y,rfl,hy⟩:=nodeX this
  exact ball_same hm g1 hy
 have e2:timesG (confL m q) (movesI (ballF m es) (confL m q)) (ballM (toI (netN m es))) m=timesG (confL m q) (movesI (ballF m es) (confL m q)) (ballF m es) m:=times_congr fun x hx=>ball_same hm g1 hx
 have hb:=board_ok (n:=m) hm hq (ball:=ballF m es) (fun x _=>by have:=ballF_len m es (x:Int);omega) (fun x _=>ballF_in es (x:Int))
 constructor
 ·unfold G_copGame
  have h1':decide (1<=m)=true:=decide_eq_true h1
  simp only [n1,n2,h1',hk,Bool.and_self,if_true,Int.toNat_natCast,e1,e2]
  rfl
 ·unfold cgB
  have h1':decide (1<=m)=true:=decide_eq_true h1
  have h2:=tm_rc ((m:Int),es,v) q
  simp only [Int.toNat_natCast] at h2
  have h3:gmB m (cfG ((m:Int),es,v) q) (mvG ((m:Int),es,v) q)=true:=by
   unfold mvG cfG
   simp only [Int.toNat_natCast]
   exact hb
  simp only [n1,n2,h1',h2,h3,Bool.and_self]
theorem specField {g:Gr} (ho:okL g.2.1=true) (k:Int) (u:Unit):F_q71q 0 (g,k,u)=some (fieldB g k,()):=by
 unfold F_q71q G_graph fieldB
 simp only [ho,if_true,Option.bind_some,l1In_eq]
 cases graphB g with
 | false=>simp only [Bool.false_eq_true,if_false,Bool.false_and]
 | true=>
  cases decide (g.1>0) with
  | false=>simp only [Bool.false_eq_true,if_false,if_true,Bool.and_false,Bool.false_and]
  | true=>simp only [if_true,Bool.true_and]
theorem implField {g:Gr} (ho:okL g.2.1=true) (k:Int) (u:Unit):F_q48q 0 (g,k,u)=some (fieldB g k,()):=by
 unfold F_q48q G_graph fieldB
 simp only [ho,if_true,Option.bind_some,within_eq]
 cases graphB g with
 | false=>simp only [Bool.false_eq_true,if_false,Bool.false_and]
 | true=>
  cases decide (g.1>0) with
  | false=>simp only [Bool.false_eq_true,if_false,if_true,Bool.and_false,Bool.false_and]
  | true=>simp only [if_true,Bool.true_and]
def capB (g:Gr) (k:Int):Tab×Bool×Unit:=if fieldB g k=true then (tmG g k.toNat,true,()) else ([],false,())
theorem specCT {n:Int} {es:List E} {v:Unit} (ho:okL es=true) (k:Int) (u:Unit):F_q22q 0 ((n,es,v),k,u)=some (capB (n,es,v) k):=by
 unfold F_q22q capB
 simp only [specField (g:=(n,es,v)) ho]
 cases h:fieldB (n,es,v) k with
 | false=>simp only [Option.bind_some,Bool.not_false,if_true,Bool.false_eq_true,if_false]
 | true=>
  obtain ⟨hg,m,q,rfl,rfl,m1,m8,q1,q3⟩:=field_parts h
  obtain ⟨h1,h2,_⟩:=game_spec hg ho q3 () ()
  simp only [Option.bind_some,Bool.not_true,Bool.false_eq_true,if_false,h1,h2,if_true,Int.toNat_natCast]
theorem implCT {n:Int} {es:List E} {v:Unit} (ho:okL es=true) (k:Int) (u:Unit):F_q19q 0 ((n,es,v),k,u)=some (capB (n,es,v) k):=by
 unfold F_q19q capB
 simp only [implField (g:=(n,es,v)) ho]
 cases h:fieldB (n,es,v) k with
 | false=>simp only [Option.bind_some,Bool.not_false,if_true,Bool.false_eq_true,if_false]
 | true=>
  obtain ⟨hg,m,q,rfl,rfl,m1,m8,q1,q3⟩:=field_parts h
  obtain ⟨h1,_⟩:=game_impl (v:=v) hg ho m1 q3 ()
  simp only [Option.bind_some,Bool.not_true,Bool.false_eq_true,if_false,net_some hg ho,h1,if_true,Int.toNat_natCast]
theorem tm_small {m q:Nat} {es:List E} {v:Unit} (hm:m<=8) (hq:q<=3):(tmG ((m:Int),es,v) q).length<=120 /\ ∀l∈tmG ((m:Int),es,v) q,l.length<=8:=by
 have h2:=tm_rc ((m:Int),es,v) q
 have h3:(cfG ((m:Int),es,v) q).length<=120:=confL_120 hm hq
 unfold rcB at h2
 simp only [Int.toNat_natCast,Bool.and_eq_true,decide_eq_true_eq,List.all_eq_true] at h2
 refine ⟨by omega,fun l hl => ?_⟩
 have:=h2.2 l hl
 omega
theorem okLL_8 {T:List (List Int)} (h1:T.length<=120) (h2:∀l∈T,l.length<=8):okLL T=true:=okLL_small (by omega) (List.all_eq_true.2 fun l hl=>decide_eq_true (by have:=h2 l hl;omega))
end Go.V.W
namespace Go.V.W
open Go.Proofs
theorem fl_l0 (N m n:Nat) (T:Tab) (hT:rcB m n T=true) (c:Nat) (hc:c<m) (ball:List Int) (hb:∀z∈ball,∃y:Nat,y<n/\z=(y:Int)) (hl:ball.length<=8):∀(k i f b:Nat),i+k=ball.length->k<f->b<n ->
  q87q_l0 N f (T,(c:Int),ball,(b:Int),(i:Int),())=some (.inl (robL (tab2 T (c:Int)) (ball.drop i) (b:Int),())):=by
 obtain ⟨t1,t2⟩:=rcB_parts hT
 have i1:idxIn (c:Int) T.length=true:=idxIn_nat (by omega)
 intro k
 induction k with
 | zero=>
  intro i f b h1 h2 h3
  obtain ⟨f,rfl⟩:∃m,f=m+1:=⟨f-1,by omega⟩
  have e:i=ball.length:=by omega
  subst e
  rw [List.drop_of_length_le (Nat.le_refl _)]
  show q87q_l0_r _ _ _=_
  unfold q87q_l0_r
  simp only [lt_not,Bool.false_eq_true,if_false,robL]
 | succ k ih=>
  intro i f b h1 h2 h3
  obtain ⟨f,rfl⟩:∃m,f=m+1:=⟨f-1,by omega⟩
  have hi:i<ball.length:=by omega
  obtain ⟨y,hy,ey⟩:=hb ball[i] (List.getElem_mem hi)
  have e:at_ I ball i=(y:Int):=(at_get (e:=I) hi).trans ey
  have i2:idxIn (y:Int) (at_ K_Si T c).length=true:=idxIn_nat (by rw [t2 c hc];exact hy)
  have i3:idxIn (b:Int) (at_ K_Si T c).length=true:=idxIn_nat (by rw [t2 c hc];exact h3)
  have hv:=tab2_rc hT hc hy
  have hw:=tab2_rc hT hc h3
  have hd:ball.drop i=(y:Int)::ball.drop (i+1):=by rw [List.drop_eq_getElem_cons hi,ey]
  rw [hd]
  show q87q_l0_r _ _ _=_
  unfold q87q_l0_r
  simp only [lt_dec hi,if_true,i1,idxIn_nat hi,Int.toNat_natCast,e,i2,i3,hv,hw,small_wrap (show i<=100000 by omega),robL]
  by_cases h4:0<=tab2 T (c:Int) (b:Int)
  ·have h4':decide (tab2 T (c:Int) (b:Int)>=0)=true:=decide_eq_true h4
   by_cases h5:tab2 T (c:Int) (y:Int)<0
   ·simp only [h4',h4,h5,decide_true,if_true,true_or,and_self]
    exact ih (i+1) f y (by omega) (by omega) hy
   ·by_cases h6:tab2 T (c:Int) (y:Int)>tab2 T (c:Int) (b:Int)
    ·simp only [h4',h4,h5,h6,decide_true,decide_false,Bool.false_eq_true,if_true,if_false,or_true,and_self]
     exact ih (i+1) f y (by omega) (by omega) hy
    ·simp only [h4',h4,h5,h6,decide_true,decide_false,Bool.false_eq_true,if_true,if_false,or_self,and_false]
     exact ih (i+1) f b (by omega) (by omega) h3
  ·have h4':decide (tab2 T (c:Int) (b:Int)>=0)=false:=decide_eq_false h4
   simp only [h4',h4,Bool.false_eq_true,if_false,false_and]
   exact ih (i+1) f b (by omega) (by omega) h3
theorem headD_at {l:List Int} (h:0<l.length):l.headD 0=l[0]:=by
 cases l with
 | nil=>simp at h
 | cons a l=>rfl
theorem l4Flee_lim (d) (r) (h:G_l4Flee d=some r):∃N,F_q87q N d=some r:=by
 obtain ⟨⟨cf,mv,bl,v⟩,T,c,x,_⟩:=d
 unfold G_l4Flee at h
 split at h
 ·rename_i hc
  simp only [Bool.and_eq_true,decide_eq_true_eq] at hc
  obtain ⟨⟨⟨⟨hb,hT⟩,hc'⟩,hx'⟩,hp⟩:=hc
  obtain ⟨b1,b2⟩:=blB_parts hb
  obtain ⟨c,rfl,hc⟩:=nodeX hc'
  obtain ⟨x,rfl,hx⟩:=nodeX hx'
  have h:=Option.some.inj h
  subst h
  obtain ⟨x1,x2,x3⟩:=b2 x hx
  have hp:1<=(ballA bl (x:Int)).length:=hp
  have hT:rcB cf.length bl.length T=true:=hT
  obtain ⟨y,hy,ey⟩:=x3 _ (List.getElem_mem (show 0<(ballA bl (x:Int)).length by omega))
  have e0:at_ I (ballA bl (x:Int)) 0=(y:Int):=(at_get (e:=I) (show 0<(ballA bl (x:Int)).length by omega)).trans ey
  have i1:idxIn (0:Int) (ballA bl (x:Int)).length=true:=idxIn_nat (i:=0) (by omega)
  have hl:=fl_l0 20 cf.length bl.length T hT c hc (ballA bl (x:Int)) x3 x2 ((ballA bl (x:Int)).length-1) 1 20 y (by omega) (by omega) hy
  have e1:((1:Nat):Int)=1:=rfl
  rw [e1] at hl
  refine ⟨20,?_⟩
  unfold F_q87q fleeG
  have z0:Int.toNat 0=0:=rfl
  simp only [idxIn_nat hx,if_true,Int.toNat_natCast,x1,i1,z0,e0,hl,Option.bind_some]
  have e2:(ballA bl (x:Int)).headD 0=(y:Int):=by
   rw [<- ey]
   exact headD_at _
  rw [e2,List.drop_one]
 ·cases h
theorem flee_spec {m q:Nat} {es:List E} {v:Unit} (hm:m<=8) {p:Nat} (hp:p<(cfG ((m:Int),es,v) q).length) {x:Nat} (hx:x<m) (u:Unit) :
  G_l4Flee ((cfG ((m:Int),es,v) q,mvG ((m:Int),es,v) q,ballsL m es,()),tmG ((m:Int),es,v) q,(p:Int),(x:Int),u)=some (fleeG (ballF m es) (tmG ((m:Int),es,v) q) (p:Int) (x:Int),()):=by
 have h2:=tm_rc ((m:Int),es,v) q
 simp only [Int.toNat_natCast] at h2
 have a1:inB 0 (((cfG ((m:Int),es,v) q).length:Int)-1) (p:Int)=true:=inB_iff.2 (by omega)
 have a2:inB 0 ((m:Int)-1) (x:Int)=true:=inB_iff.2 (by omega)
 have a3:decide (1<=(ballF m es (x:Int)).length)=true:=decide_eq_true (List.length_pos_of_mem (ball_self es hx))
 unfold G_l4Flee fleeG
 simp only [balls_ok hm es,ballsL_len,h2,a1,a2,ballA_L es hx,a3,Bool.and_self,if_true]
theorem flee_impl {m q:Nat} {es:List E} {v:Unit} (hg:graphB ((m:Int),es,v)=true) {p:Nat} (hp:p<(cfG ((m:Int),es,v) q).length) {x:Nat} (hx:x<m) (u:Unit) :
  G_robberMove ((toI (netN m es),()),at_ K_Si (tmG ((m:Int),es,v) q) p,(x:Int),u)=some (fleeG (ballF m es) (tmG ((m:Int),es,v) q) (p:Int) (x:Int),()):=by
 obtain ⟨h0,h8⟩:=graphB_n hg
 have hm:m<=8:=by omega
 obtain ⟨g1,_⟩:=graphB_edges hg
 obtain ⟨n1,n2⟩:=netB_net hm g1
 have h2:=tm_rc ((m:Int),es,v) q
 simp only [Int.toNat_natCast] at h2
 obtain ⟨t1,t2⟩:=rcB_parts h2
 have a1:decide ((at_ K_Si (tmG ((m:Int),es,v) q) p).length=m)=true:=decide_eq_true (t2 p hp)
 have a2:inB 0 ((m:Int)-1) (x:Int)=true:=inB_iff.2 (by omega)
 have hlt:p<(tmG ((m:Int),es,v) q).length:=by omega
 have ea:at_ K_Si (tmG ((m:Int),es,v) q) p=(tmG ((m:Int),es,v) q).getD p []:=by
  have:at_ K_Si (tmG ((m:Int),es,v) q) p=(tmG ((m:Int),es,v) q)[p]:=at_get (e:=K_Si) hlt
  rw [this,List.getD_eq_getElem?_getD,List.getElem?_eq_getElem hlt]
  rfl
 unfold G_robberMove fleeG
 simp only [n1,n2,a1,a2,Bool.and_self,if_true,ball_same hm g1 hx]
 rw [ea]
 rfl
theorem meet_parts {n:Int} {es:List E} {v:Unit} {c:List Int} (h:meetB (n,es,v) c=true):graphB (n,es,v)=true /\ ∃m:Nat,n=(m:Int)/\1<=m/\m<=8/\1<=c.length/\c.length<=3/\copsB (m:Int) c=true/\c∈cfG (n,es,v) c.length:=by
 unfold meetB at h
 rw [Bool.and_eq_true] at h
 obtain ⟨hg,m,q,rfl,e,m1,m8,q1,q3⟩:=field_parts h.1
 refine ⟨hg,m,rfl,m1,m8,by omega,by omega,h.2,?_⟩
 unfold cfG
 rw [Int.toNat_natCast]
 exact confL_mem.2 ⟨rfl,h.2⟩
theorem specMeet {n:Int} {es:List E} {v:Unit} (ho:okL es=true) {c:List Int} (hc:okL c=true) (x:Int) (u:Unit):F_q68q 0 ((n,es,v),c,x,u)=some (meetB (n,es,v) c&&inB 0 (n-1) x && !hasL c x,()):=by
 unfold F_q68q
 simp only [specField (g:=(n,es,v)) ho,Option.bind_some]
 cases hf:fieldB (n,es,v) (c.length:Int) with
 | false=>simp only [meetB,hf,Bool.false_eq_true,if_false,Bool.false_and]
 | true=>
  obtain ⟨hg,m,q,rfl,e,m1,m8,q1,q3⟩:=field_parts hf
  have a1:decide (0<=(m:Int))=true:=decide_eq_true (by omega)
  have a2:decide ((m:Int)<=8)=true:=decide_eq_true (by omega)
  simp only [meetB,hf,if_true,G_l4Cops,hc,a1,a2,Bool.and_self,Option.bind_some,Bool.true_and,node_eq (m:Int) es v x () (by omega) (by omega),has1 hc]
  cases copsB (m:Int) c with
  | false=>simp only [Bool.false_eq_true,if_false,Bool.false_and]
  | true=>
   cases inB 0 ((m:Int)-1) x with
   | false=>simp only [if_true,Bool.false_eq_true,if_false,Bool.and_false,Bool.false_and]
   | true=>simp only [if_true,Bool.true_and]
theorem implAre {n:Int} {es:List E} {v:Unit} (ho:okL es=true) {c:List Int} (hc:okL c=true) (u:Unit):F_q69q 0 ((n,es,v),c,u)=some (meetB (n,es,v) c,()):=by
 cases hg:graphB (n,es,v) with
 | true=>
  rw [are_cops hg ho hc]
  unfold meetB fieldB
  rw [hg,Bool.true_and]
 | false=>
  unfold F_q69q
  have hf:fieldB (n,es,v) (c.length:Int)=false:=by
   unfold fieldB
   rw [hg]
   rfl
  simp only [implField (g:=(n,es,v)) ho,Option.bind_some,hf,meetB,Bool.false_eq_true,if_false,Bool.false_and]
theorem place_impl {m:Nat} {es:List E} {v:Unit} {q:Nat} (hm:m<=8) (hq:q<=3) {c:List Int} (hc:c∈cfG ((m:Int),es,v) q) (net:Nt) (mv:List (List Int)) (T:Tab) (u w:Unit):F_q16q 0 ((net,cfG ((m:Int),es,v) q,mv,T,u),c,w)=some (placeL (cfG ((m:Int),es,v) q) c,()):=
 place_some (confL_120 hm hq) (okLL_conf hm hq) (confL_rise _ _) hc net mv T u w
theorem place_spec {m:Nat} {es:List E} {v:Unit} {q:Nat} (hm:m<=8) (hq:q<=3) (c:List Int) (u:Unit):G_l4At (cfG ((m:Int),es,v) q,c,u)=some (placeL (cfG ((m:Int),es,v) q) c,()):=at_place (okLL_conf hm hq) c
def robB (g:Gr) (c:List Int) (x:Int):Int×Bool×Unit:=if (meetB g c&&inB 0 (g.1-1) x && !hasL c x)=true then (fleeG (ballF g.1.toNat g.2.1) (tmG g c.length) (placeL (cfG g c.length) c) x,true,()) else (0,false,())
theorem specRR {n:Int} {es:List E} {v:Unit} (ho:okL es=true) {c:List Int} (hc:okL c=true) (x:Int) (u:Unit):F_q33q 0 ((n,es,v),c,x,u)=some (robB (n,es,v) c x):=by
 unfold F_q33q robB
 simp only [specMeet ho hc,Option.bind_some]
 cases h:meetB (n,es,v) c&&inB 0 (n-1) x && !hasL c x with
 | false=>simp only [Bool.not_false,if_true,Bool.false_eq_true,if_false]
 | true=>
  simp only [Bool.and_eq_true] at h
  obtain ⟨hg,m,rfl,m1,m8,c1,c3,hcb,hcm⟩:=meet_parts h.1.1
  obtain ⟨x,rfl,hx⟩:=nodeX h.1.2
  obtain ⟨h1,h2,_⟩:=game_spec (v:=v) hg ho c3 () ()
  obtain ⟨p,p1,p2,p3⟩:=place_at hcm
  simp only [Bool.not_true,Bool.false_eq_true,if_false,h1,h2,Option.bind_some,place_spec m8 c3,p2,flee_spec m8 p1 hx,if_true,Int.toNat_natCast]
theorem implRR {n:Int} {es:List E} {v:Unit} (ho:okL es=true) {c:List Int} (hc:okL c=true) (x:Int) (u:Unit):F_q29q 0 ((n,es,v),c,x,u)=some (robB (n,es,v) c x):=by
 unfold F_q29q robB
 simp only [implAre ho hc,Option.bind_some,has_nodes n es v () [x] ho (okL_of (by simp)),has2 hc]
 cases hme:meetB (n,es,v) c with
 | false=>simp only [Bool.not_false,if_true,Bool.false_and,Bool.false_eq_true,if_false]
 | true=>
  obtain ⟨hg,m,rfl,m1,m8,c1,c3,hcb,hcm⟩:=meet_parts hme
  simp only [Bool.not_true,Bool.false_eq_true,if_false,hg,List.all_cons,List.all_nil,Bool.and_true,Bool.true_and]
  cases hxb:inB 0 ((m:Int)-1) x with
  | false=>simp only [Bool.not_false,if_true,Bool.false_and,Bool.false_eq_true,if_false]
  | true=>
   cases hh:hasL c x with
   | true=>simp only [Bool.not_true,Bool.false_eq_true,if_false,if_true,Bool.and_false]
   | false=>
    obtain ⟨x,rfl,hx⟩:=nodeX hxb
    obtain ⟨h1,_⟩:=game_impl (v:=v) hg ho m1 c3 ()
    obtain ⟨p,p1,p2,p3⟩:=place_at hcm
    have h2:=tm_rc ((m:Int),es,v) c.length
    obtain ⟨t1,t2⟩:=rcB_parts h2
    have i1:idxIn (p:Int) (tmG ((m:Int),es,v) c.length).length=true:=idxIn_nat (by omega)
    simp only [Bool.not_true,Bool.not_false,Bool.false_eq_true,if_false,if_true,Bool.and_self,net_some hg ho,Option.bind_some,h1,place_impl m8 c3 hcm,p2,i1,Int.toNat_natCast,flee_impl hg p1 hx]
end Go.V.W
namespace Go.V.W
open Go.Proofs
theorem at_getD {l:List Int} {i:Nat} (h:i<l.length):at_ I l i=l.getD i 0:=by
 have e:at_ I l i=l[i]:=at_get (e:=I) h
 rw [e,List.getD_eq_getElem?_getD,List.getElem?_eq_getElem h]
 rfl
theorem at_getDS {l:List (List Int)} {i:Nat} (h:i<l.length):at_ K_Si l i=l.getD i []:=by
 have e:at_ K_Si l i=l[i]:=at_get (e:=K_Si) h
 rw [e,List.getD_eq_getElem?_getD,List.getElem?_eq_getElem h]
 rfl
theorem st_l0 (N:Nat) (row:List Int) (hr:row.length<=1000):∀(k x f:Nat) (acc:List Int),x+k=row.length->k<f->acc.length+k<=2000 ->
  q74q_l0 N f (acc,row,(x:Int),())=some (.inl (acc++setF (fun y=>inB 0 2 (row.getD y 0)) k x,())):=by
 intro k
 induction k with
 | zero=>
  intro x f acc h1 h2 h3
  obtain ⟨f,rfl⟩:∃m,f=m+1:=⟨f-1,by omega⟩
  have e:x=row.length:=by omega
  subst e
  show q74q_l0_r _ _ _=_
  unfold q74q_l0_r
  simp only [lt_not,Bool.false_eq_true,if_false,setF,List.append_nil]
 | succ k ih=>
  intro x f acc h1 h2 h3
  obtain ⟨f,rfl⟩:∃m,f=m+1:=⟨f-1,by omega⟩
  have hx:x<row.length:=by omega
  have hle:decide (acc.length+List.length [(x:Int)]<=lim)=true:=by unfold lim;simp;omega
  show q74q_l0_r _ _ _=_
  unfold q74q_l0_r
  simp only [if_true,Int.toNat_natCast,lt_dec hx,idxIn_nat hx,at_getD hx,l1In_eq,hle,small_wrap (show x<=100000 by omega),setF]
  by_cases h:inB 0 2 (row.getD x 0)=true
  ·rw [if_pos h,if_pos h,ih (x+1) f _ (by omega) (by omega) (by simp;omega)]
   simp
  ·rw [if_neg h,if_neg h]
   exact ih (x+1) f acc (by omega) (by omega) (by omega)
theorem it_l0 (N:Nat) (row:List Int) (hr:row.length<=1000):∀(k x f:Nat) (acc:List Int),x+k=row.length->k<f->acc.length+k<=2000 ->
  q70q_l0 N f (acc,row,(row.length:Int),(x:Int),())=some (.inl (acc++setF (fun y=>inB 0 2 (row.getD y 0)) k x,())):=by
 intro k
 induction k with
 | zero=>
  intro x f acc h1 h2 h3
  obtain ⟨f,rfl⟩:∃m,f=m+1:=⟨f-1,by omega⟩
  have e:x=row.length:=by omega
  subst e
  show q70q_l0_r _ _ _=_
  unfold q70q_l0_r
  simp only [lt_not,Bool.false_eq_true,if_false,setF,List.append_nil]
 | succ k ih=>
  intro x f acc h1 h2 h3
  obtain ⟨f,rfl⟩:∃m,f=m+1:=⟨f-1,by omega⟩
  have hx:x<row.length:=by omega
  have hle:decide (acc.length+List.length [(x:Int)]<=lim)=true:=by unfold lim;simp;omega
  show q70q_l0_r _ _ _=_
  unfold q70q_l0_r
  simp only [if_true,Int.toNat_natCast,lt_dec hx,idxIn_nat hx,at_getD hx,within_eq,hle,small_wrap (show x<=100000 by omega),setF]
  by_cases h:inB 0 2 (row.getD x 0)=true
  ·rw [if_pos h,if_pos h,ih (x+1) f _ (by omega) (by omega) (by simp;omega)]
   simp
  ·rw [if_neg h,if_neg h]
   exact ih (x+1) f acc (by omega) (by omega) (by omega)
theorem specTO_lim (d) (r) (h:G_traps d=some r):∃N,F_q74q N d=some r:=by
 obtain ⟨⟨n,es,v⟩,c,_⟩:=d
 unfold G_traps at h
 split at h
 ·rename_i hc
  rw [Bool.and_eq_true] at hc
  have ho:okL es=true:=hc.1
  have hc:okL c=true:=hc.2
  have h:=Option.some.inj h
  subst h
  refine ⟨20,?_⟩
  unfold F_q74q trapsB
  simp only [specField (g:=(n,es,v)) ho,Option.bind_some]
  cases hf:fieldB (n,es,v) (c.length:Int) with
  | false=>simp only [meetB,hf,Bool.not_false,if_true,Bool.false_and,Bool.false_eq_true,if_false]
  | true=>
   obtain ⟨hg,m,q,rfl,e,m1,m8,q1,q3⟩:=field_parts hf
   have a1:decide (0<=(m:Int))=true:=decide_eq_true (by omega)
   have a2:decide ((m:Int)<=8)=true:=decide_eq_true (by omega)
   cases hcb:copsB (m:Int) c with
   | false=>simp only [meetB,hf,Bool.not_true,G_l4Cops,hc,a1,a2,Bool.and_self,hcb,Bool.not_false,Option.bind_some,if_true,Bool.and_false,Bool.false_eq_true,if_false]
   | true=>
    have hm:meetB ((m:Int),es,v) c=true:=by
     unfold meetB
     rw [hf,Bool.true_and]
     exact hcb
    obtain ⟨_,m',em,_,_,c1,c3,_,hcm⟩:=meet_parts hm
    obtain ⟨h1,h2,_⟩:=game_spec (v:=v) hg ho c3 () ()
    obtain ⟨p,p1,p2,p3⟩:=place_at hcm
    have hrc:=tm_rc ((m:Int),es,v) c.length
    obtain ⟨t1,t2⟩:=rcB_parts hrc
    obtain ⟨s1,s2⟩:=tm_small (es:=es) (v:=v) m8 c3
    have hlt:p<(tmG ((m:Int),es,v) c.length).length:=by omega
    have i1:idxIn (p:Int) (tmG ((m:Int),es,v) c.length).length=true:=idxIn_nat hlt
    have hrow:(at_ K_Si (tmG ((m:Int),es,v) c.length) p).length<=8:=by
     rw [t2 p p1]
     exact m8
    have:=st_l0 20 (at_ K_Si (tmG ((m:Int),es,v) c.length) p) (by omega) (at_ K_Si (tmG ((m:Int),es,v) c.length) p).length 0 20 [] (by omega) (by omega) (by simp;omega)
    simp only [Int.natCast_zero,List.nil_append] at this
    have et:setF (fun y=>inB 0 2 ((at_ K_Si (tmG ((m:Int),es,v) c.length) p).getD y 0)) (at_ K_Si (tmG ((m:Int),es,v) c.length) p).length 0=trapL ((tmG ((m:Int),es,v) c.length).getD p []):=by
     rw [at_getDS hlt]
     rfl
    rw [et] at this
    simp only [hm,Bool.not_true,G_l4Cops,hc,a1,a2,Bool.and_self,hcb,Bool.false_eq_true,if_false,Option.bind_some,if_true,h1,h2,place_spec m8 c3,p2,i1,Int.toNat_natCast,this]
 ·cases h
theorem implTO_lim (d) (r) (h:G_traps d=some r):∃N,F_q70q N d=some r:=by
 obtain ⟨⟨n,es,v⟩,c,_⟩:=d
 unfold G_traps at h
 split at h
 ·rename_i hc
  rw [Bool.and_eq_true] at hc
  have ho:okL es=true:=hc.1
  have hc:okL c=true:=hc.2
  have h:=Option.some.inj h
  subst h
  refine ⟨20,?_⟩
  unfold F_q70q trapsB
  simp only [implAre ho hc,Option.bind_some]
  cases hm:meetB (n,es,v) c with
  | false=>simp only [Bool.not_false,if_true,Bool.false_eq_true,if_false]
  | true=>
   obtain ⟨hg,m,rfl,m1,m8,c1,c3,hcb,hcm⟩:=meet_parts hm
   obtain ⟨h1,_⟩:=game_impl (v:=v) hg ho m1 c3 ()
   obtain ⟨p,p1,p2,p3⟩:=place_at hcm
   have hrc:=tm_rc ((m:Int),es,v) c.length
   obtain ⟨t1,t2⟩:=rcB_parts hrc
   have hlt:p<(tmG ((m:Int),es,v) c.length).length:=by omega
   have i1:idxIn (p:Int) (tmG ((m:Int),es,v) c.length).length=true:=idxIn_nat hlt
   have hrow:(at_ K_Si (tmG ((m:Int),es,v) c.length) p).length<=8:=by
    rw [t2 p p1]
    exact m8
   have:=it_l0 20 (at_ K_Si (tmG ((m:Int),es,v) c.length) p) (by omega) (at_ K_Si (tmG ((m:Int),es,v) c.length) p).length 0 20 [] (by omega) (by omega) (by simp;omega)
   simp only [Int.natCast_zero,List.nil_append] at this
   have et:setF (fun y=>inB 0 2 ((at_ K_Si (tmG ((m:Int),es,v) c.length) p).getD y 0)) (at_ K_Si (tmG ((m:Int),es,v) c.length) p).length 0=trapL ((tmG ((m:Int),es,v) c.length).getD p []):=by
    rw [at_getDS hlt]
    rfl
   rw [et] at this
   simp only [Bool.not_true,Bool.false_eq_true,if_false,if_true,net_some hg ho,Option.bind_some,h1,place_impl m8 c3 hcm,p2,i1,Int.toNat_natCast,this]
 ·cases h
theorem traps_small {g:Gr} {c:List Int}:(trapsB g c).1.length<=8:=by
 unfold trapsB
 split
 ·rename_i hb
  obtain ⟨n,es,v⟩:=g
  obtain ⟨hg,m,rfl,m1,m8,c1,c3,hcb,hcm⟩:=meet_parts hb
  obtain ⟨s1,s2⟩:=tm_small (es:=es) (v:=v) m8 c3
  have key:∀i,((tmG ((m:Int),es,v) c.length).getD i []).length<=8:=fun i=>by
   rw [List.getD_eq_getElem?_getD]
   cases hi:(tmG ((m:Int),es,v) c.length)[i]? with
   | none=>simp
   | some r=>exact s2 r (List.mem_of_getElem? hi)
  have h2:(trapL ((tmG ((m:Int),es,v) c.length).getD (placeL (cfG ((m:Int),es,v) c.length) c).toNat [])).length<=_:=setF_len
  exact Nat.le_trans h2 (key _)
 ·simp
end Go.V.W
namespace Go.V.W
open Go.Proofs
theorem bestP_free (after:Int->Int):∀(l:List Int) (b p q:Int),b<0->bestP after l b p=bestP after l b q:=by
 intro l
 induction l with
 | nil=>intro b p q _;rfl
 | cons d l ih=>
  intro b p q hb
  unfold bestP
  by_cases h:0<=after d
  ·have h1:0<=after d/\(b<0\/after d<p):=⟨h,.inl hb⟩
   have h2:0<=after d/\(b<0\/after d<q):=⟨h,.inl hb⟩
   rw [if_pos h1,if_pos h2]
  ·have h1:¬(0<=after d/\(b<0\/after d<p)):=fun hh=>h hh.1
   have h2:¬(0<=after d/\(b<0\/after d<q)):=fun hh=>h hh.1
   rw [if_neg h1,if_neg h2]
   exact ih b p q hb
theorem bestP_pos (after:Int->Int):∀(l:List Int) (b p:Int),(∀d∈l,0<=d)->(0<=bestP after l b p↔0<=b \/ ∃d∈l,0<=after d):=by
 intro l
 induction l with
 | nil=>intro b p _;simp [bestP]
 | cons d l ih=>
  intro b p hl
  have hd:=hl d (by simp)
  have hl':∀x∈l,0<=x:=fun x hx=>hl x (by simp [hx])
  unfold bestP
  by_cases h:0<=after d/\(b<0\/after d<p)
  ·rw [if_pos h,ih _ _ hl']
   constructor
   ·intro _;exact .inr ⟨d,by simp,h.1⟩
   ·intro _;exact .inl hd
  ·rw [if_neg h,ih _ _ hl']
   constructor
   ·rintro (h1 | ⟨x,hx,h1⟩)
    ·exact .inl h1
    ·exact .inr ⟨x,by simp [hx],h1⟩
   ·rintro (h1 | ⟨x,hx,h1⟩)
    ·exact .inl h1
    ·rcases List.mem_cons.1 hx with rfl | hx
     ·refine .inl (Int.not_lt.1 fun hb=>h ⟨h1,.inl hb⟩)
     ·exact .inr ⟨x,hx,h1⟩
theorem bestP_mem (after:Int->Int):∀(l:List Int) (b p:Int),bestP after l b p=b\/bestP after l b p∈l:=by
 intro l
 induction l with
 | nil=>intro b p;exact .inl rfl
 | cons d l ih=>
  intro b p
  unfold bestP
  split
  ·rcases ih d (after d) with h | h
   ·exact .inr (by rw [h];simp)
   ·exact .inr (by simp [h])
  ·rcases ih b p with h | h
   ·exact .inl h
   ·exact .inr (by simp [h])
theorem lb_l0 (N:Nat) (cf mv bl:List (List Int)) (hg:gmB bl.length cf mv=true) (hb:blB bl=true) (v:Unit) (T:Tab) (hT:rcB cf.length bl.length T=true) (c:Nat) (hc:c<cf.length) (x:Nat) (hx:x<bl.length):∀(k i f:Nat) (b p:Int),i+k=(at_ K_Si mv c).length->k<f ->
  q88q_l0 N f (T,(c:Int),(x:Int),(cf,mv,bl,v),b,p,(i:Int),())=some (.inl (bestP (fun d=>afterG cf (ballA bl) T d (x:Int)) ((at_ K_Si mv c).drop i) b p,())):=by
 obtain ⟨g1,g2,g3,g4⟩:=gmB_parts hg
 obtain ⟨m1,m2,m3⟩:=g4 c hc
 have i1:idxIn (c:Int) mv.length=true:=idxIn_nat (by omega)
 have hxi:inB 0 ((bl.length:Int)-1) (x:Int)=true:=inB_iff.2 (by omega)
 intro k
 induction k with
 | zero=>
  intro i f b p h1 h2
  obtain ⟨f,rfl⟩:∃m,f=m+1:=⟨f-1,by omega⟩
  have e:i=(at_ K_Si mv c).length:=by omega
  rw [List.drop_of_length_le (by omega)]
  subst e
  show q88q_l0_r _ _ _=_
  unfold q88q_l0_r
  simp only [i1,if_true,Int.toNat_natCast,lt_not,Bool.false_eq_true,if_false,bestP]
 | succ k ih=>
  intro i f b p h1 h2
  obtain ⟨f,rfl⟩:∃m,f=m+1:=⟨f-1,by omega⟩
  have hi:i<(at_ K_Si mv c).length:=by omega
  have ei:at_ I (at_ K_Si mv c) i=(at_ K_Si mv c)[i]:=at_get (e:=I) hi
  have haf:=afterG_some hg hb hT (m3 _ (List.getElem_mem hi)) hxi v ()
  rw [List.drop_eq_getElem_cons hi]
  show q88q_l0_r _ _ _=_
  unfold q88q_l0_r
  simp only [i1,if_true,Int.toNat_natCast,lt_dec hi,idxIn_nat hi,ei,haf,Option.bind_some,small_wrap (show i<=100000 by omega),bestP]
  by_cases h0:0<=afterG cf (ballA bl) T (at_ K_Si mv c)[i] (x:Int)
  ·have h0':decide (afterG cf (ballA bl) T (at_ K_Si mv c)[i] (x:Int)>=0)=true:=decide_eq_true h0
   by_cases hbn:b<0
   ·simp only [h0',h0,hbn,decide_true,if_true,true_or,and_self]
    exact ih (i+1) f _ _ (by omega) (by omega)
   ·by_cases hp:afterG cf (ballA bl) T (at_ K_Si mv c)[i] (x:Int)<p
    ·simp only [h0',h0,hbn,hp,decide_true,decide_false,Bool.false_eq_true,if_true,if_false,or_true,and_self]
     exact ih (i+1) f _ _ (by omega) (by omega)
    ·simp only [h0',h0,hbn,hp,decide_true,decide_false,Bool.false_eq_true,if_true,if_false,or_self,and_false]
     exact ih (i+1) f _ _ (by omega) (by omega)
  ·have h0':decide (afterG cf (ballA bl) T (at_ K_Si mv c)[i] (x:Int)>=0)=false:=decide_eq_false h0
   simp only [h0',h0,decide_false,Bool.false_eq_true,if_false,false_and]
   exact ih (i+1) f _ _ (by omega) (by omega)
theorem l4Best_lim (d) (r) (h:G_l4Best d=some r):∃N,F_q88q N d=some r:=by
 obtain ⟨⟨cf,mv,bl,v⟩,T,c,x,_⟩:=d
 unfold G_l4Best at h
 split at h
 ·rename_i hc
  simp only [Bool.and_eq_true] at hc
  obtain ⟨⟨⟨⟨hg,hb⟩,hT⟩,hc'⟩,hx'⟩:=hc
  obtain ⟨g1,g2,g3,g4⟩:=gmB_parts hg
  obtain ⟨c,rfl,hc⟩:=nodeX hc'
  obtain ⟨x,rfl,hx⟩:=nodeX hx'
  have h:=Option.some.inj h
  subst h
  obtain ⟨m1,m2,m3⟩:=g4 c hc
  refine ⟨1010,?_⟩
  have hl:=lb_l0 1010 cf mv bl hg hb v T hT c hc x hx (at_ K_Si mv c).length 0 1010 (-1) (-1) (by omega) (by omega)
  simp only [Int.natCast_zero,List.drop_zero] at hl
  unfold F_q88q bestG
  simp only [hl,Option.bind_some,Int.toNat_natCast,m2]
  rw [bestP_free _ _ (-1) 0 (-1) (by omega)]
 ·cases h
theorem gr_l0 (N:Nat) {l:List Int} {v u:Unit} {cf mv:List (List Int)} {T:Tab} (h:cgB ((l,v),cf,mv,T,u)=true) (x:Nat) (hx:x<l.length) (L:List Int) (hL:L.length<=1000) (hLm:∀d∈L,inB 0 ((cf.length:Int)-1) d=true):∀(k i f:Nat) (b p:Int),i+k=L.length->k<f ->
  q15q_l0 N f (((l,v),cf,mv,T,u),(x:Int),b,p,L,(L.length:Int),(i:Int),())=some (.inl (((l,v),cf,mv,T,u),bestP (fun d=>afterG cf (ballM l) T d (x:Int)) (L.drop i) b p,())):=by
 obtain ⟨h1,h2,h3,h4⟩:=cgB_parts h
 obtain ⟨g1,g2,g3,g4⟩:=gmB_parts h3
 obtain ⟨t1,t2⟩:=rcB_parts h4
 intro k
 induction k with
 | zero=>
  intro i f b p e1 e2
  obtain ⟨f,rfl⟩:∃m,f=m+1:=⟨f-1,by omega⟩
  have e:i=L.length:=by omega
  subst e
  rw [List.drop_of_length_le (Nat.le_refl _)]
  show q15q_l0_r _ _ _=_
  unfold q15q_l0_r
  simp only [lt_not,Bool.false_eq_true,if_false,bestP]
 | succ k ih=>
  intro i f b p e1 e2
  obtain ⟨f,rfl⟩:∃m,f=m+1:=⟨f-1,by omega⟩
  have hi:i<L.length:=by omega
  obtain ⟨d,ed,hd⟩:=nodeX (hLm _ (List.getElem_mem hi))
  have ei:at_ I L i=(d:Int):=(at_get (e:=I) hi).trans ed
  obtain ⟨y1,y2,y3⟩:=g3 d hd
  have i2:idxIn (d:Int) T.length=true:=idxIn_nat (by omega)
  have hge:decide ((0:Int)>=0)=true:=by decide
  have hea:afterG cf (ballM l) T (d:Int) (x:Int)=if hasL (at_ K_Si cf d) (x:Int)=true then 0 else worstL (tab2 T (d:Int)) (ballM l (x:Int)) 0:=by
   unfold afterG
   rw [Int.toNat_natCast,y2]
  rw [List.drop_eq_getElem_cons hi,ed]
  show q15q_l0_r _ _ _=_
  unfold q15q_l0_r
  simp only [lt_dec hi,if_true,idxIn_nat hi,Int.toNat_natCast,ei,idxIn_nat hd,has2 (okL_of (show (at_ K_Si cf d).length<=1048576 by omega)),Option.bind_some,i2,timeAfter_some h1 h4 hd hx,small_wrap (show i<=100000 by omega),bestP,hge]
  by_cases hh:hasL (at_ K_Si cf d) (x:Int)=true
  ·rw [if_pos hh] at hea
   simp only [hh,Bool.not_true,Bool.false_eq_true,if_false,hea,Int.le_refl,true_and]
   by_cases hbn:b<0
   ·simp only [hbn,decide_true,if_true,true_or]
    exact ih (i+1) f _ _ (by omega) (by omega)
   ·by_cases hp:(0:Int)<p
    ·simp only [hbn,hp,decide_true,decide_false,Bool.false_eq_true,if_true,if_false,or_true]
     exact ih (i+1) f _ _ (by omega) (by omega)
    ·simp only [hbn,hp,decide_false,Bool.false_eq_true,if_false,or_self]
     exact ih (i+1) f _ _ (by omega) (by omega)
  ·have hh':hasL (at_ K_Si cf d) (x:Int)=false:=(Bool.not_eq_true _).mp hh
   rw [if_neg hh] at hea
   simp only [hh',Bool.not_false,if_true,hea]
   by_cases h0:0<=worstL (tab2 T (d:Int)) (ballM l (x:Int)) 0
   ·have h0':decide (worstL (tab2 T (d:Int)) (ballM l (x:Int)) 0>=0)=true:=decide_eq_true h0
    by_cases hbn:b<0
    ·simp only [h0',h0,hbn,decide_true,if_true,true_or,and_self]
     exact ih (i+1) f _ _ (by omega) (by omega)
    ·by_cases hp:worstL (tab2 T (d:Int)) (ballM l (x:Int)) 0<p
     ·simp only [h0',h0,hbn,hp,decide_true,decide_false,Bool.false_eq_true,if_true,if_false,or_true,and_self]
      exact ih (i+1) f _ _ (by omega) (by omega)
     ·simp only [h0',h0,hbn,hp,decide_true,decide_false,Bool.false_eq_true,if_true,if_false,or_self,and_false]
      exact ih (i+1) f _ _ (by omega) (by omega)
   ·have h0':decide (worstL (tab2 T (d:Int)) (ballM l (x:Int)) 0>=0)=false:=decide_eq_false h0
    simp only [h0',h0,decide_false,Bool.false_eq_true,if_false,false_and]
    exact ih (i+1) f _ _ (by omega) (by omega)
theorem gameReply_lim (d) (r) (h:G_reply d=some r):∃N,F_q15q N d=some r:=by
 obtain ⟨⟨⟨l,v⟩,cf,mv,T,u⟩,c,x,_⟩:=d
 unfold G_reply at h
 split at h
 ·rename_i hc
  simp only [Bool.and_eq_true,decide_eq_true_eq] at hc
  obtain ⟨⟨⟨⟨hcg,hri⟩,hme⟩,hx'⟩,hpos⟩:=hc
  obtain ⟨h1,h2,h3,h4⟩:=cgB_parts hcg
  obtain ⟨g1,g2,g3,g4⟩:=gmB_parts h3
  obtain ⟨x,rfl,hx⟩:=nodeX hx'
  have h:=Option.some.inj h
  subst h
  have hri:riseB cf=true:=hri
  have hme:memB cf c=true:=hme
  have hok:okLL cf=true:=okLL_small (by omega) (List.all_eq_true.2 fun y hy=>decide_eq_true (by
   obtain ⟨i,hi,rfl⟩:=List.getElem_of_mem hy
   have:=(g3 i hi).1
   have e:at_ K_Si cf i=cf[i]:=at_get (e:=K_Si) hi
   rw [e] at this
   omega))
  have hpl:=place_some g1 hok (riseB_iff.1 hri) (memB_iff.1 hme) (l,v) mv T u ()
  obtain ⟨p,p1,p2,p3⟩:=place_at (memB_iff.1 hme)
  have hpos:0<=bestG cf mv (ballM l) T (placeL cf c) (x:Int):=hpos
  have i1:idxIn (p:Int) mv.length=true:=idxIn_nat (by omega)
  obtain ⟨m1,m2,m3⟩:=g4 p p1
  have hl:=gr_l0 1010 hcg x hx (at_ K_Si mv p) m1 m3 (at_ K_Si mv p).length 0 1010 (-1) 0 (by omega) (by omega)
  simp only [Int.natCast_zero,List.drop_zero] at hl
  have hbe:bestP (fun d=>afterG cf (ballM l) T d (x:Int)) (at_ K_Si mv p) (-1) 0=bestG cf mv (ballM l) T (p:Int) (x:Int):=by
   unfold bestG
   rw [Int.toNat_natCast,m2]
  rw [hbe] at hl
  rw [p2] at hpos
  have hbm:bestG cf mv (ballM l) T (p:Int) (x:Int)∈at_ K_Si mv p:=by
   rw [<- hbe] at hpos |-
   rcases bestP_mem (fun d=>afterG cf (ballM l) T d (x:Int)) (at_ K_Si mv p) (-1) 0 with h | h
   ·rw [h] at hpos;omega
   ·exact h
  obtain ⟨b,eb,hb⟩:=nodeX (m3 _ hbm)
  refine ⟨1010,?_⟩
  unfold F_q15q
  simp only [hpl,Option.bind_some,p2,i1,if_true,Int.toNat_natCast,hl,eb,idxIn_nat hb]
  rw [at_getDS hb]
 ·cases h
structure TimI (cf mv:List (List Int)) (ball:Int->List Int) (n:Nat) (T:Tab):Prop where
 caught:∀c x:Nat,c<cf.length->x<n->hasL (cf.getD c []) (x:Int)=true->tab2 T (c:Int) (x:Int)=0
 some:∀c x:Nat,c<cf.length->x<n->0<=tab2 T (c:Int) (x:Int)->hasL (cf.getD c []) (x:Int)=true\/(1<=tab2 T (c:Int) (x:Int) /\ ∃d∈mv.getD c [],0<=afterG cf ball T d (x:Int))
theorem afterG_keep {cf mv:List (List Int)} {ball:Int->List Int} {n:Nat} (hb:∀x:Nat,x<n -> ∀z∈ball (x:Int),∃y:Nat,y<n/\z=(y:Int)) {t:Int} {T:Tab} {d x:Nat} (hd:d<cf.length) (hx:x<n) (h:0<=afterG cf ball T (d:Int) (x:Int)):0<=afterG cf ball (stepG cf mv ball n t T) (d:Int) (x:Int):=by
 unfold afterG at h |-
 split
 ·omega
 ·rename_i hh
  rw [if_neg hh] at h
  have e:worstL (tab2 (stepG cf mv ball n t T) (d:Int)) (ball (x:Int)) 0=worstL (tab2 T (d:Int)) (ball (x:Int)) 0:=by
   rcases worst_spec (tab2 T (d:Int)) (ball (x:Int)) 0 with ⟨_,h2⟩ | ⟨hall,_,_⟩
   ·omega
   ·refine worst_congr fun z hz => ?_
    obtain ⟨y,hy,rfl⟩:=hb x hx z hz
    have:=hall (y:Int) hz
    rw [stepG_at hd hy,if_neg fun hcan => ?_]
    unfold canG at hcan
    simp only [Bool.and_eq_true,decide_eq_true_eq] at hcan
    omega
  rw [e]
  exact h
theorem timI_step {cf mv:List (List Int)} {ball:Int->List Int} {n:Nat} (hg:gmB n cf mv=true) (hb:∀x:Nat,x<n -> ∀z∈ball (x:Int),∃y:Nat,y<n/\z=(y:Int)) {t:Int} (ht:1<=t) {T:Tab} (hI:TimI cf mv ball n T):TimI cf mv ball n (stepG cf mv ball n t T):=by
 obtain ⟨g1,g2,g3,g4⟩:=gmB_parts hg
 refine ⟨fun c x hc hx hh => ?_,fun c x hc hx h0 => ?_⟩
 ·have h1:=hI.caught c x hc hx hh
  rw [stepG_at hc hx,if_neg fun hcan => ?_]
  ·exact h1
  ·unfold canG at hcan
   simp only [Bool.and_eq_true,decide_eq_true_eq] at hcan
   omega
 ·obtain ⟨m1,m2,m3⟩:=g4 c hc
  by_cases hcan:canG cf mv ball T c x=true
  ·right
   rw [stepG_at hc hx,if_pos hcan]
   refine ⟨ht,?_⟩
   unfold canG at hcan
   rw [Bool.and_eq_true] at hcan
   obtain ⟨d,hd,h2⟩:=List.any_eq_true.1 hcan.2
   have hdm:=m3 d (by rw [<- m2];exact hd)
   obtain ⟨e,rfl,he⟩:=nodeX hdm
   exact ⟨(e:Int),hd,afterG_keep hb he hx (of_decide_eq_true h2)⟩
  ·rw [stepG_at hc hx,if_neg hcan] at h0 |-
   rcases hI.some c x hc hx h0 with h1 | ⟨h1,d,hd,h2⟩
   ·exact .inl h1
   ·have hdm:=m3 d (by rw [<- m2];exact hd)
    obtain ⟨e,rfl,he⟩:=nodeX hdm
    exact .inr ⟨h1,(e:Int),hd,afterG_keep hb he hx h2⟩
theorem timI_start (cf mv:List (List Int)) (ball:Int->List Int) (n:Nat):TimI cf mv ball n (startG cf n):=by
 have e:∀c x:Nat,c<cf.length->x<n->tab2 (startG cf n) (c:Int) (x:Int)=if hasL (cf.getD c []) (x:Int)=true then 0 else -1:=fun c x hc hx=>tab2_tabM _ hc hx
 refine ⟨fun c x hc hx hh => ?_,fun c x hc hx h0 => ?_⟩
 ·rw [e c x hc hx,if_pos hh]
 ·rw [e c x hc hx] at h0
  by_cases hh:hasL (cf.getD c []) (x:Int)=true
  ·exact .inl hh
  ·rw [if_neg hh] at h0
   omega
theorem gameT_end {cf mv:List (List Int)} {ball:Int->List Int} {n:Nat} (hg:gmB n cf mv=true) (hb:∀x:Nat,x<n -> ∀z∈ball (x:Int),∃y:Nat,y<n/\z=(y:Int)):∀(k:Nat) (t:Int) (T:Tab),1<=t->negsM cf.length n T<k->TimI cf mv ball n T->TimI cf mv ball n (gameT cf mv ball n k t T)/\anyG cf mv ball n (gameT cf mv ball n k t T)=false:=by
 intro k
 induction k with
 | zero=>intro t T _ h;omega
 | succ k ih=>
  intro t T ht hn hI
  unfold gameT
  by_cases ha:anyG cf mv ball n T=true
  ·rw [if_pos ha]
   have:=negsM_step (t:=t) (by omega) ha
   exact ih (t+1) _ (by omega) (by omega) (timI_step hg hb ht hI)
  ·rw [if_neg ha]
   exact ⟨hI,(Bool.not_eq_true _).mp ha⟩
theorem best_iff {cf mv:List (List Int)} {ball:Int->List Int} {n:Nat} (hn:n<=8) (hg:gmB n cf mv=true) (hb:∀x:Nat,x<n -> ∀z∈ball (x:Int),∃y:Nat,y<n/\z=(y:Int)) {c x:Nat} (hc:c<cf.length) (hx:x<n) (hh:hasL (cf.getD c []) (x:Int)=false) :
  (0<=bestG cf mv ball (timesG cf mv ball n) (c:Int) (x:Int)↔0<=tab2 (timesG cf mv ball n) (c:Int) (x:Int))/\(0<=tab2 (timesG cf mv ball n) (c:Int) (x:Int)↔1<=tab2 (timesG cf mv ball n) (c:Int) (x:Int)):=by
 obtain ⟨g1,g2,g3,g4⟩:=gmB_parts hg
 obtain ⟨m1,m2,m3⟩:=g4 c hc
 have hneg:=negsM_le cf.length n (startG cf n)
 have hmul:cf.length*n<=120*8:=Nat.mul_le_mul g1 hn
 obtain ⟨hI,hno⟩:=gameT_end hg hb 1000 1 (startG cf n) (by omega) (by omega) (timI_start cf mv ball n)
 have hI:TimI cf mv ball n (timesG cf mv ball n):=hI
 have hno:anyG cf mv ball n (timesG cf mv ball n)=false:=hno
 have hall:∀d∈mv.getD c [],0<=d:=fun d hd=>by
  rw [m2] at hd
  exact (inB_iff.1 (m3 d hd)).1
 constructor
 ·unfold bestG
  rw [Int.toNat_natCast,bestP_pos _ _ _ _ hall]
  constructor
  ·rintro (h | ⟨d,hd,h⟩)
   ·omega
   ·rcases Int.lt_or_le (tab2 (timesG cf mv ball n) (c:Int) (x:Int)) 0 with h0 | h0
    ·have hcan:canG cf mv ball (timesG cf mv ball n) c x=true:=by
      unfold canG
      rw [Bool.and_eq_true]
      exact ⟨decide_eq_true h0,List.any_eq_true.2 ⟨d,hd,decide_eq_true h⟩⟩
     have:=anyG_spec.2 ⟨c,x,hc,hx,hcan⟩
     rw [hno] at this
     cases this
    ·exact h0
  ·intro h0
   rcases hI.some c x hc hx h0 with h1 | ⟨h1,d,hd,h2⟩
   ·rw [hh] at h1;cases h1
   ·exact .inr ⟨d,hd,h2⟩
 ·constructor
  ·intro h0
   rcases hI.some c x hc hx h0 with h1 | ⟨h1,_⟩
   ·rw [hh] at h1;cases h1
   ·exact h1
  ·intro h;omega
theorem times_caught {cf mv:List (List Int)} {ball:Int->List Int} {n:Nat} (hn:n<=8) (hg:gmB n cf mv=true) (hb:∀x:Nat,x<n -> ∀z∈ball (x:Int),∃y:Nat,y<n/\z=(y:Int)) {c x:Nat} (hc:c<cf.length) (hx:x<n) (hh:hasL (cf.getD c []) (x:Int)=true):tab2 (timesG cf mv ball n) (c:Int) (x:Int)=0:=by
 obtain ⟨g1,g2,g3,g4⟩:=gmB_parts hg
 have hneg:=negsM_le cf.length n (startG cf n)
 have hmul:cf.length*n<=120*8:=Nat.mul_le_mul g1 hn
 obtain ⟨hI,hno⟩:=gameT_end hg hb 1000 1 (startG cf n) (by omega) (by omega) (timI_start cf mv ball n)
 exact hI.caught c x hc hx hh
def replyB (g:Gr) (c:List Int) (x:Int):List Int×Bool×Unit:=
 if (meetB g c&&inB 0 (g.1-1) x && !hasL c x&&decide (0<=bestG (cfG g c.length) (mvG g c.length) (ballF g.1.toNat g.2.1) (tmG g c.length) (placeL (cfG g c.length) c) x))=true then ((cfG g c.length).getD (bestG (cfG g c.length) (mvG g c.length) (ballF g.1.toNat g.2.1) (tmG g c.length) (placeL (cfG g c.length) c) x).toNat [],true,()) else ([],false,())
theorem best_congr {cf mv:List (List Int)} {b1 b2:Int->List Int} {T:Tab} {c x:Int} (h:b1 x=b2 x):bestG cf mv b1 T c x=bestG cf mv b2 T c x:=by
 unfold bestG
 congr 1
 funext d
 exact after_congr h
theorem best_rng {n:Nat} {cf mv:List (List Int)} (hg:gmB n cf mv=true) {ball:Int->List Int} {T:Tab} {c:Nat} (hc:c<cf.length) {x:Int} (h:0<=bestG cf mv ball T (c:Int) x):∃b:Nat,bestG cf mv ball T (c:Int) x=(b:Int)/\b<cf.length:=by
 obtain ⟨g1,g2,g3,g4⟩:=gmB_parts hg
 obtain ⟨m1,m2,m3⟩:=g4 c hc
 unfold bestG at h |-
 rw [Int.toNat_natCast,m2] at h |-
 rcases bestP_mem (fun d=>afterG cf ball T d x) (at_ K_Si mv c) (-1) 0 with h1 | h1
 ·rw [h1] at h;omega
 ·exact nodeX (m3 _ h1)
theorem best_spec_some {m q:Nat} {es:List E} {v:Unit} (hg:graphB ((m:Int),es,v)=true) (ho:okL es=true) (hm:m<=8) (hq:q<=3) {p:Nat} (hp:p<(cfG ((m:Int),es,v) q).length) {x:Nat} (hx:x<m) (u:Unit) :
  G_l4Best ((cfG ((m:Int),es,v) q,mvG ((m:Int),es,v) q,ballsL m es,()),tmG ((m:Int),es,v) q,(p:Int),(x:Int),u)=some (bestG (cfG ((m:Int),es,v) q) (mvG ((m:Int),es,v) q) (ballF m es) (tmG ((m:Int),es,v) q) (p:Int) (x:Int),()):=by
 obtain ⟨_,_,h3,h4⟩:=game_spec (v:=v) hg ho hq () ()
 have h2:=tm_rc ((m:Int),es,v) q
 simp only [Int.toNat_natCast] at h2
 have a1:inB 0 (((cfG ((m:Int),es,v) q).length:Int)-1) (p:Int)=true:=inB_iff.2 (by omega)
 have a2:inB 0 ((m:Int)-1) (x:Int)=true:=inB_iff.2 (by omega)
 rw [ballsL_len] at h3
 unfold G_l4Best
 simp only [h4,ballsL_len,h2,h3,a1,a2,Bool.and_self,if_true]
 rw [best_congr (ballA_L es hx)]
theorem conf_own {m q:Nat} {es:List E} {v:Unit} (hq:q<=3) {p:Nat} (hp:p<(cfG ((m:Int),es,v) q).length):(at_ K_Si (cfG ((m:Int),es,v) q) p).length<=3/\(cfG ((m:Int),es,v) q).getD p []∈cfG ((m:Int),es,v) q/\at_ K_Si (cfG ((m:Int),es,v) q) p=(cfG ((m:Int),es,v) q).getD p []:=by
 have hm:at_ K_Si (cfG ((m:Int),es,v) q) p∈cfG ((m:Int),es,v) q:=by
  have e:at_ K_Si (cfG ((m:Int),es,v) q) p=(cfG ((m:Int),es,v) q)[p]:=at_get (e:=K_Si) hp
  rw [e]
  exact List.getElem_mem hp
 refine ⟨by rw [confL_len hm];exact hq,?_,at_getDS hp⟩
 rw [<- at_getDS hp]
 exact hm
theorem specCR {n:Int} {es:List E} {v:Unit} (ho:okL es=true) {c:List Int} (hc:okL c=true) (x:Int) (u:Unit):F_q56q 0 ((n,es,v),c,x,u)=some (replyB (n,es,v) c x):=by
 unfold F_q56q replyB
 simp only [specMeet ho hc,Option.bind_some]
 cases h:meetB (n,es,v) c&&inB 0 (n-1) x && !hasL c x with
 | false=>simp only [Bool.not_false,if_true,Bool.false_and,Bool.false_eq_true,if_false]
 | true=>
  simp only [Bool.and_eq_true] at h
  obtain ⟨hg,m,rfl,m1,m8,c1,c3,hcb,hcm⟩:=meet_parts h.1.1
  obtain ⟨x,rfl,hx⟩:=nodeX h.1.2
  obtain ⟨h1,h2,h3,_⟩:=game_spec (v:=v) hg ho c3 () ()
  obtain ⟨p,p1,p2,p3⟩:=place_at hcm
  simp only [Bool.not_true,Bool.false_eq_true,if_false,h1,h2,Option.bind_some,place_spec m8 c3,p2,best_spec_some hg ho m8 c3 p1 hx,Int.toNat_natCast,Bool.true_and]
  by_cases hb:0<=bestG (cfG ((m:Int),es,v) c.length) (mvG ((m:Int),es,v) c.length) (ballF m es) (tmG ((m:Int),es,v) c.length) (p:Int) (x:Int)
  ·obtain ⟨b,eb,hbl⟩:=best_rng h3 p1 hb
   obtain ⟨o1,o2,o3⟩:=conf_own c3 hbl
   have hown:=own_some _ (show (at_ K_Si (cfG ((m:Int),es,v) c.length) b).length<=1000 by omega)
   rw [o3] at hown
   have hn:decide (((b:Nat):Int)<0)=false:=decide_eq_false (by omega)
   have hn2:decide (0<=((b:Nat):Int))=true:=decide_eq_true (by omega)
   simp only [eb,hn,hn2,Bool.false_eq_true,if_false,idxIn_nat hbl,if_true,Int.toNat_natCast,o3,hown,Option.bind_some]
  ·have hn:decide (bestG (cfG ((m:Int),es,v) c.length) (mvG ((m:Int),es,v) c.length) (ballF m es) (tmG ((m:Int),es,v) c.length) (p:Int) (x:Int)<0)=true:=decide_eq_true (by omega)
   have hn2:decide (0<=bestG (cfG ((m:Int),es,v) c.length) (mvG ((m:Int),es,v) c.length) (ballF m es) (tmG ((m:Int),es,v) c.length) (p:Int) (x:Int))=false:=decide_eq_false hb
   simp only [hn,hn2,if_true,Bool.false_eq_true,if_false]
theorem board_fits {m q:Nat} {es:List E} {v:Unit} (hm:m<=8) (hq:q<=3):gmB m (cfG ((m:Int),es,v) q) (mvG ((m:Int),es,v) q)=true:=by
 unfold mvG cfG
 simp only [Int.toNat_natCast]
 exact board_ok hm hq (fun x _=>by have:=ballF_len m es (x:Int);omega) (fun x _=>ballF_in es (x:Int))
theorem reply_impl {m q:Nat} {es:List E} {v:Unit} (hg:graphB ((m:Int),es,v)=true) (ho:okL es=true) (h1:1<=m) (hm:m<=8) (hq:q<=3) {c:List Int} (hc:c∈cfG ((m:Int),es,v) q) {x:Nat} (hx:x<m) (hb:0<=bestG (cfG ((m:Int),es,v) q) (mvG ((m:Int),es,v) q) (ballF m es) (tmG ((m:Int),es,v) q) (placeL (cfG ((m:Int),es,v) q) c) (x:Int)) (u:Unit) :
  G_reply (((toI (netN m es),()),cfG ((m:Int),es,v) q,mvG ((m:Int),es,v) q,tmG ((m:Int),es,v) q,()),c,(x:Int),u)=some ((cfG ((m:Int),es,v) q).getD (bestG (cfG ((m:Int),es,v) q) (mvG ((m:Int),es,v) q) (ballF m es) (tmG ((m:Int),es,v) q) (placeL (cfG ((m:Int),es,v) q) c) (x:Int)).toNat [],()):=by
 obtain ⟨_,hcg⟩:=game_impl (v:=v) hg ho h1 hq ()
 obtain ⟨g1,_⟩:=graphB_edges hg
 obtain ⟨n1,n2⟩:=netB_net hm g1
 have a1:riseB (cfG ((m:Int),es,v) q)=true:=riseB_iff.2 (confL_rise _ _)
 have a2:memB (cfG ((m:Int),es,v) q) c=true:=memB_iff.2 hc
 have a3:inB 0 ((m:Int)-1) (x:Int)=true:=inB_iff.2 (by omega)
 unfold G_reply
 simp only [hcg,a1,a2,n2,a3,best_congr (ball_same hm g1 hx),hb,decide_true,Bool.and_self,if_true]
theorem implCR {n:Int} {es:List E} {v:Unit} (ho:okL es=true) {c:List Int} (hc:okL c=true) (x:Int) (u:Unit):F_q51q 0 ((n,es,v),c,x,u)=some (replyB (n,es,v) c x):=by
 unfold F_q51q replyB
 simp only [implAre ho hc,Option.bind_some,has_nodes n es v () [x] ho (okL_of (by simp))]
 cases hme:meetB (n,es,v) c with
 | false=>simp only [Bool.not_false,if_true,Bool.false_and,Bool.false_eq_true,if_false]
 | true=>
  obtain ⟨hg,m,rfl,m1,m8,c1,c3,hcb,hcm⟩:=meet_parts hme
  simp only [Bool.not_true,Bool.false_eq_true,if_false,hg,List.all_cons,List.all_nil,Bool.and_true,Bool.true_and]
  cases hxb:inB 0 ((m:Int)-1) x with
  | false=>simp only [Bool.not_false,if_true,Bool.false_and,Bool.false_eq_true,if_false]
  | true=>
   obtain ⟨x,rfl,hx⟩:=nodeX hxb
   obtain ⟨h1,_⟩:=game_impl (v:=v) hg ho m1 c3 ()
   obtain ⟨p,p1,p2,p3⟩:=place_at hcm
   have hrc:=tm_rc ((m:Int),es,v) c.length
   simp only [Int.toNat_natCast] at hrc
   obtain ⟨t1,t2⟩:=rcB_parts hrc
   have hlt:p<(tmG ((m:Int),es,v) c.length).length:=by omega
   have i1:idxIn (p:Int) (tmG ((m:Int),es,v) c.length).length=true:=idxIn_nat hlt
   have i2:idxIn (x:Int) (at_ K_Si (tmG ((m:Int),es,v) c.length) p).length=true:=idxIn_nat (by rw [t2 p p1];exact hx)
   have hfit:=board_fits (v:=v) (es:=es) m8 c3
   have hbf:∀x:Nat,x<m -> ∀z∈ballF m es (x:Int),∃y:Nat,y<m/\z=(y:Int):=fun x hx=>ballF_ok m es x hx
   have etm:tmG ((m:Int),es,v) c.length=timesG (cfG ((m:Int),es,v) c.length) (mvG ((m:Int),es,v) c.length) (ballF m es) m:=by
    unfold tmG
    simp only [Int.toNat_natCast]
   simp only [Bool.not_true,Bool.false_eq_true,if_false,net_some hg ho,Option.bind_some,h1,place_impl m8 c3 hcm,p2,i1,i2,if_true,Int.toNat_natCast,tab2_rc hrc p1 hx]
   cases hh:hasL c (x:Int) with
   | true=>
    have h0:=times_caught m8 hfit hbf p1 hx (by rw [p3];exact hh)
    rw [<- etm] at h0
    have:decide (tab2 (tmG ((m:Int),es,v) c.length) (p:Int) (x:Int)<1)=true:=decide_eq_true (by omega)
    simp only [this,if_true,Bool.not_true,Bool.and_false,Bool.false_and,Bool.false_eq_true,if_false]
   | false=>
    obtain ⟨k1,k2⟩:=best_iff m8 hfit hbf p1 hx (by rw [p3];exact hh)
    rw [<- etm] at k1 k2
    simp only [Bool.not_false,Bool.true_and]
    by_cases hb:0<=bestG (cfG ((m:Int),es,v) c.length) (mvG ((m:Int),es,v) c.length) (ballF m es) (tmG ((m:Int),es,v) c.length) (p:Int) (x:Int)
    ·have hge:=k2.1 (k1.1 hb)
     have hd:decide (tab2 (tmG ((m:Int),es,v) c.length) (p:Int) (x:Int)<1)=false:=decide_eq_false (by omega)
     obtain ⟨b,eb,hbl⟩:=best_rng hfit p1 hb
     obtain ⟨o1,o2,o3⟩:=conf_own c3 hbl
     have hre:=reply_impl (v:=v) hg ho m1 m8 c3 hcm hx (by rw [p2];exact hb) ()
     rw [p2] at hre
     have hok:okL ((cfG ((m:Int),es,v) c.length).getD b [])=true:=by
      rw [<- o3]
      exact okL_of (by omega)
     rw [eb] at hre
     have hb2:(0:Int)<=(b:Int):=by omega
     simp only [hd,hb,hb2,decide_true,if_true,Bool.false_eq_true,if_false,hre,Option.bind_some,eb,Int.toNat_natCast,G_toIntS,hok]
    ·have hlt:¬0<=tab2 (tmG ((m:Int),es,v) c.length) (p:Int) (x:Int):=fun h=>hb (k1.2 h)
     have hd:decide (tab2 (tmG ((m:Int),es,v) c.length) (p:Int) (x:Int)<1)=true:=decide_eq_true (by omega)
     simp only [hd,hb,decide_false,if_true,Bool.false_eq_true,if_false]
theorem reply_small {g:Gr} {c:List Int} {x:Int}:(replyB g c x).1.length<=3:=by
 unfold replyB
 split
 ·rename_i hb
  simp only [Bool.and_eq_true] at hb
  obtain ⟨n,es,v⟩:=g
  obtain ⟨hg,m,rfl,m1,m8,c1,c3,hcb,hcm⟩:=meet_parts hb.1.1.1
  simp only
  rw [List.getD_eq_getElem?_getD]
  cases hi:(cfG ((m:Int),es,v) c.length)[(bestG (cfG ((m:Int),es,v) c.length) (mvG ((m:Int),es,v) c.length) (ballF (m:Int).toNat es) (tmG ((m:Int),es,v) c.length) (placeL (cfG ((m:Int),es,v) c.length) c) x).toNat]? with
  | none=>simp
  | some r=>
   have:=confL_len (List.mem_of_getElem? hi)
   simp only [Option.getD_some]
   omega
 ·simp
end Go.V.W
namespace Go.V.W
open Go.Proofs
theorem robL_mem (row:Int->Int):∀(l:List Int) (b:Int),robL row l b=b\/robL row l b∈l:=by
 intro l
 induction l with
 | nil=>intro b;exact .inl rfl
 | cons x l ih=>
  intro b
  unfold robL
  split
  ·rcases ih x with h | h
   ·exact .inr (by rw [h];simp)
   ·exact .inr (by simp [h])
  ·rcases ih b with h | h
   ·exact .inl h
   ·exact .inr (by simp [h])
theorem flee_node {m:Nat} (es:List E) (T:Tab) (c:Int) {x:Nat} (hx:x<m):∃y:Nat,fleeG (ballF m es) T c (x:Int)=(y:Int)/\y<m:=by
 have hne:0<(ballF m es (x:Int)).length:=List.length_pos_of_mem (ball_self es hx)
 have key:fleeG (ballF m es) T c (x:Int)∈ballF m es (x:Int):=by
  unfold fleeG
  cases hb:ballF m es (x:Int) with
  | nil=>rw [hb] at hne;simp at hne
  | cons a l=>
   simp only [List.tail_cons,List.headD_cons]
   rcases robL_mem (tab2 T c) l a with h | h
   ·rw [h];simp
   ·simp [h]
 obtain ⟨y,hy,e⟩:=ballF_ok m es x hx _ key
 exact ⟨y,e,hy⟩
structure PlayI (m q:Nat) (es:List E) (v:Unit):Prop where
 hg:graphB ((m:Int),es,v)=true
 ho:okL es=true
 m1:1<=m
 m8:m<=8
 q3:q<=3
theorem next_rng {m q:Nat} {es:List E} {v:Unit} (hP:PlayI m q es v) {p:Nat} (hp:p<(cfG ((m:Int),es,v) q).length) (x:Int):∃b:Nat,nextC (bestG (cfG ((m:Int),es,v) q) (mvG ((m:Int),es,v) q) (ballF m es) (tmG ((m:Int),es,v) q)) (p:Int) x=(b:Int)/\b<(cfG ((m:Int),es,v) q).length:=by
 unfold nextC
 split
 ·rename_i h
  exact best_rng (board_fits hP.m8 hP.q3) hp h
 ·exact ⟨p,rfl,hp⟩
theorem ps_step (N:Nat) {m q:Nat} {es:List E} {v:Unit} (hP:PlayI m q es v) (r:Int) (lists:List (List Int)) (nodes:List Int) (hl1:lists.length<=1000) (hl2:nodes.length<=1000) {p:Nat} (hp:p<(cfG ((m:Int),es,v) q).length) {x:Nat} (hx:x<m) (i:Nat) (hi:i<=1000) (hir:(i:Int)<r)
  {b:Nat} (hb:nextC (bestG (cfG ((m:Int),es,v) q) (mvG ((m:Int),es,v) q) (ballF m es) (tmG ((m:Int),es,v) q)) (p:Int) (x:Int)=(b:Int)) (hbl:b<(cfG ((m:Int),es,v) q).length) (f:Nat) :
  q62q_l0 N (f+1) ((x:Int),r,lists,nodes,(cfG ((m:Int),es,v) q,mvG ((m:Int),es,v) q,ballsL m es,()),tmG ((m:Int),es,v) q,(p:Int),(i:Int),()) =
   if hasL ((cfG ((m:Int),es,v) q).getD b []) (x:Int)=true then some (.inl (lists++[(cfG ((m:Int),es,v) q).getD b []],nodes,true,()))
   else if hasL ((cfG ((m:Int),es,v) q).getD b []) (fleeG (ballF m es) (tmG ((m:Int),es,v) q) (b:Int) (x:Int))=true then some (.inl (lists++[(cfG ((m:Int),es,v) q).getD b []],nodes++[fleeG (ballF m es) (tmG ((m:Int),es,v) q) (b:Int) (x:Int)],true,()))
   else q62q_l0 N f (fleeG (ballF m es) (tmG ((m:Int),es,v) q) (b:Int) (x:Int),r,lists++[(cfG ((m:Int),es,v) q).getD b []],nodes++[fleeG (ballF m es) (tmG ((m:Int),es,v) q) (b:Int) (x:Int)],(cfG ((m:Int),es,v) q,mvG ((m:Int),es,v) q,ballsL m es,()),tmG ((m:Int),es,v) q,(b:Int),((i+1:Nat):Int),()):=by
 obtain ⟨o1,o2,o3⟩:=conf_own hP.q3 hbl
 have hown:=own_some _ (show (at_ K_Si (cfG ((m:Int),es,v) q) b).length<=1000 by omega)
 have hok:okL (at_ K_Si (cfG ((m:Int),es,v) q) b)=true:=okL_of (by omega)
 rw [o3] at hown hok
 have c1:∀l:List Int,decide (lists.length+List.length [l]<=lim)=true:=fun l=>by unfold lim;simp;omega
 have c2:∀y:Int,decide (nodes.length+List.length [y]<=lim)=true:=fun y=>by unfold lim;simp;omega
 have hr:decide ((i:Int)<r)=true:=decide_eq_true hir
 show q62q_l0_r _ _ _=_
 unfold q62q_l0_r
 simp only [hr,if_true,best_spec_some hP.hg hP.ho hP.m8 hP.q3 hp hx,Option.bind_some]
 unfold nextC at hb
 by_cases h:0<=bestG (cfG ((m:Int),es,v) q) (mvG ((m:Int),es,v) q) (ballF m es) (tmG ((m:Int),es,v) q) (p:Int) (x:Int)
 ·rw [if_pos h] at hb
  rw [hb] at h
  have h':decide (((b:Nat):Int)>=0)=true:=decide_eq_true h
  simp only [hb,h',if_true,idxIn_nat hbl,Int.toNat_natCast,o3,hown,Option.bind_some,c1,has1 hok,flee_spec hP.m8 hbl hx,c2,small_wrap (show i<=100000 by omega)]
 ·rw [if_neg h] at hb
  have e:b=p:=by omega
  subst e
  have h':decide (bestG (cfG ((m:Int),es,v) q) (mvG ((m:Int),es,v) q) (ballF m es) (tmG ((m:Int),es,v) q) (b:Int) (x:Int)>=0)=false:=decide_eq_false h
  simp only [h',Bool.false_eq_true,if_false,if_true,idxIn_nat hbl,Int.toNat_natCast,o3,hown,Option.bind_some,c1,has1 hok,flee_spec hP.m8 hbl hx,c2,small_wrap (show i<=100000 by omega)]
theorem ps_l0 (N:Nat) {m q:Nat} {es:List E} {v:Unit} (hP:PlayI m q es v) (r:Nat) (hr:r<=60):∀(k i f:Nat) (lists:List (List Int)) (nodes:List Int) (p x:Nat),i+k=r->k<f->lists.length+k<=1000->nodes.length+k<=1000->p<(cfG ((m:Int),es,v) q).length->x<m ->
  q62q_l0 N f ((x:Int),(r:Int),lists,nodes,(cfG ((m:Int),es,v) q,mvG ((m:Int),es,v) q,ballsL m es,()),tmG ((m:Int),es,v) q,(p:Int),(i:Int),())=some (.inl (lists++(playL (bestG (cfG ((m:Int),es,v) q) (mvG ((m:Int),es,v) q) (ballF m es) (tmG ((m:Int),es,v) q)) (fleeG (ballF m es) (tmG ((m:Int),es,v) q)) (cfG ((m:Int),es,v) q) k (p:Int) (x:Int)).1,nodes++(playL (bestG (cfG ((m:Int),es,v) q) (mvG ((m:Int),es,v) q) (ballF m es) (tmG ((m:Int),es,v) q)) (fleeG (ballF m es) (tmG ((m:Int),es,v) q)) (cfG ((m:Int),es,v) q) k (p:Int) (x:Int)).2,true,())) \/
  q62q_l0 N f ((x:Int),(r:Int),lists,nodes,(cfG ((m:Int),es,v) q,mvG ((m:Int),es,v) q,ballsL m es,()),tmG ((m:Int),es,v) q,(p:Int),(i:Int),())=some (.inr (.inl (lists++(playL (bestG (cfG ((m:Int),es,v) q) (mvG ((m:Int),es,v) q) (ballF m es) (tmG ((m:Int),es,v) q)) (fleeG (ballF m es) (tmG ((m:Int),es,v) q)) (cfG ((m:Int),es,v) q) k (p:Int) (x:Int)).1,nodes++(playL (bestG (cfG ((m:Int),es,v) q) (mvG ((m:Int),es,v) q) (ballF m es) (tmG ((m:Int),es,v) q)) (fleeG (ballF m es) (tmG ((m:Int),es,v) q)) (cfG ((m:Int),es,v) q) k (p:Int) (x:Int)).2,()))):=by
 intro k
 induction k with
 | zero=>
  intro i f lists nodes p x h1 h2 h3 h4 hp hx
  obtain ⟨f,rfl⟩:∃m,f=m+1:=⟨f-1,by omega⟩
  have e:i=r:=by omega
  subst e
  right
  show q62q_l0_r _ _ _=_
  unfold q62q_l0_r
  simp only [lt_not,Bool.false_eq_true,if_false,playL,List.append_nil]
 | succ k ih=>
  intro i f lists nodes p x h1 h2 h3 h4 hp hx
  obtain ⟨f,rfl⟩:∃m,f=m+1:=⟨f-1,by omega⟩
  obtain ⟨b,eb,hbl⟩:=next_rng hP hp (x:Int)
  obtain ⟨y,ey,hy⟩:=flee_node es (tmG ((m:Int),es,v) q) (b:Int) hx
  rw [ps_step N hP (r:Int) lists nodes (by omega) (by omega) hp hx i (by omega) (by omega) eb hbl f]
  simp only [playL,eb,Int.toNat_natCast,ey]
  by_cases hh:hasL ((cfG ((m:Int),es,v) q).getD b []) (x:Int)=true
  ·left
   simp only [hh,if_true,List.append_nil]
  ·by_cases hh2:hasL ((cfG ((m:Int),es,v) q).getD b []) (y:Int)=true
   ·left
    simp only [hh,hh2,Bool.false_eq_true,if_true,if_false]
   ·simp only [hh,hh2,Bool.false_eq_true,if_false]
    have:=ih (i+1) f (lists++[(cfG ((m:Int),es,v) q).getD b []]) (nodes++[(y:Int)]) b y (by omega) (by omega) (by simp;omega) (by simp;omega) hbl hy
    simp only [List.append_assoc,List.singleton_append] at this
    exact this
theorem specPC_lim (d) (r) (h:G_play d=some r):∃N,F_q62q N d=some r:=by
 obtain ⟨⟨n,es,v⟩,c,x,r0,_⟩:=d
 unfold G_play at h
 split at h
 ·rename_i hc
  rw [Bool.and_eq_true] at hc
  have ho:okL es=true:=hc.1
  have hc:okL c=true:=hc.2
  have h:=Option.some.inj h
  subst h
  refine ⟨100,?_⟩
  unfold F_q62q playB
  simp only [specMeet ho hc,Option.bind_some,l1In_eq]
  cases h:meetB (n,es,v) c&&inB 0 (n-1) x && !hasL c x with
  | false=>simp only [Bool.not_false,if_true,Bool.false_and,Bool.false_eq_true,if_false]
  | true=>
   cases hr:inB 0 60 r0 with
   | false=>simp only [Bool.not_true,Bool.not_false,if_true,Bool.and_false,Bool.false_eq_true,if_false]
   | true=>
    simp only [Bool.and_eq_true] at h
    obtain ⟨hg,m,rfl,m1,m8,c1,c3,hcb,hcm⟩:=meet_parts h.1.1
    obtain ⟨x,rfl,hx⟩:=nodeX h.1.2
    have hr2:=inB_iff.1 hr
    obtain ⟨r,rfl⟩:=nat_of hr2.1
    obtain ⟨h1,h2,_⟩:=game_spec (v:=v) hg ho c3 () ()
    obtain ⟨p,p1,p2,p3⟩:=place_at hcm
    have hl:=ps_l0 100 (v:=v) ⟨hg,ho,m1,m8,c3⟩ r (by omega) r 0 100 [] [] p x (by omega) (by omega) (by simp;omega) (by simp;omega) p1 hx
    simp only [Int.natCast_zero,List.nil_append] at hl
    simp only [Bool.not_true,Bool.false_eq_true,if_false,h1,h2,Option.bind_some,place_spec m8 c3,p2,Bool.and_self,if_true,Int.toNat_natCast]
    rcases hl with h | h
    ·simp only [h,Option.bind_some]
    ·simp only [h,Option.bind_some]
 ·cases h
theorem ip_step (N:Nat) {m q:Nat} {es:List E} {v:Unit} (hP:PlayI m q es v) {cops:List Int} (hc:cops∈cfG ((m:Int),es,v) q) {p:Nat} (hp:p<(cfG ((m:Int),es,v) q).length) (hpl:placeL (cfG ((m:Int),es,v) q) cops=(p:Int)) (hpc:(cfG ((m:Int),es,v) q).getD p []=cops) {x:Nat} (hx:x<m) (hh:hasL cops (x:Int)=false) (k:Nat) (hk:k<=60) (lists:List (List Int)) (nodes:List Int) (hl1:lists.length<=1000) (hl2:nodes.length<=1000)
  {b:Nat} (hb:nextC (bestG (cfG ((m:Int),es,v) q) (mvG ((m:Int),es,v) q) (ballF m es) (tmG ((m:Int),es,v) q)) (p:Int) (x:Int)=(b:Int)) (hbl:b<(cfG ((m:Int),es,v) q).length) (f:Nat) :
  q52q_l0 N (f+1) (cops,(x:Int),((k+1:Nat):Int),lists,nodes,((toI (netN m es),()),cfG ((m:Int),es,v) q,mvG ((m:Int),es,v) q,tmG ((m:Int),es,v) q,()),()) =
   if hasL ((cfG ((m:Int),es,v) q).getD b []) (x:Int)=true then some (.inl (lists++[(cfG ((m:Int),es,v) q).getD b []],nodes,()))
   else q52q_l0 N f ((cfG ((m:Int),es,v) q).getD b [],fleeG (ballF m es) (tmG ((m:Int),es,v) q) (b:Int) (x:Int),(k:Int),lists++[(cfG ((m:Int),es,v) q).getD b []],nodes++[fleeG (ballF m es) (tmG ((m:Int),es,v) q) (b:Int) (x:Int)],((toI (netN m es),()),cfG ((m:Int),es,v) q,mvG ((m:Int),es,v) q,tmG ((m:Int),es,v) q,()),()):=by
 obtain ⟨o1,o2,o3⟩:=conf_own hP.q3 hbl
 have hok:okL (at_ K_Si (cfG ((m:Int),es,v) q) b)=true:=okL_of (by omega)
 rw [o3] at hok
 have hokc:okL cops=true:=by
  have:=confL_len hc
  have:=hP.q3
  exact okL_of (by omega)
 have c1:∀l:List Int,decide (lists.length+List.length [l]<=lim)=true:=fun l=>by unfold lim;simp;omega
 have c2:∀y:Int,decide (nodes.length+List.length [y]<=lim)=true:=fun y=>by unfold lim;simp;omega
 have hr:decide (((k+1:Nat):Int)>0)=true:=decide_eq_true (by omega)
 have hw:IntKind.wrap .i64 (((k+1:Nat):Int)-1)=(k:Int):=by
  rw [wrap_in _ (by omega) (by omega)]
  omega
 have hrc:=tm_rc ((m:Int),es,v) q
 simp only [Int.toNat_natCast] at hrc
 obtain ⟨t1,t2⟩:=rcB_parts hrc
 have hlt:p<(tmG ((m:Int),es,v) q).length:=by omega
 have i1:idxIn (p:Int) (tmG ((m:Int),es,v) q).length=true:=idxIn_nat hlt
 have i2:idxIn (x:Int) (at_ K_Si (tmG ((m:Int),es,v) q) p).length=true:=idxIn_nat (by rw [t2 p hp];exact hx)
 have i3:idxIn (b:Int) (tmG ((m:Int),es,v) q).length=true:=idxIn_nat (by omega)
 have hfit:=board_fits (v:=v) (es:=es) hP.m8 hP.q3
 have hbf:∀x:Nat,x<m -> ∀z∈ballF m es (x:Int),∃y:Nat,y<m/\z=(y:Int):=fun x hx=>ballF_ok m es x hx
 have etm:tmG ((m:Int),es,v) q=timesG (cfG ((m:Int),es,v) q) (mvG ((m:Int),es,v) q) (ballF m es) m:=by
  unfold tmG
  simp only [Int.toNat_natCast]
 obtain ⟨k1,k2⟩:=best_iff hP.m8 hfit hbf hp hx (by rw [hpc];exact hh)
 rw [<- etm] at k1 k2
 have hplb:placeL (cfG ((m:Int),es,v) q) ((cfG ((m:Int),es,v) q).getD b [])=(b:Int):=by
  obtain ⟨j,j1,j2,j3⟩:=place_at o2
  have hrise:=List.pairwise_iff_getElem.1 (confL_rise m q)
  have ecf:cfG ((m:Int),es,v) q=confL m q:=by
   unfold cfG
   rw [Int.toNat_natCast]
  rw [j2]
  have e1:(cfG ((m:Int),es,v) q)[j]=(cfG ((m:Int),es,v) q)[b]:=by
   have a1:(cfG ((m:Int),es,v) q).getD j []=(cfG ((m:Int),es,v) q)[j]:=by
    rw [List.getD_eq_getElem?_getD,List.getElem?_eq_getElem j1]
    rfl
   have a2:(cfG ((m:Int),es,v) q).getD b []=(cfG ((m:Int),es,v) q)[b]:=by
    rw [List.getD_eq_getElem?_getD,List.getElem?_eq_getElem hbl]
    rfl
   rw [<- a1,<- a2,j3]
  have hR:=List.pairwise_iff_getElem.1 (show (cfG ((m:Int),es,v) q).Pairwise ltL from confL_rise _ _)
  rcases Nat.lt_trichotomy j b with h | h | h
  ·have:=hR j b j1 hbl h
   rw [e1] at this
   exact absurd this (ltL_irr _)
  ·rw [h]
  ·have:=hR b j hbl j1 h
   rw [e1] at this
   exact absurd this (ltL_irr _)
 show q52q_l0_r _ _ _=_
 unfold q52q_l0_r
 simp only [hr,if_true,has2 hokc,hh,Bool.not_false,Option.bind_some,place_impl hP.m8 hP.q3 hc,hpl,i1,i2,Int.toNat_natCast,tab2_rc hrc hp hx,hw]
 unfold nextC at hb
 by_cases h:0<=bestG (cfG ((m:Int),es,v) q) (mvG ((m:Int),es,v) q) (ballF m es) (tmG ((m:Int),es,v) q) (p:Int) (x:Int)
 ·rw [if_pos h] at hb
  have hre:=reply_impl (v:=v) hP.hg hP.ho hP.m1 hP.m8 hP.q3 hc hx (by rw [hpl];exact h) ()
  rw [hpl,hb,Int.toNat_natCast] at hre
  have h':decide (tab2 (tmG ((m:Int),es,v) q) (p:Int) (x:Int)>=0)=true:=decide_eq_true (k1.1 h)
  simp only [h',if_true,hre,Option.bind_some,G_toIntS,hok,c1,has2 hok,place_impl hP.m8 hP.q3 o2,hplb,i3,Int.toNat_natCast,flee_impl hP.hg hbl hx,c2]
 ·rw [if_neg h] at hb
  have e:b=p:=by omega
  subst e
  have h':decide (tab2 (tmG ((m:Int),es,v) q) (b:Int) (x:Int)>=0)=false:=decide_eq_false fun h0=>h (k1.2 h0)
  simp only [h',Bool.false_eq_true,if_false,if_true,Option.bind_some,G_toIntS,hokc,c1,has2 hokc,place_impl hP.m8 hP.q3 hc,hpl,i1,Int.toNat_natCast,flee_impl hP.hg hbl hx,c2,hpc,hh]
theorem ip_end (N f:Nat) {m q:Nat} {es:List E} {v:Unit} (cops:List Int) (hok:okL cops=true) (x:Int) (k:Int) (h:¬k>0\/hasL cops x=true) (lists:List (List Int)) (nodes:List Int) (y:Cg):q52q_l0 N (f+1) (cops,x,k,lists,nodes,y,())=some (.inl (lists,nodes,())):=by
 show q52q_l0_r _ _ _=_
 unfold q52q_l0_r
 by_cases hk:k>0
 ·have hh:hasL cops x=true:=h.resolve_left fun hn=>hn hk
  simp only [hk,decide_true,if_true,has2 hok,Option.bind_some,hh,Bool.not_true,Bool.false_eq_true,if_false]
 ·simp only [hk,decide_false,Bool.false_eq_true,if_false]
theorem ip_l0 (N:Nat) {m q:Nat} {es:List E} {v:Unit} (hP:PlayI m q es v):∀(k f:Nat) (lists:List (List Int)) (nodes:List Int) (cops:List Int) (p x:Nat),k<=60->k<f->lists.length+k<=1000->nodes.length+k<=1000->cops∈cfG ((m:Int),es,v) q->p<(cfG ((m:Int),es,v) q).length->placeL (cfG ((m:Int),es,v) q) cops=(p:Int)->(cfG ((m:Int),es,v) q).getD p []=cops->x<m->hasL cops (x:Int)=false ->
  q52q_l0 N f (cops,(x:Int),(k:Int),lists,nodes,((toI (netN m es),()),cfG ((m:Int),es,v) q,mvG ((m:Int),es,v) q,tmG ((m:Int),es,v) q,()),())=some (.inl (lists++(playL (bestG (cfG ((m:Int),es,v) q) (mvG ((m:Int),es,v) q) (ballF m es) (tmG ((m:Int),es,v) q)) (fleeG (ballF m es) (tmG ((m:Int),es,v) q)) (cfG ((m:Int),es,v) q) k (p:Int) (x:Int)).1,nodes++(playL (bestG (cfG ((m:Int),es,v) q) (mvG ((m:Int),es,v) q) (ballF m es) (tmG ((m:Int),es,v) q)) (fleeG (ballF m es) (tmG ((m:Int),es,v) q)) (cfG ((m:Int),es,v) q) k (p:Int) (x:Int)).2,())):=by
 intro k
 induction k with
 | zero=>
  intro f lists nodes cops p x _ h2 h3 h4 hc hp hpl hpc hx hh
  obtain ⟨f,rfl⟩:∃m,f=m+1:=⟨f-1,by omega⟩
  have hokc:okL cops=true:=by
   have:=confL_len hc
   have:=hP.q3
   exact okL_of (by omega)
  rw [ip_end N f (m:=m) (q:=q) (es:=es) (v:=v) cops hokc (x:Int) ((0:Nat):Int) (.inl (by omega))]
  simp only [playL,List.append_nil]
 | succ k ih=>
  intro f lists nodes cops p x h60 h2 h3 h4 hc hp hpl hpc hx hh
  obtain ⟨f,rfl⟩:∃m,f=m+1:=⟨f-1,by omega⟩
  obtain ⟨b,eb,hbl⟩:=next_rng hP hp (x:Int)
  obtain ⟨y,ey,hy⟩:=flee_node es (tmG ((m:Int),es,v) q) (b:Int) hx
  obtain ⟨o1,o2,o3⟩:=conf_own hP.q3 hbl
  rw [ip_step N hP hc hp hpl hpc hx hh k (by omega) lists nodes (by omega) (by omega) eb hbl f]
  simp only [playL,eb,Int.toNat_natCast,ey]
  by_cases hx1:hasL ((cfG ((m:Int),es,v) q).getD b []) (x:Int)=true
  ·simp only [hx1,if_true,List.append_nil]
  ·by_cases hx2:hasL ((cfG ((m:Int),es,v) q).getD b []) (y:Int)=true
   ·obtain ⟨f,rfl⟩:∃m,f=m+1:=⟨f-1,by omega⟩
    have hok:okL ((cfG ((m:Int),es,v) q).getD b [])=true:=by
     rw [<- o3]
     exact okL_of (by omega)
    simp only [hx1,hx2,Bool.false_eq_true,if_true,if_false]
    exact ip_end N f (m:=m) (q:=q) (es:=es) (v:=v) _ hok (y:Int) (k:Int) (.inr hx2) _ _ _
   ·have hplb:∃j:Nat,j<(cfG ((m:Int),es,v) q).length/\placeL (cfG ((m:Int),es,v) q) ((cfG ((m:Int),es,v) q).getD b [])=(j:Int)/\(cfG ((m:Int),es,v) q).getD j []=(cfG ((m:Int),es,v) q).getD b []:=by
     obtain ⟨j,j1,j2,j3⟩:=place_at o2
     exact ⟨j,j1,j2,j3⟩
    obtain ⟨j,j1,j2,j3⟩:=hplb
    have ejb:j=b:=by
     have e1:(cfG ((m:Int),es,v) q)[j]=(cfG ((m:Int),es,v) q)[b]:=by
      have a1:(cfG ((m:Int),es,v) q).getD j []=(cfG ((m:Int),es,v) q)[j]:=by
       rw [List.getD_eq_getElem?_getD,List.getElem?_eq_getElem j1]
       rfl
      have a2:(cfG ((m:Int),es,v) q).getD b []=(cfG ((m:Int),es,v) q)[b]:=by
       rw [List.getD_eq_getElem?_getD,List.getElem?_eq_getElem hbl]
       rfl
      rw [<- a1,<- a2,j3]
     have hR:=List.pairwise_iff_getElem.1 (show (cfG ((m:Int),es,v) q).Pairwise ltL from confL_rise _ _)
     rcases Nat.lt_trichotomy j b with h | h | h
     ·have:=hR j b j1 hbl h
      rw [e1] at this
      exact absurd this (ltL_irr _)
     ·exact h
     ·have:=hR b j hbl j1 h
      rw [e1] at this
      exact absurd this (ltL_irr _)
    subst ejb
    simp only [hx1,hx2,Bool.false_eq_true,if_false]
    have:=ih f (lists++[(cfG ((m:Int),es,v) q).getD j []]) (nodes++[(y:Int)]) ((cfG ((m:Int),es,v) q).getD j []) j y (by omega) (by omega) (by simp;omega) (by simp;omega) o2 hbl j2 rfl hy ((Bool.not_eq_true _).mp hx2)
    simp only [List.append_assoc,List.singleton_append] at this
    exact this
theorem implPC_lim (d) (r) (h:G_play d=some r):∃N,F_q52q N d=some r:=by
 obtain ⟨⟨n,es,v⟩,c,x,r0,_⟩:=d
 unfold G_play at h
 split at h
 ·rename_i hc
  rw [Bool.and_eq_true] at hc
  have ho:okL es=true:=hc.1
  have hc:okL c=true:=hc.2
  have h:=Option.some.inj h
  subst h
  refine ⟨100,?_⟩
  unfold F_q52q playB
  simp only [implAre ho hc,Option.bind_some,has_nodes n es v () [x] ho (okL_of (by simp)),has2 hc,within_eq]
  cases hme:meetB (n,es,v) c with
  | false=>simp only [Bool.not_false,if_true,Bool.false_and,Bool.false_eq_true,if_false]
  | true=>
   obtain ⟨hg,m,rfl,m1,m8,c1,c3,hcb,hcm⟩:=meet_parts hme
   simp only [Bool.not_true,Bool.false_eq_true,if_false,hg,List.all_cons,List.all_nil,Bool.and_true,Bool.true_and]
   cases hxb:inB 0 ((m:Int)-1) x with
   | false=>simp only [Bool.not_false,if_true,Bool.false_and,Bool.false_eq_true,if_false]
   | true=>
    cases hh:hasL c x with
    | true=>simp only [Bool.not_true,Bool.false_eq_true,if_false,if_true,Bool.and_false,Bool.false_and]
    | false=>
     cases hr:inB 0 60 r0 with
     | false=>simp only [Bool.not_true,Bool.not_false,Bool.false_eq_true,if_false,if_true,Bool.and_false]
     | true=>
      obtain ⟨x,rfl,hx⟩:=nodeX hxb
      have hr2:=inB_iff.1 hr
      obtain ⟨r,rfl⟩:=nat_of hr2.1
      obtain ⟨h1,_⟩:=game_impl (v:=v) hg ho m1 c3 ()
      obtain ⟨p,p1,p2,p3⟩:=place_at hcm
      have hl:=ip_l0 100 (v:=v) ⟨hg,ho,m1,m8,c3⟩ r 100 [] [] c p x (by omega) (by omega) (by simp;omega) (by simp;omega) hcm p1 p2 p3 hx hh
      simp only [List.nil_append] at hl
      simp only [Bool.not_true,Bool.not_false,Bool.false_eq_true,if_false,if_true,Bool.and_self,net_some hg ho,Option.bind_some,h1,hl,p2,Int.toNat_natCast]
 ·cases h
theorem play_len {best flee:Int->Int->Int} {cf:List (List Int)} (h3:∀i:Nat,(cf.getD i []).length<=3):∀(k:Nat) (c x:Int),(playL best flee cf k c x).1.length<=k/\(playL best flee cf k c x).2.length<=k /\ ∀l∈(playL best flee cf k c x).1,l.length<=3:=by
 intro k
 induction k with
 | zero=>intro c x;simp [playL]
 | succ k ih=>
  intro c x
  obtain ⟨i1,i2,i3⟩:=ih (nextC best c x) (flee (nextC best c x) x)
  unfold playL
  split
  ·exact ⟨by simp,by simp,fun l hl=>by
    have e:l=cf.getD (nextC best c x).toNat []:=by simpa using hl
    rw [e]
    exact h3 _⟩
  ·split
   ·exact ⟨by simp,by simp,fun l hl=>by
     have e:l=cf.getD (nextC best c x).toNat []:=by simpa using hl
     rw [e]
     exact h3 _⟩
   ·refine ⟨by simp only [List.length_cons];omega,by simp only [List.length_cons];omega,fun l hl => ?_⟩
    rcases List.mem_cons.1 hl with e | hl
    ·rw [e]
     exact h3 _
    ·exact i3 l hl
theorem play_small {g:Gr} {c:List Int} {x r:Int}:(playB g c x r).1.length<=60/\(∀l∈(playB g c x r).1,l.length<=8)/\(playB g c x r).2.1.length<=60:=by
 unfold playB
 split
 ·rename_i hb
  simp only [Bool.and_eq_true] at hb
  obtain ⟨n,es,v⟩:=g
  obtain ⟨hg,m,rfl,m1,m8,c1,c3,hcb,hcm⟩:=meet_parts hb.1.1.1
  have hr:=inB_iff.1 hb.2
  have h3:∀i:Nat,((cfG ((m:Int),es,v) c.length).getD i []).length<=3:=fun i=>by
   rw [List.getD_eq_getElem?_getD]
   cases hi:(cfG ((m:Int),es,v) c.length)[i]? with
   | none=>simp
   | some l=>
    have:=confL_len (List.mem_of_getElem? hi)
    simp only [Option.getD_some]
    omega
  obtain ⟨a1,a2,a3⟩:=play_len (best:=bestG (cfG ((m:Int),es,v) c.length) (mvG ((m:Int),es,v) c.length) (ballF (m:Int).toNat es) (tmG ((m:Int),es,v) c.length)) (flee:=fleeG (ballF (m:Int).toNat es) (tmG ((m:Int),es,v) c.length)) h3 r.toNat (placeL (cfG ((m:Int),es,v) c.length) c) x
  exact ⟨Nat.le_trans a1 (by omega),fun l hl=>by have:=a3 l hl;omega,Nat.le_trans a2 (by omega)⟩
 ·exact ⟨by simp,fun l hl=>by simp at hl,by simp⟩
end Go.V.W
namespace Go.V.W
open Go.Proofs
structure RoundI (cf mv:List (List Int)) (ball:Int->List Int) (n:Nat) (t:Int) (T:Tab):Prop where
 pos:1<=t
 low:∀c x:Nat,c<cf.length->x<n -> -1<=tab2 T (c:Int) (x:Int)
 high:∀c x:Nat,c<cf.length->x<n->tab2 T (c:Int) (x:Int)<t
 none:∀c x:Nat,c<cf.length->x<n->tab2 T (c:Int) (x:Int)<0 -> ∀d∈mv.getD c [],0<=afterG cf ball T d (x:Int)->t-1<=afterG cf ball T d (x:Int)
 ex:∀c x:Nat,c<cf.length->x<n->1<=tab2 T (c:Int) (x:Int) -> ∃d∈mv.getD c [],0<=afterG cf ball T d (x:Int)/\afterG cf ball T d (x:Int)+1<=tab2 T (c:Int) (x:Int)
 least:∀c x:Nat,c<cf.length->x<n->1<=tab2 T (c:Int) (x:Int) -> ∀d∈mv.getD c [],0<=afterG cf ball T d (x:Int)->tab2 T (c:Int) (x:Int)<=afterG cf ball T d (x:Int)+1
 zero:∀c x:Nat,c<cf.length->x<n->(tab2 T (c:Int) (x:Int)=0↔hasL (cf.getD c []) (x:Int)=true)
theorem canG_neg {cf mv:List (List Int)} {ball:Int->List Int} {T:Tab} {c x:Nat} (h:canG cf mv ball T c x=true):tab2 T (c:Int) (x:Int)<0 /\ ∃d∈mv.getD c [],0<=afterG cf ball T d (x:Int):=by
 unfold canG at h
 rw [Bool.and_eq_true] at h
 obtain ⟨d,hd,h2⟩:=List.any_eq_true.1 h.2
 exact ⟨of_decide_eq_true h.1,d,hd,of_decide_eq_true h2⟩
theorem after_le {cf:List (List Int)} {ball:Int->List Int} {n:Nat} (hb:okBall n ball) {T:Tab} {t:Int} (ht:1<=t) (hh:∀c x:Nat,c<cf.length->x<n->tab2 T (c:Int) (x:Int)<t) {d x:Nat} (hd:d<cf.length) (hx:x<n):afterG cf ball T (d:Int) (x:Int)<=t-1:=by
 unfold afterG
 split
 ·omega
 ·rcases worst_spec (tab2 T (d:Int)) (ball (x:Int)) 0 with ⟨_,h⟩ | ⟨_,_,h | ⟨z,hz,h⟩⟩
  ·omega
  ·omega
  ·obtain ⟨y,hy,rfl⟩:=hb x hx z hz
   have:=hh d y hd hy
   omega
theorem after_round {cf mv:List (List Int)} {ball:Int->List Int} {n:Nat} (hb:okBall n ball) {T:Tab} {t:Int} (ht:1<=t) (hh:∀c x:Nat,c<cf.length->x<n->tab2 T (c:Int) (x:Int)<t) {d x:Nat} (hd:d<cf.length) (hx:x<n) :
  (0<=afterG cf ball T (d:Int) (x:Int)->afterG cf ball (stepG cf mv ball n t T) (d:Int) (x:Int)=afterG cf ball T (d:Int) (x:Int))/\(afterG cf ball T (d:Int) (x:Int)<0->0<=afterG cf ball (stepG cf mv ball n t T) (d:Int) (x:Int)->afterG cf ball (stepG cf mv ball n t T) (d:Int) (x:Int)=t):=by
 unfold afterG
 by_cases hc:hasL (cf.getD (d:Int).toNat []) (x:Int)=true
 ·rw [if_pos hc,if_pos hc]
  exact ⟨fun _=>rfl,fun h=>by omega⟩
 ·rw [if_neg hc,if_neg hc]
  constructor
  ·intro h
   rcases worst_spec (tab2 T (d:Int)) (ball (x:Int)) 0 with ⟨_,h2⟩ | ⟨hall,_,_⟩
   ·omega
   ·refine worst_congr fun z hz => ?_
    obtain ⟨y,hy,rfl⟩:=hb x hx z hz
    have:=hall (y:Int) hz
    rw [stepG_at hd hy,if_neg fun hcan => ?_]
    have:=(canG_neg hcan).1
    omega
  ·intro h h0
   rcases worst_spec (tab2 T (d:Int)) (ball (x:Int)) 0 with ⟨⟨z,hz,h2⟩,_⟩ | ⟨_,h2,_⟩
   ·obtain ⟨y,hy,rfl⟩:=hb x hx z hz
    rcases worst_spec (tab2 (stepG cf mv ball n t T) (d:Int)) (ball (x:Int)) 0 with ⟨_,h3⟩ | ⟨hall,h3,h4⟩
    ·omega
    ·have h5:=hall (y:Int) hz
     rw [stepG_at hd hy] at h5
     have hcan:canG cf mv ball T d y=true:=by
      by_cases hcan:canG cf mv ball T d y=true
      ·exact hcan
      ·rw [if_neg hcan] at h5;omega
     rw [if_pos hcan] at h5
     rcases h4 with h4 | ⟨w,hw,h4⟩
     ·omega
     ·obtain ⟨v,hv,rfl⟩:=hb x hx w hw
      rw [stepG_at hd hv] at h4
      split at h4
      ·omega
      ·have:=hh d v hd hv
       omega
   ·omega
theorem round_next {cf mv:List (List Int)} {ball:Int->List Int} {n:Nat} (hg:gmB n cf mv=true) (hb:okBall n ball) {t:Int} {T:Tab} (hI:RoundI cf mv ball n t T):RoundI cf mv ball n (t+1) (stepG cf mv ball n t T):=by
 obtain ⟨g1,g2,g3,g4⟩:=gmB_parts hg
 have ht:=hI.pos
 have hmv:∀c,c<cf.length -> ∀d∈mv.getD c [],∃e:Nat,d=(e:Int)/\e<cf.length:=fun c hc d hd=>by
  obtain ⟨m1,m2,m3⟩:=g4 c hc
  rw [m2] at hd
  exact nodeX (m3 d hd)
 refine ⟨by omega,fun c x hc hx => ?_,fun c x hc hx => ?_,fun c x hc hx h0 d hd h1 => ?_,fun c x hc hx h0 => ?_,fun c x hc hx h0 d hd h1 => ?_,fun c x hc hx => ?_⟩
 ·rw [stepG_at hc hx]
  split
  ·omega
  ·exact hI.low c x hc hx
 ·rw [stepG_at hc hx]
  split
  ·omega
  ·have:=hI.high c x hc hx;omega
 ·rw [stepG_at hc hx] at h0
  split at h0
  ·omega
  ·rename_i hcan
   obtain ⟨e,rfl,he⟩:=hmv c hc d hd
   obtain ⟨r1,r2⟩:=after_round (mv:=mv) hb ht hI.high he hx
   by_cases h2:0<=afterG cf ball T (e:Int) (x:Int)
   ·exfalso
    apply hcan
    unfold canG
    rw [Bool.and_eq_true]
    exact ⟨decide_eq_true h0,List.any_eq_true.2 ⟨(e:Int),hd,decide_eq_true h2⟩⟩
   ·rw [r2 (by omega) h1]
    omega
 ·rw [stepG_at hc hx] at h0 |-
  split at h0
  ·rename_i hcan
   rw [if_pos hcan]
   obtain ⟨h2,d,hd,h3⟩:=canG_neg hcan
   obtain ⟨e,rfl,he⟩:=hmv c hc d hd
   obtain ⟨r1,r2⟩:=after_round (mv:=mv) hb ht hI.high he hx
   have hle:=after_le hb ht hI.high he hx
   exact ⟨(e:Int),hd,by rw [r1 h3];exact h3,by rw [r1 h3];omega⟩
  ·rename_i hcan
   rw [if_neg hcan]
   obtain ⟨d,hd,h3,h4⟩:=hI.ex c x hc hx h0
   obtain ⟨e,rfl,he⟩:=hmv c hc d hd
   obtain ⟨r1,r2⟩:=after_round (mv:=mv) hb ht hI.high he hx
   exact ⟨(e:Int),hd,by rw [r1 h3];exact h3,by rw [r1 h3];exact h4⟩
 ·rw [stepG_at hc hx] at h0 |-
  obtain ⟨e,rfl,he⟩:=hmv c hc d hd
  obtain ⟨r1,r2⟩:=after_round (mv:=mv) hb ht hI.high he hx
  split at h0
  ·rename_i hcan
   rw [if_pos hcan]
   obtain ⟨h2,_⟩:=canG_neg hcan
   by_cases h3:0<=afterG cf ball T (e:Int) (x:Int)
   ·rw [r1 h3]
    have:=hI.none c x hc hx h2 (e:Int) hd h3
    omega
   ·rw [r2 (by omega) h1]
    omega
  ·rename_i hcan
   rw [if_neg hcan]
   by_cases h3:0<=afterG cf ball T (e:Int) (x:Int)
   ·rw [r1 h3]
    exact hI.least c x hc hx h0 (e:Int) hd h3
   ·rw [r2 (by omega) h1]
    have:=hI.high c x hc hx
    omega
 ·have hz:=hI.zero c x hc hx
  rw [stepG_at hc hx]
  by_cases hcan:canG cf mv ball T c x=true
  ·rw [if_pos hcan]
   obtain ⟨h2,_⟩:=canG_neg hcan
   constructor
   ·intro h;omega
   ·intro h
    have:=hz.2 h
    omega
  ·rw [if_neg hcan]
   exact hz
theorem round_start {cf mv:List (List Int)} {ball:Int->List Int} {n:Nat} (hg:gmB n cf mv=true) (hb:okBall n ball):RoundI cf mv ball n 1 (startG cf n):=by
 have e:∀c x:Nat,c<cf.length->x<n->tab2 (startG cf n) (c:Int) (x:Int)=if hasL (cf.getD c []) (x:Int)=true then 0 else -1:=fun c x hc hx=>tab2_tabM _ hc hx
 refine ⟨by omega,fun c x hc hx => ?_,fun c x hc hx => ?_,fun c x hc hx h0 d hd h1=>by omega,fun c x hc hx h0 => ?_,fun c x hc hx h0 d hd h1 => ?_,fun c x hc hx => ?_⟩
 ·rw [e c x hc hx];split<;>omega
 ·rw [e c x hc hx];split<;>omega
 ·rw [e c x hc hx] at h0;split at h0<;>omega
 ·rw [e c x hc hx] at h0;split at h0<;>omega
 ·rw [e c x hc hx]
  by_cases h:hasL (cf.getD c []) (x:Int)=true
  ·simp [h]
  ·simp [h]
structure TimesI (cf mv:List (List Int)) (ball:Int->List Int) (n:Nat) (T:Tab):Prop where
 low:∀c x:Nat,c<cf.length->x<n -> -1<=tab2 T (c:Int) (x:Int)
 none:∀c x:Nat,c<cf.length->x<n->tab2 T (c:Int) (x:Int)<0 -> ∀d∈mv.getD c [],afterG cf ball T d (x:Int)<0
 ex:∀c x:Nat,c<cf.length->x<n->1<=tab2 T (c:Int) (x:Int) -> ∃d∈mv.getD c [],0<=afterG cf ball T d (x:Int)/\afterG cf ball T d (x:Int)+1<=tab2 T (c:Int) (x:Int)
 least:∀c x:Nat,c<cf.length->x<n->1<=tab2 T (c:Int) (x:Int) -> ∀d∈mv.getD c [],0<=afterG cf ball T d (x:Int)->tab2 T (c:Int) (x:Int)<=afterG cf ball T d (x:Int)+1
 zero:∀c x:Nat,c<cf.length->x<n->(tab2 T (c:Int) (x:Int)=0↔hasL (cf.getD c []) (x:Int)=true)
theorem gameT_times {cf mv:List (List Int)} {ball:Int->List Int} {n:Nat} (hg:gmB n cf mv=true) (hb:okBall n ball):∀(k:Nat) (t:Int) (T:Tab),negsM cf.length n T<k->RoundI cf mv ball n t T->TimesI cf mv ball n (gameT cf mv ball n k t T):=by
 intro k
 induction k with
 | zero=>intro t T h;omega
 | succ k ih=>
  intro t T hn hI
  unfold gameT
  by_cases ha:anyG cf mv ball n T=true
  ·rw [if_pos ha]
   have hp:=hI.pos
   have:=negsM_step (t:=t) (by omega) ha
   exact ih (t+1) _ (by omega) (round_next hg hb hI)
  ·rw [if_neg ha]
   refine ⟨hI.low,fun c x hc hx h0 d hd=>Int.not_le.1 fun h1=>ha ?_,hI.ex,hI.least,hI.zero⟩
   refine anyG_spec.2 ⟨c,x,hc,hx,?_⟩
   unfold canG
   rw [Bool.and_eq_true]
   exact ⟨decide_eq_true h0,List.any_eq_true.2 ⟨d,hd,decide_eq_true h1⟩⟩
theorem gtimes_facts {cf mv:List (List Int)} {ball:Int->List Int} {n:Nat} (hn:n<=8) (hg:gmB n cf mv=true) (hb:okBall n ball):TimesI cf mv ball n (timesG cf mv ball n):=by
 obtain ⟨g1,_⟩:=gmB_parts hg
 have hneg:=negsM_le cf.length n (startG cf n)
 have hmul:cf.length*n<=120*8:=Nat.mul_le_mul g1 hn
 exact gameT_times hg hb 1000 1 _ (by omega) (round_start hg hb)
end Go.V.W
namespace Go.V.W
open Go.Proofs
theorem has_mem {l:List Int} {x:Int}:hasL l x=true↔x∈l:=by
 unfold hasL
 rw [List.any_eq_true]
 constructor
 ·rintro ⟨z,hz,h⟩
  have:z=x:=by simpa using h
  rw [<- this]
  exact hz
 ·intro h
  exact ⟨x,h,by simp⟩
theorem bestP_min (after:Int->Int):∀(l:List Int) (b p:Int),(0<=b->0<=after b/\p=after b)->(∀d∈l,0<=d)->0<=bestP after l b p ->
  0<=after (bestP after l b p)/\(∀d∈l,0<=after d->after (bestP after l b p)<=after d)/\(0<=b->after (bestP after l b p)<=after b):=by
 intro l
 induction l with
 | nil=>
  intro b p hb _ h
  exact ⟨(hb h).1,fun d hd=>by simp at hd,fun _=>Int.le_refl _⟩
 | cons d l ih=>
  intro b p hb hl h
  have hd:=hl d (by simp)
  have hl':∀x∈l,0<=x:=fun x hx=>hl x (by simp [hx])
  unfold bestP at h |-
  by_cases h1:0<=after d/\(b<0\/after d<p)
  ·rw [if_pos h1] at h |-
   obtain ⟨i1,i2,i3⟩:=ih d (after d) (fun _=>⟨h1.1,rfl⟩) hl' h
   have i3:=i3 hd
   refine ⟨i1,fun x hx hax => ?_,fun hb0 => ?_⟩
   ·rcases List.mem_cons.1 hx with rfl | hx
    ·exact i3
    ·exact i2 x hx hax
   ·rcases h1.2 with h2 | h2
    ·omega
    ·have:=(hb hb0).2
     omega
  ·rw [if_neg h1] at h |-
   obtain ⟨i1,i2,i3⟩:=ih b p hb hl' h
   refine ⟨i1,fun x hx hax => ?_,i3⟩
   rcases List.mem_cons.1 hx with rfl | hx
   ·have hb0:0<=b:=Int.not_lt.1 fun hn=>h1 ⟨hax,.inl hn⟩
    have h2:¬after x<p:=fun hn=>h1 ⟨hax,.inr hn⟩
    have:=(hb hb0).2
    have:=i3 hb0
    omega
   ·exact i2 x hx hax
theorem best_time {n:Nat} (hn:n<=8) {cf mv:List (List Int)} {ball:Int->List Int} (hg:gmB n cf mv=true) (hb:okBall n ball) {c x:Nat} (hc:c<cf.length) (hx:x<n) (hh:hasL (cf.getD c []) (x:Int)=false) (h:0<=bestG cf mv ball (timesG cf mv ball n) (c:Int) (x:Int)) :
  0<=afterG cf ball (timesG cf mv ball n) (bestG cf mv ball (timesG cf mv ball n) (c:Int) (x:Int)) (x:Int)/\tab2 (timesG cf mv ball n) (c:Int) (x:Int)=afterG cf ball (timesG cf mv ball n) (bestG cf mv ball (timesG cf mv ball n) (c:Int) (x:Int)) (x:Int)+1:=by
 have hI:=gtimes_facts hn hg hb
 obtain ⟨g1,g2,g3,g4⟩:=gmB_parts hg
 obtain ⟨m1,m2,m3⟩:=g4 c hc
 obtain ⟨k1,k2⟩:=best_iff hn hg hb hc hx hh
 have h1:=k2.1 (k1.1 h)
 have hall:∀d∈mv.getD c [],0<=d:=fun d hd=>by
  rw [m2] at hd
  exact (inB_iff.1 (m3 d hd)).1
 unfold bestG at h |-
 rw [Int.toNat_natCast] at h |-
 obtain ⟨b1,b2,_⟩:=bestP_min (fun d=>afterG cf ball (timesG cf mv ball n) d (x:Int)) (mv.getD c []) (-1) 0 (fun hneg=>by omega) hall h
 have hmem:bestP (fun d=>afterG cf ball (timesG cf mv ball n) d (x:Int)) (mv.getD c []) (-1) 0∈mv.getD c []:=by
  rcases bestP_mem (fun d=>afterG cf ball (timesG cf mv ball n) d (x:Int)) (mv.getD c []) (-1) 0 with h2 | h2
  ·rw [h2] at h;omega
  ·exact h2
 refine ⟨b1,?_⟩
 obtain ⟨d,hd,h3,h4⟩:=hI.ex c x hc hx h1
 have h5:=b2 d hd h3
 have h6:=hI.least c x hc hx h1 _ hmem b1
 omega
end Go.V.W
namespace Go.V.W
open Go.Proofs
theorem chL_keep {ball:Int->List Int} {x:Int}:∀{cs:List Int} {now:List (List Int)},(∀c∈cs,ball c≠[])->(∃l∈now,x∈l) -> ∃l∈chL ball cs now,x∈l:=by
 intro cs
 induction cs with
 | nil=>intro now _ h;exact h
 | cons c cs ih=>
  rintro now hb ⟨l,hl,hx⟩
  refine ih (fun c hc=>hb c (by simp [hc])) ?_
  cases hbc:ball c with
  | nil=>exact absurd hbc (hb c (by simp))
  | cons y ys=>
   refine ⟨l++[y],List.mem_flatMap.2 ⟨l,hl,List.mem_map.2 ⟨y,by simp,rfl⟩⟩,by simp [hx]⟩
theorem chL_has {ball:Int->List Int} {x k:Int}:∀{cs:List Int} {now:List (List Int)},(∀c∈cs,ball c≠[])->now≠[]->k∈cs->x∈ball k -> ∃l∈chL ball cs now,x∈l:=by
 intro cs
 induction cs with
 | nil=>intro now _ _ h;simp at h
 | cons c cs ih=>
  intro now hb hn hk hx
  have hb':∀c∈cs,ball c≠[]:=fun c hc=>hb c (by simp [hc])
  rcases List.mem_cons.1 hk with rfl | hk
  ·refine chL_keep (cs:=cs) hb' ?_
   cases hnw:now with
   | nil=>exact absurd hnw hn
   | cons l now=>exact ⟨l++[x],List.mem_flatMap.2 ⟨l,by simp,List.mem_map.2 ⟨x,hx,rfl⟩⟩,by simp⟩
  ·refine ih hb' ?_ hk hx
   cases hnw:now with
   | nil=>exact absurd hnw hn
   | cons l now=>
    cases hbc:ball c with
    | nil=>exact absurd hbc (hb c (by simp))
    | cons y ys=>simp
theorem moves_has {ball:Int->List Int} {c:List Int} (hb:∀k∈c,ball k≠[]) {k x:Int} (hk:k∈c) (hx:x∈ball k):∃m∈movesL ball c,x∈m:=by
 obtain ⟨l,hl,hxl⟩:=chL_has (now:=[[]]) hb (by simp) hk hx
 exact ⟨sortI l,(comp_mem _).2 ((sortS_perm _).mem_iff.2 (List.mem_map.2 ⟨l,hl,rfl⟩)),(sortI_perm l).mem_iff.2 hxl⟩
theorem guard_time {n:Nat} (hn:n<=8) {k:Nat} (hk:k<=3) (es:List E) {c:Nat} (hc:c<(confL n k).length) {x:Nat} (hx:x<n) {a:Int} (ha:a∈(confL n k).getD c []) (hxa:(x:Int)∈ballF n es a) :
  0<=tab2 (timesG (confL n k) (movesI (ballF n es) (confL n k)) (ballF n es) n) (c:Int) (x:Int)/\tab2 (timesG (confL n k) (movesI (ballF n es) (confL n k)) (ballF n es) n) (c:Int) (x:Int)<=1:=by
 have hg:=board_ok (n:=n) hn hk (ball:=ballF n es) (fun x _=>by have:=ballF_len n es (x:Int);omega) (fun x _=>ballF_in es (x:Int))
 have hI:=gtimes_facts hn hg (ballF_ok n es)
 have hlt:c<(confL n k).length:=hc
 have hcm:(confL n k).getD c []∈confL n k:=by
  rw [List.getD_eq_getElem?_getD,List.getElem?_eq_getElem hlt]
  exact List.getElem_mem hlt
 obtain ⟨l1,l2⟩:=confL_mem.1 hcm
 have hin:=copsB_in l2
 have hne:∀b∈(confL n k).getD c [],ballF n es b≠[]:=fun b hb=>by
  obtain ⟨y,rfl,hy⟩:=nodeX (hin b hb)
  have:=ball_self es hy
  intro h
  rw [h] at this
  simp at this
 obtain ⟨m,hm,hxm⟩:=moves_has hne ha hxa
 have hmc:m∈confL n k:=by
  have:=moves_mem (n:=n) (ball:=ballF n es) (c:=(confL n k).getD c []) (fun b hb=>by have:=ballF_len n es b;omega) (fun b hb=>ballF_in es b) hm
  rw [l1] at this
  exact this
 obtain ⟨p,p1,p2,p3⟩:=place_at hmc
 have hd:(p:Int)∈(movesI (ballF n es) (confL n k)).getD c []:=by
  unfold movesI
  rw [List.getD_eq_getElem?_getD,List.getElem?_map,List.getElem?_eq_getElem hlt]
  have e:(confL n k).getD c []=(confL n k)[c]:=by
   rw [List.getD_eq_getElem?_getD,List.getElem?_eq_getElem hlt]
   rfl
  rw [e] at hm
  exact List.mem_map.2 ⟨m,hm,p2⟩
 have haf:afterG (confL n k) (ballF n es) (timesG (confL n k) (movesI (ballF n es) (confL n k)) (ballF n es) n) (p:Int) (x:Int)=0:=by
  unfold afterG
  rw [Int.toNat_natCast,p3,if_pos (has_mem.2 hxm)]
 rcases Int.lt_or_le (tab2 (timesG (confL n k) (movesI (ballF n es) (confL n k)) (ballF n es) n) (c:Int) (x:Int)) 0 with h | h
 ·have:=hI.none c x hlt hx h (p:Int) hd
  omega
 ·refine ⟨h,?_⟩
  rcases Int.lt_or_le (tab2 (timesG (confL n k) (movesI (ballF n es) (confL n k)) (ballF n es) n) (c:Int) (x:Int)) 1 with h1 | h1
  ·omega
  ·have:=hI.least c x hlt hx h1 (p:Int) hd (by omega)
   omega
theorem most_around {n:Nat} {es:List E} {T:Int->Int} {x:Nat} (hx:x<n) (h:0<=worstL T (ballF n es (x:Int)) 0):∀near:List Int,(∀z,z∈near↔z∈ballF n es (x:Int)/\z≠(x:Int)) ->
  (∀z∈near,0<=T z)/\0<=T (x:Int)/\near.foldl (fun a z=>if T z>a then T z else a) (T (x:Int))=worstL T (ballF n es (x:Int)) 0:=by
 intro near hnear
 rcases worst_spec T (ballF n es (x:Int)) 0 with ⟨_,h2⟩ | ⟨hall,h2,h3⟩
 ·omega
 ·have hself:=ball_self es hx
  have hx0:=hall _ hself
  have hz0:∀z∈near,0<=T z/\T z<=worstL T (ballF n es (x:Int)) 0:=fun z hz=>hall z ((hnear z).1 hz).1
  refine ⟨fun z hz=>(hz0 z hz).1,hx0.1,?_⟩
  have key:∀(l:List Int) (a:Int),(∀z∈l,T z<=worstL T (ballF n es (x:Int)) 0)->a<=worstL T (ballF n es (x:Int)) 0 ->
    a<=l.foldl (fun a z=>if T z>a then T z else a) a/\l.foldl (fun a z=>if T z>a then T z else a) a<=worstL T (ballF n es (x:Int)) 0 /\ ∀z∈l,T z<=l.foldl (fun a z=>if T z>a then T z else a) a:=by
   intro l
   induction l with
   | nil=>intro a _ ha;exact ⟨Int.le_refl _,ha,fun z hz=>by simp at hz⟩
   | cons b l ih=>
    intro a hl ha
    rw [List.foldl_cons]
    have hb:=hl b (by simp)
    obtain ⟨i1,i2,i3⟩:=ih (if T b>a then T b else a) (fun z hz=>hl z (by simp [hz])) (by split<;>omega)
    have hge:a<=(if T b>a then T b else a)/\T b<=(if T b>a then T b else a):=by split<;>omega
    refine ⟨by omega,i2,fun z hz => ?_⟩
    rcases List.mem_cons.1 hz with rfl | hz
    ·omega
    ·exact i3 z hz
  obtain ⟨k1,k2,k3⟩:=key near (T (x:Int)) (fun z hz=>(hz0 z hz).2) hx0.2
  rcases h3 with h3 | ⟨z,hz,h3⟩
  ·omega
  ·by_cases e:z=(x:Int)
   ·subst e
    omega
   ·have:=k3 z ((hnear z).2 ⟨hz,e⟩)
    omega
end Go.V.W
namespace Go.V.W
open Go.Proofs
theorem okL_mx {α:Type} {l:List α} (h:okL l=true):l.length<=maxLen:=lim_max (of_decide_eq_true h)
theorem rHas_lim (d) (r) (h:G_rHas d=some r):∃N,F_laws_rHas N d=some r:=by
 obtain ⟨l,x,_⟩:=d
 unfold G_rHas at h
 split at h
 ·rename_i hl
  have hl:okL l=true:=hl
  have hmx:=okL_mx hl
  have h:=Option.some.inj h
  subst h
  refine ⟨l.length+1,?_⟩
  unfold F_laws_rHas
  have:=loop_idx (L:=laws_rHas_l0 (l.length+1)) (r:=laws_rHas_l0_r (l.length+1)) (fun _ _=>rfl) (e:=I) l (mk:=fun i=>(l,x,(i:Int),())) (q:=fun z=>z==x) (o:=fun _=>.inl (true,())) (f:=.inr (.inl ()))
   (by
    intro back i hi
    unfold laws_rHas_l0_r
    simp only [lt_dec hi,if_true,idxIn_nat hi,Int.toNat_natCast,wrap_up hi hmx])
   (by intro back;unfold laws_rHas_l0_r;simp only [lt_not,Bool.false_eq_true,if_false]) l.length 0 (by omega) (by omega)
  simp only [Int.natCast_zero,List.drop_zero] at this
  have hge:=idxI_ge (fun z=>z==x) l 0
  simp only [this,Option.bind_some]
  unfold hasL
  cases hi:idxN (fun z=>z==x) l 0 with
  | none=>
   rw [hi] at hge
   have:(l.any fun z=>z==x)=false:=by rw [<- hge];rfl
   simp only [this]
  | some j=>
   rw [hi] at hge
   have:(l.any fun z=>z==x)=true:=by
    rw [<- hge]
    simp [idxI]
   simp only [this]
 ·cases h
theorem ri_l0 (N:Nat) (a b:List Int) (hl:a.length=b.length) (hmx:a.length<=maxLen):∀k i f,i+k=a.length->k<f -> ∃o,laws_rInts_l0 N f (a,b,(i:Int),())=some o/\((o=.inl (false,()) /\ ¬a.drop i=b.drop i)\/(o=.inr (.inl ())/\a.drop i=b.drop i)):=by
 intro k
 induction k with
 | zero=>
  intro i f h1 h2
  obtain ⟨f,rfl⟩:∃m,f=m+1:=⟨f-1,by omega⟩
  have e:i=a.length:=by omega
  refine ⟨.inr (.inl ()),?_,.inr ⟨rfl,by rw [List.drop_of_length_le (by omega),List.drop_of_length_le (by omega)]⟩⟩
  subst e
  show laws_rInts_l0_r _ _ _=_
  unfold laws_rInts_l0_r
  simp only [lt_not,Bool.false_eq_true,if_false]
 | succ k ih=>
  intro i f h1 h2
  obtain ⟨f,rfl⟩:∃m,f=m+1:=⟨f-1,by omega⟩
  have hi:i<a.length:=by omega
  have hi2:i<b.length:=by omega
  have ea:at_ I a i=a[i]:=at_get (e:=I) hi
  have eb:at_ I b i=b[i]:=at_get (e:=I) hi2
  obtain ⟨o,o1,o2⟩:=ih (i+1) f (by omega) (by omega)
  rw [List.drop_eq_getElem_cons hi,List.drop_eq_getElem_cons hi2]
  have step:laws_rInts_l0 N (f+1) (a,b,(i:Int),())=if (a[i] != b[i])=true then some (.inl (false,())) else laws_rInts_l0 N f (a,b,((i+1:Nat):Int),()):=by
   show laws_rInts_l0_r _ _ _=_
   unfold laws_rInts_l0_r
   simp only [lt_dec hi,if_true,idxIn_nat hi,idxIn_nat hi2,Int.toNat_natCast,ea,eb,wrap_up hi hmx]
  rw [step]
  by_cases e:a[i]=b[i]
  ·have:(a[i] != b[i])=false:=by simp [e]
   rw [this]
   simp only [Bool.false_eq_true,if_false]
   refine ⟨o,o1,?_⟩
   rcases o2 with ⟨p1,p2⟩ | ⟨p1,p2⟩
   ·exact .inl ⟨p1,fun h=>p2 (List.cons.inj h).2⟩
   ·exact .inr ⟨p1,by rw [e,p2]⟩
  ·have:(a[i] != b[i])=true:=by simp [e]
   rw [this]
   simp only [if_true]
   exact ⟨_,rfl,.inl ⟨rfl,fun h=>e (List.cons.inj h).1⟩⟩
theorem rInts_lim (d) (r) (h:G_rInts d=some r):∃N,F_laws_rInts N d=some r:=by
 obtain ⟨a,b,_⟩:=d
 unfold G_rInts at h
 split at h
 ·rename_i hl
  have hl:okL a=true:=hl
  have hmx:=okL_mx hl
  have h:=Option.some.inj h
  subst h
  refine ⟨a.length+1,?_⟩
  unfold F_laws_rInts
  by_cases hne:a.length=b.length
  ·have e:((a.length:Int) != (b.length:Int))=false:=by simp;omega
   obtain ⟨o,o1,o2⟩:=ri_l0 (a.length+1) a b hne hmx a.length 0 (a.length+1) (by omega) (by omega)
   simp only [Int.natCast_zero,List.drop_zero] at o1 o2
   simp only [e,Bool.false_eq_true,if_false,o1,Option.bind_some]
   rcases o2 with ⟨rfl,h2⟩ | ⟨rfl,h2⟩
   ·simp only [h2,decide_false]
   ·simp only [h2,decide_true]
  ·have e:((a.length:Int) != (b.length:Int))=true:=by simp;omega
   have h2:¬a=b:=fun h=>hne (by rw [h])
   simp only [e,if_true,h2,decide_false]
 ·cases h
theorem rt_l0 (N:Nat) (a b:List (List Int)) (hl:a.length=b.length) (hok:a.all okL=true) (hmx:a.length<=maxLen):∀k i f,i+k=a.length->k<f -> ∃o,q81q_l0 N f (a,b,(i:Int),())=some o/\((o=.inl (false,()) /\ ¬a.drop i=b.drop i)\/(o=.inr (.inl ())/\a.drop i=b.drop i)):=by
 intro k
 induction k with
 | zero=>
  intro i f h1 h2
  obtain ⟨f,rfl⟩:∃m,f=m+1:=⟨f-1,by omega⟩
  have e:i=a.length:=by omega
  refine ⟨.inr (.inl ()),?_,.inr ⟨rfl,by rw [List.drop_of_length_le (by omega),List.drop_of_length_le (by omega)]⟩⟩
  subst e
  show q81q_l0_r _ _ _=_
  unfold q81q_l0_r
  simp only [lt_not,Bool.false_eq_true,if_false]
 | succ k ih=>
  intro i f h1 h2
  obtain ⟨f,rfl⟩:∃m,f=m+1:=⟨f-1,by omega⟩
  have hi:i<a.length:=by omega
  have hi2:i<b.length:=by omega
  have ea:at_ K_Si a i=a[i]:=at_get (e:=K_Si) hi
  have eb:at_ K_Si b i=b[i]:=at_get (e:=K_Si) hi2
  have hoi:okL a[i]=true:=List.all_eq_true.1 hok _ (List.getElem_mem hi)
  obtain ⟨o,o1,o2⟩:=ih (i+1) f (by omega) (by omega)
  rw [List.drop_eq_getElem_cons hi,List.drop_eq_getElem_cons hi2]
  have step:q81q_l0 N (f+1) (a,b,(i:Int),())=if (!decide (a[i]=b[i]))=true then some (.inl (false,())) else q81q_l0 N f (a,b,((i+1:Nat):Int),()):=by
   show q81q_l0_r _ _ _=_
   unfold q81q_l0_r
   simp only [lt_dec hi,if_true,idxIn_nat hi,idxIn_nat hi2,Int.toNat_natCast,ea,eb,G_rInts,hoi,Option.bind_some,wrap_up hi hmx]
  rw [step]
  by_cases e:a[i]=b[i]
  ·have:(!decide (a[i]=b[i]))=false:=by simp [e]
   rw [this]
   simp only [Bool.false_eq_true,if_false]
   refine ⟨o,o1,?_⟩
   rcases o2 with ⟨p1,p2⟩ | ⟨p1,p2⟩
   ·exact .inl ⟨p1,fun h=>p2 (List.cons.inj h).2⟩
   ·exact .inr ⟨p1,by rw [e,p2]⟩
  ·have:(!decide (a[i]=b[i]))=true:=by simp [e]
   rw [this]
   simp only [if_true]
   exact ⟨_,rfl,.inl ⟨rfl,fun h=>e (List.cons.inj h).1⟩⟩
theorem rTable_lim (d) (r) (h:G_rTable d=some r):∃N,F_q81q N d=some r:=by
 obtain ⟨a,b,_⟩:=d
 unfold G_rTable at h
 split at h
 ·rename_i hl
  have hl:okLL a=true:=hl
  obtain ⟨hl1,hl2⟩:=okLL_of hl
  have hmx:=okL_mx hl1
  have h:=Option.some.inj h
  subst h
  refine ⟨a.length+1,?_⟩
  unfold F_q81q
  by_cases hne:a.length=b.length
  ·have e:((a.length:Int) != (b.length:Int))=false:=by simp;omega
   obtain ⟨o,o1,o2⟩:=rt_l0 (a.length+1) a b hne hl2 hmx a.length 0 (a.length+1) (by omega) (by omega)
   simp only [Int.natCast_zero,List.drop_zero] at o1 o2
   simp only [e,Bool.false_eq_true,if_false,o1,Option.bind_some]
   rcases o2 with ⟨rfl,h2⟩ | ⟨rfl,h2⟩
   ·simp only [h2,decide_false]
   ·simp only [h2,decide_true]
  ·have e:((a.length:Int) != (b.length:Int))=true:=by simp;omega
   have h2:¬a=b:=fun h=>hne (by rw [h])
   simp only [e,if_true,h2,decide_false]
 ·cases h
end Go.V.W
namespace Go.V.W
open Go.Proofs
theorem nodes_mask {n:Nat} (hn:n<=8) {s:List Int} (hs:s.all (inB 0 ((n:Int)-1))=true) (ho:okL s=true) (u:Unit):G_maskOf (s,u)=some ((maskN s:Int),())/\maskN s<256 /\ ∀y,(maskN s).testBit y=(decide (y<n)&&hasL s (y:Int)):=by
 have h7:s.all (inB 0 7)=true:=List.all_eq_true.2 fun z hz=>by
  have:=inB_iff.1 (List.all_eq_true.1 hs z hz)
  exact inB_iff.2 (by omega)
 obtain ⟨m1,m2⟩:=maskN_isM hn (l:=s) fun y hy=>by
  have:=inB_iff.1 (List.all_eq_true.1 hs y hy)
  omega
 refine ⟨?_,m1,m2⟩
 unfold G_maskOf
 simp only [ho,h7,Bool.and_self,if_true]
end Go.V.W
namespace Go.V.W
open Go.Proofs
def highB (T:Tab):Bool:=T.all fun row=>row.all fun v=>decide (v<=5000)
theorem high_tabM {m n:Nat} {f:Nat->Nat->Int} (h:∀c x,c<m->x<n->f c x<=5000):highB (tabM m n f)=true:=by
 unfold highB tabM
 simp only [List.all_map,List.all_eq_true,Function.comp,List.mem_range,decide_eq_true_eq]
 intro c hc x hx
 exact h c x hc hx
theorem high_tab2 {m n:Nat} {T:Tab} (hT:rcB m n T=true) (h:highB T=true) {c x:Nat} (hc:c<m) (hx:x<n):tab2 T (c:Int) (x:Int)<=5000:=by
 obtain ⟨t1,t2⟩:=rcB_parts hT
 have hlt:c<T.length:=by omega
 have ec:at_ K_Si T c=T[c]:=at_get (e:=K_Si) hlt
 have hl:=t2 c hc
 rw [ec] at hl
 have ex:at_ I T[c] x=T[c][x]:=at_get (e:=I) (by omega)
 rw [<- tab2_rc hT hc hx,ec,ex]
 unfold highB at h
 exact of_decide_eq_true (List.all_eq_true.1 (List.all_eq_true.1 h _ (List.getElem_mem hlt)) _ (List.getElem_mem (by omega)))
theorem gameT_high {cf mv:List (List Int)} {ball:Int->List Int} {n:Nat}:∀(k:Nat) (t:Int) (T:Tab),t+(k:Int)<=5000->rcB cf.length n T=true->highB T=true->highB (gameT cf mv ball n k t T)=true:=by
 intro k
 induction k with
 | zero=>intro t T _ _ h;exact h
 | succ k ih=>
  intro t T ht h h2
  unfold gameT
  split
  ·refine ih _ _ (by omega) (rc_tabM _ _ _) (high_tabM fun c x hc hx => ?_)
   split
   ·omega
   ·exact high_tab2 h h2 hc hx
  ·exact h2
theorem tm_high (g:Gr) (k:Nat):highB (tmG g k)=true:=gameT_high _ _ _ (by omega) (rc_tabM _ _ _) (high_tabM fun c x _ _=>by split<;>omega)
end Go.V.W
namespace Go.V.W
open Go.Proofs
theorem rPart_lim (d) (r) (h:G_rPart d=some r):∃N,F_laws_rPart N d=some r:=by
 obtain ⟨a,b,_⟩:=d
 unfold G_rPart at h
 split at h
 ·rename_i hc
  rw [Bool.and_eq_true] at hc
  have ha:okL a=true:=hc.1
  have hb:okL b=true:=hc.2
  have hmx:=okL_mx ha
  cases Option.some.inj h
  refine ⟨a.length+1,?_⟩
  unfold F_laws_rPart
  have hl:=loop_every (L:=laws_rPart_l0 (a.length+1)) (r:=laws_rPart_l0_r (a.length+1)) (fun _ _=>rfl) a (mk:=fun i=>(a,b,(i:Int),())) (q:=hasL b) (o:=.inl (false,())) (f:=.inr (.inl ()))
   (by
    intro back i hi
    have e:at_ I a i=a[i]:=at_get (e:=I) hi
    have hg:G_rHas (b,a[i],())=some (hasL b a[i],()):=by unfold G_rHas;simp only [hb,if_true]
    unfold laws_rPart_l0_r
    simp only [lt_dec hi,if_true,idxIn_nat hi,Int.toNat_natCast,e,hg,Option.bind_some,wrap_up hi hmx]
    cases hasL b a[i]<;>simp)
   (by intro back;unfold laws_rPart_l0_r;simp only [lt_not,Bool.false_eq_true,if_false]) a.length 0 (by omega) (by omega)
  simp only [Int.natCast_zero,List.drop_zero] at hl
  simp only [hl,Option.bind_some]
  cases a.all (hasL b)<;>simp
 ·cases h
theorem putL_lenU (x:Int):∀l:List Int,(putL x l).length<=l.length+1:=by
 intro l
 induction l with
 | nil=>simp [putL]
 | cons a l ih=>unfold putL;split<;>(try split)<;>simp<;>omega
end Go.V.W
namespace Go.V.W
open Go.Proofs
theorem rIndex_lim (d) (r) (h:G_rIndex d=some r):∃N,F_q75q N d=some r:=by
 obtain ⟨a,x,_⟩:=d
 unfold G_rIndex at h
 split at h
 ·rename_i hc
  have hc:okLL a=true:=hc
  obtain ⟨h1,h2⟩:=okLL_of hc
  have hmx:=okL_mx h1
  cases Option.some.inj h
  refine ⟨a.length+1,?_⟩
  unfold F_q75q
  have hl:=loop_idx (L:=q75q_l0 (a.length+1)) (r:=q75q_l0_r (a.length+1)) (fun _ _=>rfl) (e:=K_Si) a (mk:=fun i=>(a,x,(i:Int),())) (q:=fun y=>decide (y=x)) (o:=fun j=>.inl ((j:Int),())) (f:=.inr (.inl ()))
   (by
    intro back i hi
    have ho:okL (at_ K_Si a i)=true:=by
     rw [at_get (e:=K_Si) hi]
     exact List.all_eq_true.1 h2 _ (List.getElem_mem hi)
    have hg:G_rInts (at_ K_Si a i,x,())=some (decide (at_ K_Si a i=x),()):=by unfold G_rInts;simp only [ho,if_true]
    unfold q75q_l0_r
    simp only [lt_dec hi,if_true,idxIn_nat hi,Int.toNat_natCast,hg,Option.bind_some,wrap_up hi hmx])
   (by intro back;unfold q75q_l0_r;simp only [lt_not,Bool.false_eq_true,if_false]) a.length 0 (by omega) (by omega)
  simp only [Int.natCast_zero,List.drop_zero] at hl
  simp only [hl,Option.bind_some]
  unfold placeL
  cases idxN (fun y=>decide (y=x)) a 0 with
  | none=>rfl
  | some j=>rfl
 ·cases h
theorem gn_l2 (N:Nat) (c:List Int) (g:Gr) (ball:List Int) (hb:ball.length<=8) (i:Int):∀k j f (o:List Int),j+k=ball.length->k<f->o.length+k<=900 ->
  q21q_l2 N f (c,g,o,i,ball,(j:Int),())=some (.inl (c,g,putAll o (ball.drop j),i,()))/\(putAll o (ball.drop j)).length<=o.length+k:=by
 intro k
 induction k with
 | zero=>
  intro j f o h1 h2 h3
  obtain ⟨f,rfl⟩:∃m,f=m+1:=⟨f-1,by omega⟩
  have hlt:decide ((j:Int)<(ball.length:Int))=false:=decide_eq_false (by omega)
  rw [List.drop_of_length_le (by omega)]
  refine ⟨?_,by simp [putAll]⟩
  show q21q_l2_r _ _ _=_
  unfold q21q_l2_r
  simp only [hlt,Bool.false_eq_true,if_false]
  rfl
 | succ k ih=>
  intro j f o h1 h2 h3
  obtain ⟨f,rfl⟩:∃m,f=m+1:=⟨f-1,by omega⟩
  have hj:j<ball.length:=by omega
  have ej:at_ I ball j=ball[j]:=at_get (e:=I) hj
  have hp:G_l1Put (o,ball[j],())=some (putL ball[j] o,()):=by
   unfold G_l1Put okS1
   rw [if_pos (decide_eq_true (by simp only;omega))]
  have hlen:=putL_lenU ball[j] o
  obtain ⟨i1,i2⟩:=ih (j+1) f (putL ball[j] o) (by omega) (by omega) (by omega)
  have e:putAll o (ball.drop j)=putAll (putL ball[j] o) (ball.drop (j+1)):=by
   rw [List.drop_eq_getElem_cons hj]
   rfl
  rw [e]
  refine ⟨?_,by omega⟩
  rw [<- i1]
  show q21q_l2_r _ _ _=_
  unfold q21q_l2_r
  simp only [lt_dec hj,if_true,idxIn_nat hj,Int.toNat_natCast,ej,hp,Option.bind_some,small_wrap (show j<=100000 by omega)]
theorem gn_l0 (N:Nat) (hN:20<=N) {m:Nat} {es:List E} {v:Unit} (hg:graphB ((m:Int),es,v)=true) (ho:okL es=true) (c:List Int) (hin:∀x∈c,inB 0 ((m:Int)-1) x=true) (h3:c.length<=3):∀k i f (o:List Int),i+k=c.length->k<f->o.length<=8*i ->
  q21q_l0 N f (c,((m:Int),es,v),o,(i:Int),())=some (.inl ((c.drop i).foldl (fun o x=>putAll o (ballL m es x)) o,())):=by
 obtain ⟨n0,n8⟩:=graphB_n hg
 intro k
 induction k with
 | zero=>
  intro i f o h1 h2 h4
  obtain ⟨f,rfl⟩:∃m,f=m+1:=⟨f-1,by omega⟩
  have hlt:decide ((i:Int)<(c.length:Int))=false:=decide_eq_false (by omega)
  rw [List.drop_of_length_le (by omega)]
  show q21q_l0_r _ _ _=_
  unfold q21q_l0_r
  simp only [hlt,Bool.false_eq_true,if_false]
  rfl
 | succ k ih=>
  intro i f o h1 h2 h4
  obtain ⟨f,rfl⟩:∃m,f=m+1:=⟨f-1,by omega⟩
  have hi:i<c.length:=by omega
  have ei:at_ I c i=c[i]:=at_get (e:=I) hi
  obtain ⟨x,ex,hx⟩:=nodeX (hin _ (List.getElem_mem hi))
  have hb1:=ball_some (graph_grB hg ho) (x:=x) (by simpa using hx)
  simp only [Int.toNat_natCast] at hb1
  have hb2:=ball_two hg ho hx
  have hbl:(ballF m es (x:Int)).length<=8:=by have:=ballF_len m es (x:Int);omega
  obtain ⟨q1,q2⟩:=gn_l2 N c ((m:Int),es,v) (ballF m es (x:Int)) hbl (i:Int) (ballF m es (x:Int)).length 0 N o (by omega) (by omega) (by omega)
  simp only [Int.natCast_zero,List.drop_zero] at q1 q2
  have hr:=ih (i+1) f (putAll o (ballF m es (x:Int))) (by omega) (by omega) (by omega)
  rw [List.drop_eq_getElem_cons hi,List.foldl_cons,ex,hb2,<- hr]
  show q21q_l0_r _ _ _=_
  unfold q21q_l0_r
  simp only [lt_dec hi,if_true,idxIn_nat hi,Int.toNat_natCast,ei,ex,hb1,Option.bind_some,q1,small_wrap (show i<=100000 by omega)]
theorem guard_reach {m:Nat} {es:List E} {c:List Int} (hin:∀x∈c,inB 0 ((m:Int)-1) x=true):c.foldl (fun o x=>putAll o (ballL m es x)) []=guardL m es c:=by
 have h:=reach_fold (n:=m) (es:=es) c (fun _=>false) fun z hz=>by
  obtain ⟨y,rfl,hy⟩:=nodeX (hin z hz)
  exact ⟨y,hy,rfl⟩
 rw [setF_empty] at h
 rw [h]
 unfold guardL
 refine setF_congr fun y _ hy => ?_
 unfold stepP
 apply Bool.eq_iff_iff.2
 simp only [Bool.false_or,List.any_eq_true,Bool.or_eq_true,Bool.and_eq_true,List.mem_range,beq_iff_eq]
 constructor
 ·rintro ⟨z,hz,h | h⟩
  ·obtain ⟨u,rfl,hu⟩:=nodeX (hin z hz)
   exact .inr ⟨u,hu,has_mem.2 hz,h⟩
  ·exact .inl (has_mem.2 (h▸hz))
 ·rintro (h | ⟨u,hu,h1,h2⟩)
  ·exact ⟨(y:Int),has_mem.1 h,.inr rfl⟩
  ·exact ⟨(u:Int),has_mem.1 h1,.inl h2⟩
theorem specGN_lim (d) (r) (h:G_guarded d=some r):∃N,F_q21q N d=some r:=by
 obtain ⟨⟨n,es,v⟩,c,_⟩:=d
 unfold G_guarded at h
 split at h
 ·rename_i hc
  rw [Bool.and_eq_true] at hc
  have ho:okL es=true:=hc.1
  have hl:okL c=true:=hc.2
  cases Option.some.inj h
  refine ⟨100,?_⟩
  unfold F_q21q guardB
  simp only [specField (g:=(n,es,v)) ho,Option.bind_some]
  cases hf:fieldB (n,es,v) (c.length:Int) with
  | false=>simp only [meetB,hf,Bool.not_false,if_true,Bool.false_eq_true,if_false,Bool.false_and]
  | true=>
   obtain ⟨hg,m,q,rfl,e,m1,m8,q1,q3⟩:=field_parts hf
   have a1:decide (0<=(m:Int))=true:=decide_eq_true (by omega)
   have a2:decide ((m:Int)<=8)=true:=decide_eq_true (by omega)
   simp only [meetB,hf,G_l4Cops,hl,a1,a2,Bool.and_self,if_true,Option.bind_some,Bool.true_and,Bool.not_true,Bool.false_eq_true,if_false]
   cases hcb:copsB (m:Int) c with
   | false=>simp only [Bool.not_false,if_true,Bool.false_eq_true,if_false]
   | true=>
    have hin:=copsB_in hcb
    have hl0:=gn_l0 100 (by omega) hg ho c hin (by omega) c.length 0 100 [] (by omega) (by omega) (by simp)
    simp only [Int.natCast_zero,List.drop_zero] at hl0
    simp only [Bool.not_true,Bool.false_eq_true,if_false,hl0,Option.bind_some,if_true,Int.toNat_natCast,guard_reach hin]
 ·cases h
theorem implGN {n:Int} {es:List E} {v:Unit} (ho:okL es=true) {c:List Int} (hc:okL c=true) (u:Unit):F_q20q 0 ((n,es,v),c,u)=some (guardB (n,es,v) c):=by
 unfold F_q20q guardB
 simp only [implAre ho hc,Option.bind_some]
 cases hme:meetB (n,es,v) c with
 | false=>simp only [Bool.not_false,if_true,Bool.false_eq_true,if_false]
 | true=>
  obtain ⟨hg,m,rfl,m1,m8,c1,c3,hcb,hcm⟩:=meet_parts hme
  obtain ⟨g1,_⟩:=graphB_edges hg
  obtain ⟨n1,n2⟩:=netB_net m8 g1
  have hall:c.all (inB 0 ((m:Int)-1))=true:=List.all_eq_true.2 (copsB_in hcb)
  obtain ⟨k1,k2,k3⟩:=nodes_mask m8 hall hc ()
  have hM:isM m (maskN c) (fun y=>hasL c (y:Int)):=⟨k2,k3⟩
  have hM2:=around_isM m8 g1 hM
  have hnl:(netN m es).length=m:=by rw [<- toI_len,n2]
  have hfrom:fromI (toI (netN m es))=netN m es:=by
   unfold fromI toI
   rw [List.map_map]
   conv=>rhs;rw [<- List.map_id (netN m es)]
   refine List.map_congr_left fun a _ => ?_
   simp
  have har:=around_some n1 () () k2
  rw [hfrom,n2] at har
  simp only [Bool.not_true,Bool.false_eq_true,if_false,net_some hg ho,Option.bind_some,k1,har,setOf_some hM2.1,if_true,setF_mask m8 hM2,Int.toNat_natCast]
  rfl
theorem specCM {n:Int} {es:List E} {v:Unit} (ho:okL es=true) {c:List Int} (hl:okL c=true) (u:Unit):F_q50q 0 ((n,es,v),c,u)=some (stepsB (n,es,v) c):=by
 unfold F_q50q stepsB
 simp only [specField (g:=(n,es,v)) ho,Option.bind_some]
 cases hf:fieldB (n,es,v) (c.length:Int) with
 | false=>simp only [meetB,hf,Bool.not_false,if_true,Bool.false_eq_true,if_false,Bool.false_and]
 | true=>
  obtain ⟨hg,m,q,rfl,e,m1,m8,q1,q3⟩:=field_parts hf
  have a1:decide (0<=(m:Int))=true:=decide_eq_true (by omega)
  have a2:decide ((m:Int)<=8)=true:=decide_eq_true (by omega)
  simp only [meetB,hf,G_l4Cops,hl,a1,a2,Bool.and_self,if_true,Option.bind_some,Bool.true_and,Bool.not_true,Bool.false_eq_true,if_false]
  cases hcb:copsB (m:Int) c with
  | false=>simp only [Bool.not_false,if_true,Bool.false_eq_true,if_false]
  | true=>
   have hn:=cops_nodes hcb (by omega)
   simp only [Bool.not_true,Bool.false_eq_true,if_false,if_true,G_l4Moves,graph_grB hg ho,hn,Bool.and_self,Option.bind_some,Int.toNat_natCast]
theorem implCM {n:Int} {es:List E} {v:Unit} (ho:okL es=true) {c:List Int} (hc:okL c=true) (u:Unit):F_q54q 0 ((n,es,v),c,u)=some (stepsB (n,es,v) c):=by
 unfold F_q54q stepsB
 simp only [implAre ho hc,Option.bind_some]
 cases hme:meetB (n,es,v) c with
 | false=>simp only [Bool.not_false,if_true,Bool.false_eq_true,if_false]
 | true=>
  obtain ⟨hg,m,rfl,m1,m8,c1,c3,hcb,hcm⟩:=meet_parts hme
  obtain ⟨g1,_⟩:=graphB_edges hg
  obtain ⟨n1,n2⟩:=netB_net m8 g1
  have hn:=cops_nodes hcb c3
  have hcong:movesL (ballM (toI (netN m es))) c=movesL (ballF m es) c:=moves_congr fun x hx=>by
   obtain ⟨y,rfl,hy⟩:=nodeX (copsB_in hcb x hx)
   exact ball_same m8 g1 hy
  simp only [Bool.not_true,Bool.false_eq_true,if_false,net_some hg ho,Option.bind_some,G_copMoves,n1,n2,hn,Bool.and_self,if_true,hcong,Int.toNat_natCast]
theorem specCL {n:Int} {es:List E} {v:Unit} (ho:okL es=true) (k:Int) (u:Unit):F_q53q 0 ((n,es,v),k,u)=some (listsB (n,es,v) k):=by
 unfold F_q53q listsB
 simp only [specField (g:=(n,es,v)) ho,Option.bind_some]
 cases hf:fieldB (n,es,v) k with
 | false=>simp only [Bool.not_false,if_true,Bool.false_eq_true,if_false]
 | true=>
  obtain ⟨hg,m,q,rfl,rfl,m1,m8,q1,q3⟩:=field_parts hf
  have a1:inB 0 8 (m:Int)=true:=inB_iff.2 (by omega)
  have a2:inB 0 3 (q:Int)=true:=inB_iff.2 (by omega)
  simp only [Bool.not_true,Bool.false_eq_true,if_false,G_configs,a1,a2,Bool.and_self,if_true,Option.bind_some]
theorem implCL {n:Int} {es:List E} {v:Unit} (ho:okL es=true) (k:Int) (u:Unit):F_q55q 0 ((n,es,v),k,u)=some (listsB (n,es,v) k):=by
 unfold F_q55q listsB
 simp only [implField (g:=(n,es,v)) ho,Option.bind_some]
 cases hf:fieldB (n,es,v) k with
 | false=>simp only [Bool.not_false,if_true,Bool.false_eq_true,if_false]
 | true=>
  obtain ⟨hg,m,q,rfl,rfl,m1,m8,q1,q3⟩:=field_parts hf
  have a1:inB 0 8 (m:Int)=true:=inB_iff.2 (by omega)
  have a2:inB 0 3 (q:Int)=true:=inB_iff.2 (by omega)
  simp only [Bool.not_true,Bool.false_eq_true,if_false,G_configs,a1,a2,Bool.and_self,if_true,Option.bind_some]
theorem implNB {m:Nat} {es:List E} {v:Unit} (hg:graphB ((m:Int),es,v)=true) (ho:okL es=true) {x:Nat} (hx:x<m) (u:Unit):F_q32q 0 (((m:Int),es,v),(x:Int),u)=some (setF (fun y=>nearI es (x:Int) (y:Int)) m 0,true,()):=by
 obtain ⟨n0,n8⟩:=graphB_n hg
 have m8:m<=8:=by omega
 obtain ⟨g1,_⟩:=graphB_edges hg
 have hok:=netN_ok m8 g1
 have hxi:inB 0 ((m:Int)-1) (x:Int)=true:=inB_iff.2 (by omega)
 have hlt:x<(netN m es).length:=by rw [hok.1];exact hx
 have hlt2:x<(toI (netN m es)).length:=by rw [toI_len];exact hlt
 have ex:at_ I (toI (netN m es)) x=(((netN m es).getD x 0:Nat):Int):=by
  rw [at_get (e:=I) hlt2]
  show (toI (netN m es))[x]=_
  simp only [toI,List.getElem_map,List.getD_eq_getElem?_getD,List.getElem?_eq_getElem hlt,Option.getD_some]
 have hM:isM m ((netN m es).getD x 0) (fun y=>nearI es (x:Int) (y:Int)):=by
  refine ⟨hok.2 x,fun y => ?_⟩
  have:=netN_bit m8 g1 x y
  unfold hasN at this
  rw [this,isE_near es g1]
  cases hn:nearI es (x:Int) (y:Int) with
  | false=>simp [hn]
  | true=>simp [hn,near_lt g1 hn]
 unfold F_q32q
 simp only [has_nodes (m:Int) es v () [(x:Int)] ho (okL_of (by simp)),hg,List.all_cons,List.all_nil,hxi,Bool.and_true,Bool.and_self,Option.bind_some,Bool.not_true,Bool.false_eq_true,if_false,net_some hg ho,idxIn_nat hlt2,if_true,Int.toNat_natCast,ex,setOf_some hM.1,setF_mask m8 hM]
end Go.V.W
namespace Go.V.W
structure Inv3 (p n:Nat) (ball:Nat->Int->List Int) (f:Nat->Nat->Nat->Int):Prop where
 low:∀r c q,-1<=f r c q
 home:∀r c,f r c c=0
 away:∀r c q,c≠q->f r c q≠0
 why:∀r c q,r<p->c<n->q<n->0<=f r c q->c=q \/ ∃b∈ball r (c:Int),0<=afterT (ball r) (tabL n (f ((r+1) % p))) b (q:Int)
theorem Inv3.start (p n:Nat) (ball:Nat->Int->List Int):Inv3 p n ball start3:=by
 refine ⟨fun r c q => ?_,fun r c => ?_,fun r c q h => ?_,fun r c q _ _ _ h => ?_⟩
 ·unfold start3 startF;split<;>omega
 ·unfold start3 startF;simp
 ·unfold start3 startF;rw [if_neg h];omega
 ·unfold start3 startF at h
  by_cases e:c=q
  ·exact .inl e
  ·rw [if_neg e] at h;omega
def okBalls (p n:Nat) (ball:Nat->Int->List Int):Prop := ∀r,r<p->okBall n (ball r)
theorem after_mono {n:Nat} {ball:Int->List Int} (hb:okBall n ball) {f g:Nat->Nat->Int} (h:∀c q,0<=f c q->0<=g c q) {b q:Nat} (hbn:b<n) (hq:q<n) (h0:0<=afterT ball (tabL n f) (b:Int) (q:Int)):0<=afterT ball (tabL n g) (b:Int) (q:Int):=by
 unfold afterT at h0 |-
 by_cases e:(b:Int)=(q:Int)
 ·rw [if_pos e];exact Int.le_refl _
 ·rw [if_neg e] at h0 |-
  rcases worst_spec (tab2 (tabL n f) (b:Int)) (ball (q:Int)) 0 with ⟨_,h1⟩ | ⟨h1,_,_⟩
  ·omega
  ·rcases worst_spec (tab2 (tabL n g) (b:Int)) (ball (q:Int)) 0 with ⟨⟨x,hx,h2⟩,_⟩ | ⟨_,h2,_⟩
   ·exfalso
    obtain ⟨y,hy,rfl⟩:=hb q hq x hx
    have:=(h1 _ hx).1
    rw [tab2_tabL _ hbn hy] at this h2
    have:=h _ _ this
    omega
   ·exact h2
theorem Inv3.next {p n:Nat} {ball:Nat->Int->List Int} (hb:okBalls p n ball) {t:Int} (ht:1<=t) {f:Nat->Nat->Nat->Int} (hI:Inv3 p n ball f):Inv3 p n ball (step3 p n ball t f):=by
 have hkeep:∀r c q,0<=f r c q->step3 p n ball t f r c q=f r c q:=fun r c q h=>by
  unfold step3 can3
  have:decide (f r c q<0)=false:=by simp;omega
  simp [this]
 have hge:∀r c q,0<=f r c q->0<=step3 p n ball t f r c q:=fun r c q h=>by rw [hkeep r c q h];exact h
 refine ⟨fun r c q => ?_,fun r c => ?_,fun r c q h => ?_,fun r c q hr hc hq h => ?_⟩
 ·unfold step3;split
  ·omega
  ·exact hI.low r c q
 ·rw [hkeep r c c (by rw [hI.home];exact Int.le_refl _)];exact hI.home r c
 ·unfold step3;split
  ·omega
  ·exact hI.away r c q h
 ·have key:(∃b∈ball r (c:Int),0<=afterT (ball r) (tabL n (f ((r+1) % p))) b (q:Int)) -> ∃b∈ball r (c:Int),0<=afterT (ball r) (tabL n (step3 p n ball t f ((r+1) % p))) b (q:Int):=by
   rintro ⟨b,hbm,h1⟩
   obtain ⟨y,hy,rfl⟩:=hb r hr c hc b hbm
   exact ⟨_,hbm,after_mono (hb r hr) (hge _) hy hq h1⟩
  by_cases hf:0<=f r c q
  ·exact (hI.why r c q hr hc hq hf).imp _root_.id key
  ·right
   have hcan:can3 p n ball f r c q=true:=by
    cases hcan:can3 p n ball f r c q with
    | true=>rfl
    | false=>unfold step3 at h;rw [if_neg (by rw [hcan];simp)] at h;exact absurd h hf
   unfold can3 at hcan
   simp only [Bool.and_eq_true,List.any_eq_true,decide_eq_true_eq] at hcan
   exact key hcan.2
end Go.V.W
namespace Go.V.W
open Go.Proofs
structure TT (nets:List Nt) (p n:Nat):Prop where
 ok:netsB n nets=true
 len:nets.length=p
 n8:n<=8
end Go.V.W
namespace Go.V.W
open Go.Proofs
theorem and255 (x:Int):0<=bits .and .u64 x 255/\bits .and .u64 x 255<=255:=by
 have h:bits .and .u64 x 255=IntKind.wrap .u64 ((BitVec.ofInt 64 x&&&BitVec.ofInt 64 255).toNat:Int):=rfl
 have e:(BitVec.ofInt 64 x&&&BitVec.ofInt 64 255).toNat<=255:=by
  rw [BitVec.toNat_and]
  have:(BitVec.ofInt 64 255).toNat=255:=by decide
  rw [this]
  exact Nat.and_le_right
 rw [h]
 generalize (BitVec.ofInt 64 x&&&BitVec.ofInt 64 255).toNat=m at e
 unfold IntKind.wrap
 simp [IntKind.bits,IntKind.signed]
 omega
theorem next_ok {c:Cur} {u:Unit} (h:CurB c) (hf:c.2.1<=far_):Ok (F_q36q 0 (c,u)) fun r=>0<=r.1/\r.1<=255/\Adv 1 c r.2.1:=by
 obtain ⟨l,a,s,_⟩:=c
 obtain ⟨hb,ha⟩:=h
 simp only at hb ha hf
 unfold far_ at hf
 have w1:IntKind.wrap .i64 (a+1)=a+1:=wrap_in _ (by omega) (by omega)
 have hx:=and255
 have w2:∀x:Int,IntKind.wrap .i64 (bits .and .u64 x 255)=bits .and .u64 x 255:=fun x=>wrap_in _ (by have:=(hx x).1;omega) (by have:=(hx x).2;omega)
 have adv:∀s',Adv 1 (l,a,s,()) (l,a+1,s',()):=fun s'=>⟨⟨hb,by simp only;omega⟩,by simp only;omega⟩
 unfold F_q36q
 simp only [w1,w2]
 refine Ok.ite (fun h1 => ?_) (fun h1 => ?_)
 ·have h1:a<l.length:=of_decide_eq_true h1
  refine Ok.pos (by unfold idxIn;simp;omega) ?_
  obtain ⟨v,hv⟩:∃v:Int,at_ (.int .u8) l a.toNat=v:=⟨_,rfl⟩
  have hv':0<=v/\v<=255:=by
   have hlt:a.toNat<l.length:=by omega
   rw [at_get (e:=.int .u8) hlt] at hv
   rw [<- hv]
   exact hb _ (List.getElem_mem hlt)
  rw [hv]
  have w3:IntKind.wrap .i64 v=v:=wrap_in _ (by omega) (by omega)
  simp only [w3]
  refine Ok.ite (fun _=>Ok.some ⟨hv'.1,hv'.2,adv _⟩) (fun _=>Ok.pos rfl (Ok.some ⟨(hx _).1,(hx _).2,adv _⟩))
 ·refine Ok.ite (fun _=>Ok.some ⟨by simp,by simp,adv _⟩) (fun _=>Ok.pos rfl (Ok.some ⟨(hx _).1,(hx _).2,adv _⟩))
theorem tmod_in {x n:Int} (h:0<=x) (hn:0<n):0<=x.tmod n/\x.tmod n<n:=by
 rw [Int.tmod_eq_emod_of_nonneg h]
 exact ⟨Int.emod_nonneg _ (by omega),Int.emod_lt_of_pos _ hn⟩
theorem pick_ok {c:Cur} {n:Int} {u:Unit} (h:CurB c) (hf:c.2.1+2<=far_):Ok (F_q43q 0 (c,n,u)) fun r=>0<=r.1/\(r.1<n\/r.1=0)/\Adv 2 c r.2.1:=by
 unfold F_q43q
 simp only
 refine Ok.ite (fun h1=>Ok.some ⟨Int.le_refl _,.inr rfl,h,by simp only;omega⟩) (fun h1 => ?_)
 have h1:¬n<=1:=of_decide_eq_false h1
 have hn:(n != 0)=true:=by simp;omega
 refine Ok.bind (next_ok h (by omega)) fun r hr => ?_
 obtain ⟨r1,r2,r3⟩:=hr
 refine Ok.ite (fun h2 => ?_) (fun h2 => ?_)
 ·have w1:IntKind.wrap .i64 (r.1*256)=r.1*256:=wrap_in _ (by omega) (by omega)
  refine Ok.bind (next_ok r3.1 (by have:=r3.2;omega)) fun q hq => ?_
  obtain ⟨q1,q2,q3⟩:=hq
  have w2:IntKind.wrap .i64 (r.1*256+q.1)=r.1*256+q.1:=wrap_in _ (by omega) (by omega)
  refine Ok.pos hn (Ok.some ?_)
  rw [w1,w2]
  have:=tmod_in (x:=r.1*256+q.1) (n:=n) (by omega) (by omega)
  exact ⟨this.1,.inl this.2,(r3.trans q3).le (by omega)⟩
 ·refine Ok.pos hn (Ok.some ?_)
  have:=tmod_in (x:=r.1) (n:=n) (by omega) (by omega)
  exact ⟨this.1,.inl this.2,r3.le (by omega)⟩
theorem one_ok {c:Cur} {n:Int} {u:Unit} (h:CurB c) (hf:c.2.1+2<=far_):Ok (F_q46q 0 (c,n,u)) fun r=>Adv 2 c r.2.1:=by
 unfold F_q46q
 simp only
 exact Ok.bind (pick_ok h hf) fun r hr=>Ok.some hr.2.2
theorem among_ok {c:Cur} {l:List Int} {u:Unit} (h:CurB c) (hf:c.2.1+2<=far_) (hl:0<l.length):Ok (F_q30q 0 (c,l,u)) fun r=>r.1∈l/\Adv 2 c r.2.1:=by
 unfold F_q30q
 simp only
 refine Ok.bind (pick_ok h hf) fun r hr => ?_
 obtain ⟨r1,r2,r3⟩:=hr
 have hlt:r.1.toNat<l.length:=by omega
 refine Ok.pos (by unfold idxIn;simp;omega) (Ok.some ⟨?_,r3⟩)
 rw [at_get (e:=I) hlt]
 exact List.getElem_mem hlt
end Go.V.W
namespace Go.V.W
open Go.Proofs
theorem pa_l0 (N:Nat) (n:Nat) (hn:n<=8) (z:Gr) (a:Int):∀k x f (es:List E),x+k=n->k<f->es.length<=x -> ∃es',q77q_l0 N f ((n:Int),z,(a,es,()),(x:Int),())=some (.inl (z,(a,es',()),()))/\es'.length<=100:=by
 intro k
 induction k with
 | zero=>
  intro x f es h1 h2 h3
  obtain ⟨f,rfl⟩:∃m,f=m+1:=⟨f-1,by omega⟩
  refine ⟨es,?_,by omega⟩
  have hlt:decide (((x+1:Nat):Int)<(n:Int))=false:=decide_eq_false (by omega)
  show q77q_l0_r _ _ _=_
  unfold q77q_l0_r
  simp only [small_wrap (show x<=100000 by omega),hlt,Bool.false_eq_true,if_false]
 | succ k ih=>
  intro x f es h1 h2 h3
  obtain ⟨f,rfl⟩:∃m,f=m+1:=⟨f-1,by omega⟩
  by_cases hx:x+1<n
  ·have hlt:decide (((x+1:Nat):Int)<(n:Int))=true:=decide_eq_true (by omega)
   have hle:∀e:E,decide (es.length+List.length [e]<=lim)=true:=fun e=>by unfold lim;simp;omega
   obtain ⟨es',e1,e2⟩:=ih (x+1) f (es++[((x:Int),((x+1:Nat):Int),())]) (by omega) (by omega) (by simp;omega)
   refine ⟨es',?_,e2⟩
   rw [<- e1]
   show q77q_l0_r _ _ _=_
   unfold q77q_l0_r
   simp only [small_wrap (show x<=100000 by omega),hlt,if_true,hle]
  ·refine ⟨es,?_,by omega⟩
   have hlt:decide (((x+1:Nat):Int)<(n:Int))=false:=decide_eq_false (by omega)
   show q77q_l0_r _ _ _=_
   unfold q77q_l0_r
   simp only [small_wrap (show x<=100000 by omega),hlt,Bool.false_eq_true,if_false]
theorem path_ok (n:Nat) (hn:n<=8):Ok (pickF F_q77q P_path ((n:Int),())) (P_path ((n:Int),())):=by
 refine Ok.pick 20 ?_
 obtain ⟨es,e1,e2⟩:=pa_l0 20 n hn (0,[],()) (n:Int) n 0 20 [] (by omega) (by omega) (by simp)
 refine ⟨(((n:Int),es,()),()),?_,e2⟩
 unfold F_q77q
 simp only [Int.natCast_zero] at e1
 simp only [e1,Option.bind_some]
theorem wh_l2 (N:Nat) (n:Nat) (hn:n<=8) (z:Gr) (a:Int) (x:Int):∀k y f (es:List E),y+k=n->k<f->es.length+k<=1000 -> ∃es',q40q_l2 N f ((n:Int),z,(a,es,()),x,(y:Int),())=some (.inl ((n:Int),z,(a,es',()),x,()))/\es'.length=es.length+k:=by
 intro k
 induction k with
 | zero=>
  intro y f es h1 h2 h3
  obtain ⟨f,rfl⟩:∃m,f=m+1:=⟨f-1,by omega⟩
  refine ⟨es,?_,by omega⟩
  have hlt:decide ((y:Int)<(n:Int))=false:=decide_eq_false (by omega)
  show q40q_l2_r _ _ _=_
  unfold q40q_l2_r
  simp only [hlt,Bool.false_eq_true,if_false]
 | succ k ih=>
  intro y f es h1 h2 h3
  obtain ⟨f,rfl⟩:∃m,f=m+1:=⟨f-1,by omega⟩
  have hlt:decide ((y:Int)<(n:Int))=true:=decide_eq_true (by omega)
  have hle:∀e:E,decide (es.length+List.length [e]<=lim)=true:=fun e=>by unfold lim;simp;omega
  obtain ⟨es',e1,e2⟩:=ih (y+1) f (es++[(x,(y:Int),())]) (by omega) (by omega) (by simp;omega)
  refine ⟨es',?_,by rw [e2];simp;omega⟩
  rw [<- e1]
  show q40q_l2_r _ _ _=_
  unfold q40q_l2_r
  simp only [hlt,if_true,hle,small_wrap (show y<=100000 by omega)]
theorem wh_l0 (N:Nat) (hN:20<=N) (n:Nat) (hn:n<=8) (z:Gr) (a:Int):∀k x f (es:List E),x+k=n->k<f->es.length<=8*x -> ∃es',q40q_l0 N f ((n:Int),z,(a,es,()),(x:Int),())=some (.inl (z,(a,es',()),()))/\es'.length<=100:=by
 intro k
 induction k with
 | zero=>
  intro x f es h1 h2 h3
  obtain ⟨f,rfl⟩:∃m,f=m+1:=⟨f-1,by omega⟩
  refine ⟨es,?_,by omega⟩
  have hlt:decide ((x:Int)<(n:Int))=false:=decide_eq_false (by omega)
  show q40q_l0_r _ _ _=_
  unfold q40q_l0_r
  simp only [hlt,Bool.false_eq_true,if_false]
 | succ k ih=>
  intro x f es h1 h2 h3
  obtain ⟨f,rfl⟩:∃m,f=m+1:=⟨f-1,by omega⟩
  have hlt:decide ((x:Int)<(n:Int))=true:=decide_eq_true (by omega)
  obtain ⟨e1,q1,q2⟩:=wh_l2 N n hn z a (x:Int) (n-(x+1)) (x+1) N es (by omega) (by omega) (by omega)
  obtain ⟨es',r1,r2⟩:=ih (x+1) f e1 (by omega) (by omega) (by omega)
  refine ⟨es',?_,r2⟩
  rw [<- r1]
  show q40q_l0_r _ _ _=_
  unfold q40q_l0_r
  simp only [hlt,if_true,small_wrap (show x<=100000 by omega),q1,Option.bind_some]
theorem whole_ok (n:Nat) (hn:n<=8):Ok (pickF F_q40q P_path ((n:Int),())) (P_path ((n:Int),())):=by
 refine Ok.pick 20 ?_
 obtain ⟨es,e1,e2⟩:=wh_l0 20 (by omega) n hn (0,[],()) (n:Int) n 0 20 [] (by omega) (by omega) (by simp)
 refine ⟨(((n:Int),es,()),()),?_,e2⟩
 unfold F_q40q
 simp only [Int.natCast_zero] at e1
 simp only [e1,Option.bind_some]
end Go.V.W
namespace Go.V.W
open Go.Proofs
theorem marred_ok {c:Cur} {n:Int} {es:List E} {v u:Unit} (h:CurB c) (hf:c.2.1+20<=far_) (hl:es.length<=150):Ok (F_q26q 0 (c,(n,es,v),u)) fun r=>r.1.2.1.length<=es.length+1/\Adv 10 c r.2.1:=by
 unfold F_q26q
 simp only
 have hle:∀e:E,decide (es.length+List.length [e]<=lim)=true:=fun e=>by unfold lim;simp;omega
 refine Ok.bind (pick_ok h (by omega)) fun r hr => ?_
 obtain ⟨r1,r2,r3⟩:=hr
 have q3:=r3.2
 refine Ok.ite (fun _ => ?_) fun _=>Ok.ite (fun _ => ?_) fun _=>Ok.ite (fun _ => ?_) fun _ => ?_
 ·refine Ok.bind (among_ok r3.1 (by omega) (by simp)) fun s hs=>Ok.some ⟨by simp,(r3.trans hs.2).le (by omega)⟩
 ·refine Ok.bind (pick_ok r3.1 (by omega)) fun s hs => ?_
  have s3:=hs.2.2.2
  refine Ok.bind (pick_ok hs.2.2.1 (by omega)) fun t ht => ?_
  refine Ok.pos (hle _) (Ok.some ⟨by simp,((r3.trans hs.2.2).trans ht.2.2).le (by omega)⟩)
 ·refine Ok.ite (fun hp => ?_) fun _=>Ok.some ⟨by simp,r3.le (by omega)⟩
  have hp:=of_decide_eq_true hp
  refine Ok.bind (pick_ok r3.1 (by omega)) fun s hs => ?_
  obtain ⟨s1,s2,s3⟩:=hs
  refine Ok.pos (by unfold idxIn;simp;omega) (Ok.pos (hle _) (Ok.some ⟨by simp,(r3.trans s3).le (by omega)⟩))
 ·exact Ok.some ⟨by simp,r3.le (by omega)⟩
end Go.V.W
namespace Go.V.W
open Go.Proofs
theorem insE_lenU (e:E):∀l:List E,(insE e l).length=l.length+1:=by
 intro l
 induction l with
 | nil=>rfl
 | cons a l ih=>unfold insE;split<;>simp [ih]
theorem put_ok {es:List E} {e:E} {u:Unit} (h:es.length<=1000):Ok (G_l2Put (es,e,u)) fun r=>r.1.length=es.length+1:=by
 unfold G_l2Put
 rw [if_pos (decide_eq_true h)]
 exact Ok.some (insE_lenU _ _)
theorem near_ok {g:Gr} {x y:Int} {u:Unit} (h:g.2.1.length<=1000):Ok (G_l2Near (g,x,y,u)) fun _=>True:=by
 unfold G_l2Near
 rw [if_pos (show okL g.2.1=true from decide_eq_true (by unfold lim;omega))]
 exact Ok.some trivial
theorem cycle_ok (n:Nat) (hn:n<=8):Ok (F_q65q 0 ((n:Int),())) fun r=>r.1.2.1.length<=101:=by
 unfold F_q65q
 simp only
 refine Ok.bind (path_ok n hn) fun r hr => ?_
 have hr:r.1.2.1.length<=100:=hr
 refine Ok.bind (put_ok (by omega)) fun q hq=>Ok.some ?_
 simp only
 omega
theorem sg_l3 (N:Nat) (n:Nat) (hn:n<=8) (z:Gr) (a w:Int) (b:Bool) (x:Int):∀k y f (c:Cur) (es:List E),y+k=n->k<f->CurB c->c.2.1+2*(k:Int)<=far_->es.length+k<=1000 ->
  Ok (q12q_l3 N f (c,z,(n:Int),(a,es,()),w,b,x,(y:Int),())) fun o => ∃c' es',o=.inl (c',z,(n:Int),(a,es',()),w,b,x,())/\Adv (2*(k:Int)) c c'/\es'.length<=es.length+k:=by
 intro k
 induction k with
 | zero=>
  intro y f c es h1 h2 h3 h4 h5
  obtain ⟨f,rfl⟩:∃m,f=m+1:=⟨f-1,by omega⟩
  have hlt:decide ((y:Int)<(n:Int))=false:=decide_eq_false (by omega)
  show Ok (q12q_l3_r _ _ _) _
  unfold q12q_l3_r
  simp only [hlt,Bool.false_eq_true,if_false]
  exact Ok.some ⟨c,es,rfl,⟨h3,by omega⟩,by omega⟩
 | succ k ih=>
  intro y f c es h1 h2 h3 h4 h5
  obtain ⟨f,rfl⟩:∃m,f=m+1:=⟨f-1,by omega⟩
  have hlt:decide ((y:Int)<(n:Int))=true:=decide_eq_true (by omega)
  show Ok (q12q_l3_r _ _ _) _
  unfold q12q_l3_r
  simp only [hlt,if_true,small_wrap (show y<=100000 by omega)]
  refine Ok.bind (pick_ok h3 (by omega)) fun r hr => ?_
  have r3:=hr.2.2.2
  refine Ok.ite (fun _ => ?_) (fun _ => ?_)
  ·refine Ok.bind (put_ok (by omega)) fun q hq => ?_
   refine (ih (y+1) f r.2.1 q.1 (by omega) (by omega) hr.2.2.1 (by omega) (by omega)).mono fun o ho => ?_
   obtain ⟨c',es',e1,e2,e3⟩:=ho
   exact ⟨c',es',e1,(hr.2.2.trans e2).le (by omega),by omega⟩
  ·refine (ih (y+1) f r.2.1 es (by omega) (by omega) hr.2.2.1 (by omega) (by omega)).mono fun o ho => ?_
   obtain ⟨c',es',e1,e2,e3⟩:=ho
   exact ⟨c',es',e1,(hr.2.2.trans e2).le (by omega),by omega⟩
theorem sg_l1 (N:Nat) (hN:20<=N) (n:Nat) (hn:n<=8) (z:Gr) (a w:Int) (b:Bool):∀k x f (c:Cur) (es:List E),x+k=n->k<f->CurB c->c.2.1+20*(k:Int)<=far_->es.length<=10*x ->
  Ok (q12q_l1 N f (c,z,(n:Int),(a,es,()),w,b,(x:Int),())) fun o => ∃c' es',o=.inl (c',z,(a,es',()),())/\Adv (20*(k:Int)) c c'/\es'.length<=10*n:=by
 intro k
 induction k with
 | zero=>
  intro x f c es h1 h2 h3 h4 h5
  obtain ⟨f,rfl⟩:∃m,f=m+1:=⟨f-1,by omega⟩
  have hlt:decide ((x:Int)<(n:Int))=false:=decide_eq_false (by omega)
  show Ok (q12q_l1_r _ _ _) _
  unfold q12q_l1_r
  simp only [hlt,Bool.false_eq_true,if_false]
  exact Ok.some ⟨c,es,rfl,⟨h3,by omega⟩,by omega⟩
 | succ k ih=>
  intro x f c es h1 h2 h3 h4 h5
  obtain ⟨f,rfl⟩:∃m,f=m+1:=⟨f-1,by omega⟩
  have hlt:decide ((x:Int)<(n:Int))=true:=decide_eq_true (by omega)
  show Ok (q12q_l1_r _ _ _) _
  unfold q12q_l1_r
  simp only [hlt,if_true,small_wrap (show x<=100000 by omega)]
  refine Ok.bind (sg_l3 N n hn z a w b (x:Int) (n-(x+1)) (x+1) N c es (by omega) (by omega) h3 (by omega) (by omega)) fun o ho => ?_
  obtain ⟨c1,e1,rfl,a1,l1⟩:=ho
  have b1:=a1.2
  simp only [small_wrap (show x<=100000 by omega)]
  refine Ok.bind (pick_ok a1.1 (by omega)) fun r hr => ?_
  have r3:=hr.2.2.2
  have more:∀es2:List E,es2.length<=10*(x+1)->Ok (q12q_l1 N f (r.2.1,z,(n:Int),(a,es2,()),w,b,((x+1:Nat):Int),())) fun o => ∃c' es',o=.inl (c',z,(a,es',()),())/\Adv (20*((k+1:Nat):Int)) c c'/\es'.length<=10*n:=fun es2 h=>by
   refine (ih (x+1) f r.2.1 es2 (by omega) (by omega) hr.2.2.1 (by omega) (by omega)).mono fun o ho => ?_
   obtain ⟨c',es',e1,e2,e3⟩:=ho
   exact ⟨c',es',e1,((a1.trans hr.2.2).trans e2).le (by omega),by omega⟩
  refine Ok.ite (fun _=>Ok.ite (fun _ => ?_) fun _=>more _ (by omega)) fun _=>more _ (by omega)
  refine Ok.bind (near_ok (by simp only;omega)) fun _ _=>Ok.ite (fun _ => ?_) fun _=>more _ (by omega)
  refine Ok.bind (put_ok (by omega)) fun q hq=>more _ (by omega)
noncomputable def sgTail (N:Nat) (c:Cur) (n:Int):Option (Gr×Cur×Unit):=
  ((F_q43q 0) ((c,((8:Int),())))).bind fun r49=>
  if (r49.1==(0:Int))=true then
   ((pickF F_q77q P_path) (n,())).bind fun r50=>
   ((F_q26q 0) ((r49.2.1,(r50.1,())))).bind fun r51=>
   some ((r51.1,(r51.2.1,())))
  else
   if (r49.1==(1:Int))=true then
    if (decide (n>(2:Int)))=true then
     ((F_q65q 0) (n,())).bind fun r52=>
     ((F_q26q 0) ((r49.2.1,(r52.1,())))).bind fun r53=>
     some ((r53.1,(r53.2.1,())))
    else
     ((F_q26q 0) ((r49.2.1,((n,(([]:List (Int×Int×Unit)),())),())))).bind fun r54=>
     some ((r54.1,(r54.2.1,())))
   else
    if (r49.1==(2:Int))=true then
     ((pickF F_q40q P_path) (n,())).bind fun r55=>
     ((F_q26q 0) ((r49.2.1,(r55.1,())))).bind fun r56=>
     some ((r56.1,(r56.2.1,())))
    else
     ((F_q30q 0) ((r49.2.1,([(3:Int),(4:Int),(6:Int)],())))).bind fun r57=>
     ((F_q46q 0) ((r57.2.1,((6:Int),())))).bind fun r58=>
     (q12q_l1 N N ((r58.2.1,(((0:Int),(([]:List (Int×Int×Unit)),())),(n,((n,(([]:List (Int×Int×Unit)),())),(r57.1,(r58.1,((0:Int),()))))))))).bind fun o59=>match o59 with
     | .inl d60=>
      ((F_q26q 0) ((d60.1,(d60.2.2.1,())))).bind fun r61=>
      some ((r61.1,(r61.2.1,())))
theorem sgTail_ok {c:Cur} {n:Int} {m:Nat} (hm:m<=8) (he:n=m) (h:CurB c) (hf:c.2.1+250<=far_):Ok (sgTail 20 c n) fun r=>Adv 200 c r.2.1/\r.1.2.1.length<=200:=by
 subst he
 have mar:∀(c1:Cur) (g:Gr),Adv 180 c c1->g.2.1.length<=150->Ok ((F_q26q 0 (c1,g,())).bind fun r=>some (r.1,r.2.1,())) fun r=>Adv 200 c r.2.1/\r.1.2.1.length<=200:=by
  intro c1 g h1 h2
  have:=h1.2
  obtain ⟨n,es,u⟩:=g
  refine Ok.bind (marred_ok h1.1 (by omega) h2) fun r hr=>Ok.some ⟨(h1.trans hr.2).le (by omega),?_⟩
  have:=hr.1
  simp only at h2 |-
  omega
 unfold sgTail
 refine Ok.bind (pick_ok h (by omega)) fun r hr => ?_
 have a1:=hr.2.2
 have b1:=a1.2
 refine Ok.ite (fun _ => ?_) fun _=>Ok.ite (fun _=>Ok.ite (fun _ => ?_) fun _=>mar _ _ (a1.le (by omega)) (by simp)) fun _=>Ok.ite (fun _ => ?_) fun _ => ?_
 ·refine Ok.bind (path_ok m hm) fun q hq=>mar _ _ (a1.le (by omega)) ?_
  have:q.1.2.1.length<=100:=hq
  omega
 ·refine Ok.bind (cycle_ok m hm) fun q hq=>mar _ _ (a1.le (by omega)) (by omega)
 ·refine Ok.bind (whole_ok m hm) fun q hq=>mar _ _ (a1.le (by omega)) ?_
  have:q.1.2.1.length<=100:=hq
  omega
 ·refine Ok.bind (among_ok a1.1 (by omega) (by simp)) fun q hq => ?_
  have a2:=a1.trans hq.2
  have b2:=a2.2
  refine Ok.bind (one_ok a2.1 (by omega)) fun s hs => ?_
  have a3:=a2.trans hs
  have b3:=a3.2
  have hl:=sg_l1 20 (by omega) m hm (0,[],()) (m:Int) q.1 s.1 m 0 20 s.2.1 [] (by omega) (by omega) a3.1 (by omega) (by simp)
  simp only [Int.natCast_zero] at hl
  refine Ok.bind hl fun o ho => ?_
  obtain ⟨c',es',rfl,e2,e3⟩:=ho
  exact mar _ _ ((a3.trans e2).le (by omega)) (by simp only;omega)
theorem least_in {x y:Int} {u:Unit} (h:0<=x) (h2:0<=y) (h3:y<=8):∃m:Nat,m<=8/\(g_q63q (x,y,u)).1=(m:Int):=by
 unfold g_q63q
 simp only
 split
 ·rename_i hh
  have:=of_decide_eq_true hh
  exact ⟨x.toNat,by omega,by simp only;omega⟩
 ·exact ⟨y.toNat,by omega,by simp only;omega⟩
theorem someGraph_ok {c:Cur} {a:Int} (h:CurB c) (hf:c.2.1+300<=far_) (h0:0<=a) (h8:a<=8):Ok (pickF F_q12q P_someG (c,a,())) (P_someG (c,a,())):=by
 refine Ok.pick 20 ?_
 have fin:∀(c1:Cur) (n:Int) (m:Nat),m<=8->n=m->Adv 50 c c1->Ok (sgTail 20 c1 n) (P_someG (c,a,())):=fun c1 n m hm he h1=>by
  have:=h1.2
  exact (sgTail_ok hm he h1.1 (by omega)).mono fun r hr=>⟨(h1.trans hr.1).le (by omega),hr.2⟩
 unfold F_q12q
 simp only
 refine Ok.bind (among_ok h (by omega) (by simp)) fun r hr => ?_
 have r0:0<=r.1:=by
  have:=hr.1
  simp at this
  omega
 have a1:=hr.2
 have b1:=a1.2
 refine Ok.ite (fun _ => ?_) fun _ => ?_
 ·refine Ok.bind (one_ok a1.1 (by omega)) fun s hs => ?_
  have a2:=a1.trans hs
  have b2:=a2.2
  refine Ok.ite (fun _ => ?_) fun _ => ?_
  ·refine Ok.bind (pick_ok a2.1 (by omega)) fun t ht => ?_
   have a3:=a2.trans ht.2.2
   have w:IntKind.wrap .i64 ((7:Int)+t.1)=7+t.1:=wrap_in _ (by have:=ht.1;omega) (by have:=ht.2.1;omega)
   obtain ⟨m,hm,em⟩:=least_in (x:=IntKind.wrap .i64 ((7:Int)+t.1)) (u:=()) (by rw [w];have:=ht.1;omega) h0 h8
   exact fin _ _ m hm em (a3.le (by omega))
  ·obtain ⟨m,hm,em⟩:=least_in (u:=()) r0 h0 h8
   exact fin _ _ m hm em (a2.le (by omega))
 ·obtain ⟨m,hm,em⟩:=least_in (u:=()) r0 h0 h8
  exact fin _ _ m hm em (a1.le (by omega))
theorem bigGraph_ok {c:Cur} {u:Unit} (h:CurB c) (hf:c.2.1+300<=far_):Ok (F_q14q 0 (c,u)) fun r=>Adv 300 c r.2.1/\r.1.2.1.length<=200:=by
 unfold F_q14q
 simp only
 exact Ok.bind (someGraph_ok h hf (by omega) (by omega)) fun r hr=>Ok.some hr
end Go.V.W
namespace Go.V.W
open Go.Proofs
theorem law54:∀d,WfD (Kd.tuple ([(K_Su8,false)].map (·.1))) d -> ∃out,G_law d=some out/\(splitT [.bool] [] out).1.1=true:=by
 rintro ⟨code,_⟩ ⟨⟨hl,hc⟩,_⟩
 refine ⟨(true,()),?_,rfl⟩
 unfold G_law
 rw [if_pos]
 simp only [Bool.and_eq_true,List.all_eq_true,decide_eq_true_eq]
 refine ⟨fun x hx => ?_,hl⟩
 have:=hc x hx
 simp [WfD,Lit.wf,IntKind.min,IntKind.max,IntKind.signed,IntKind.bits] at this
 unfold inB
 simp
 omega
end Go.V.W
namespace Go.V.W
open Go.Proofs
theorem node_ok {c:Cur} {g:Gr} {u:Unit} (h:CurB c) (hf:c.2.1+10<=far_):Ok (F_q35q 0 (c,g,u)) fun r=>r.1<=9223372036854775807/\(r.1 = -1\/0<=r.1)/\Adv 10 c r.2.1:=by
 have lst:∀(c1:Cur),Adv 4 c c1->Ok ((F_q30q 0 (c1,[(-1:Int),(0:Int),(8:Int),(4611686018427387904:Int)],())).bind fun r=>some (r.1,r.2.1,())) fun r=>r.1<=9223372036854775807/\(r.1 = -1\/0<=r.1)/\Adv 10 c r.2.1:=fun c1 h1=>by
  have:=h1.2
  refine Ok.bind (among_ok h1.1 (by omega) (by simp)) fun r hr=>Ok.some ⟨?_,?_,(h1.trans hr.2).le (by omega)⟩
  ·have:=hr.1
   simp at this
   omega
  ·have:=hr.1
   simp at this
   omega
 have a0:Adv 4 c c:=⟨h,by omega⟩
 unfold F_q35q
 simp only
 refine Ok.ite (fun _=>lst c a0) fun h1=>Ok.ite (fun _=>lst c a0) fun h2 => ?_
 have h2:=of_decide_eq_false h2
 have h2:¬g.1>8:=h2
 refine Ok.bind (one_ok h (by omega)) fun r hr => ?_
 have b:=hr.2
 refine Ok.ite (fun _=>lst _ (hr.le (by omega))) fun _ => ?_
 refine Ok.bind (pick_ok hr.1 (by omega)) fun s hs=>Ok.some ⟨?_,.inr hs.1,(hr.trans hs.2.2).le (by omega)⟩
 rcases hs.2.1 with h3 | h3
 ·have h3:s.1<g.1:=h3
  show s.1<=_
  omega
 ·show s.1<=_
  omega
end Go.V.W
