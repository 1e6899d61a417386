/- What the law FnCapture leans on, part 7: an interpreter of the model as plain data, its soundness, the functions as it tells them, and their laws. -/
import Derived.Test.YtnieoolfkakmdaaGreatVF
set_option linter.unusedVariables false
set_option linter.unusedSimpArgs false
set_option maxRecDepth 100000
namespace Go.V.W
open Go.Proofs
theorem lt_snoc1:∀{a b:List Int} {x y:Int},a.length=b.length->cmpL a b<0->cmpL (a++[x]) (b++[y])<0:=by
 intro a
 induction a with
 | nil=>
  intro b x y h1 h2
  cases b with
  | nil=>simp [cmpL] at h2
  | cons c b=>simp at h1
 | cons c a ih=>
  intro b x y h1 h2
  cases b with
  | nil=>simp at h1
  | cons e b=>
   simp only [cmpL,List.cons_append] at h2 |-
   by_cases h3:c<e
   ·rw [if_pos h3];omega
   ·rw [if_neg h3] at h2 |-
    by_cases h4:e<c
    ·rw [if_pos h4] at h2;omega
    ·rw [if_neg h4] at h2 |-
     exact ih (by simpa using h1) h2
theorem lt_snoc2:∀{a:List Int} {x y:Int},x<y->cmpL (a++[x]) (a++[y])<0:=by
 intro a
 induction a with
 | nil=>intro x y h;simp [cmpL,h]
 | cons c a ih=>
  intro x y h
  simp only [cmpL,List.cons_append,Int.lt_irrefl,if_false]
  exact ih h
theorem upTo_mem {a n:Nat} {x:Int}:x∈upTo a n ↔ ∃y:Nat,a<=y/\y<n/\x=(y:Int):=by
 unfold upTo
 simp only [List.mem_map,List.mem_range'_1]
 constructor
 ·rintro ⟨y,hy,rfl⟩
  exact ⟨y,by omega,by omega,rfl⟩
 ·rintro ⟨y,h1,h2,rfl⟩
  exact ⟨y,by omega,rfl⟩
theorem confL_len {n:Nat}:∀{k:Nat} {l:List Int},l∈confL n k->l.length=k:=by
 intro k
 induction k with
 | zero=>intro l h;simp [confL] at h;simp [h]
 | succ k ih=>
  intro l h
  unfold confL at h
  obtain ⟨a,ha,h2⟩:=List.mem_flatMap.1 h
  obtain ⟨x,_,rfl⟩:=List.mem_map.1 h2
  simp [ih ha]
theorem confL_rise (n:Nat):∀k:Nat,(confL n k).Pairwise ltL:=by
 intro k
 induction k with
 | zero=>simp [confL]
 | succ k ih=>
  unfold confL
  rw [List.pairwise_flatMap]
  refine ⟨fun a _ => ?_,?_⟩
  ·rw [List.pairwise_map]
   unfold upTo
   rw [List.pairwise_map]
   refine List.Pairwise.imp (fun {i j} h => ?_) (List.pairwise_lt_range' (s:=(a.getLastD 0).toNat) (n:=n-(a.getLastD 0).toNat))
   exact lt_snoc2 (by omega)
  ·refine List.Pairwise.imp_of_mem (fun {a b} ha hb h x hx y hy => ?_) ih
   obtain ⟨p,_,rfl⟩:=List.mem_map.1 hx
   obtain ⟨q,_,rfl⟩:=List.mem_map.1 hy
   exact lt_snoc1 (by rw [confL_len ha,confL_len hb]) h
theorem ndB_snoc:∀{l:List Int} {x:Int},ndB (l++[x])=(ndB l&&(match l.getLast? with | none=>true | some y=>decide (y<=x))):=by
 intro l
 induction l with
 | nil=>intro x;rfl
 | cons a l ih=>
  intro x
  cases l with
  | nil=>simp [ndB]
  | cons b l=>
   have:=ih (x:=x)
   simp only [List.cons_append,ndB] at this |-
   rw [this,List.getLast?_cons_cons,Bool.and_assoc]
theorem confL_mem {n:Nat}:∀{k:Nat} {l:List Int},l∈confL n k↔l.length=k/\copsB (n:Int) l=true:=by
 intro k
 induction k with
 | zero=>
  intro l
  simp only [confL,List.mem_singleton,List.length_eq_zero_iff]
  constructor
  ·rintro rfl;exact ⟨rfl,rfl⟩
  ·intro h;exact h.1
 | succ k ih=>
  intro l
  unfold confL
  rw [List.mem_flatMap]
  constructor
  ·rintro ⟨a,ha,h2⟩
   obtain ⟨x,hx,rfl⟩:=List.mem_map.1 h2
   obtain ⟨y,h3,h4,rfl⟩:=upTo_mem.1 hx
   obtain ⟨h5,h6⟩:=ih.1 ha
   refine ⟨by simp [h5],?_⟩
   unfold copsB at h6 |-
   rw [Bool.and_eq_true] at h6
   rw [List.all_append,ndB_snoc,h6.1,h6.2]
   simp only [List.all_cons,List.all_nil,Bool.true_and,Bool.and_true,Bool.and_eq_true]
   refine ⟨inB_iff.2 (by omega),?_⟩
   cases hg:a.getLast? with
   | none=>rfl
   | some z=>
    rw [List.getLastD_eq_getLast?,hg] at h3
    simp only [Option.getD_some] at h3
    exact decide_eq_true (by omega)
  ·rintro ⟨h1,h2⟩
   have hne:l≠[]:=fun h=>by simp [h] at h1
   refine ⟨l.dropLast,ih.2 ⟨by simp [h1],?_⟩,List.mem_map.2 ⟨l.getLast hne,?_,List.dropLast_concat_getLast hne⟩⟩
   ·have e:=List.dropLast_concat_getLast hne
    rw [<- e] at h2
    unfold copsB at h2 |-
    rw [List.all_append,ndB_snoc] at h2
    simp only [Bool.and_eq_true] at h2
    rw [Bool.and_eq_true]
    exact ⟨h2.1.1,h2.2.1⟩
   ·have e:=List.dropLast_concat_getLast hne
    rw [<- e] at h2
    unfold copsB at h2
    rw [List.all_append,ndB_snoc] at h2
    simp only [Bool.and_eq_true,List.all_cons,List.all_nil,and_true] at h2
    have h3:=inB_iff.1 h2.1.2
    refine upTo_mem.2 ⟨(l.getLast hne).toNat,?_,by omega,by omega⟩
    rw [List.getLastD_eq_getLast?]
    have h4:=h2.2.2
    cases hg:l.dropLast.getLast? with
    | none=>simp
    | some z=>
     rw [hg] at h4
     have h4:=of_decide_eq_true h4
     simp only [Option.getD_some]
     omega
theorem confL_120 {n k:Nat} (hn:n<=8) (hk:k<=3):(confL n k).length<=120:=by
 have key:∀n:Fin 9,∀k:Fin 4,(confL n.1 k.1).length<=120:=by decide +kernel
 exact key ⟨n,by omega⟩ ⟨k,by omega⟩
theorem riseB_iff:∀{l:List (List Int)},riseB l=true↔l.Pairwise ltL:=by
 intro l
 induction l with
 | nil=>simp [riseB]
 | cons a l ih=>
  cases l with
  | nil=>simp [riseB]
  | cons b l=>
   unfold riseB
   rw [Bool.and_eq_true,ih,decide_eq_true_eq]
   constructor
   ·rintro ⟨h1,h2⟩
    refine List.pairwise_cons.2 ⟨fun c hc => ?_,h2⟩
    rcases List.mem_cons.1 hc with rfl | hc
    ·exact h1
    ·exact ltL_trans h1 ((List.pairwise_cons.1 h2).1 c hc)
   ·intro h
    obtain ⟨h1,h2⟩:=List.pairwise_cons.1 h
    exact ⟨h1 b (by simp),h2⟩
theorem memB_iff {cf:List (List Int)} {c:List Int}:memB cf c=true↔c∈cf:=by
 unfold memB
 rw [List.any_eq_true]
 constructor
 ·rintro ⟨x,h1,h2⟩
  rw [<- of_decide_eq_true h2]
  exact h1
 ·intro h
  exact ⟨c,h,decide_eq_true rfl⟩
theorem idxN_at {α:Type} {q:α->Bool}:∀{l:List α} {i:Nat},(∃x∈l,q x=true) -> ∃j,j<l.length/\idxN q l i=some (i+j) /\ ∃h:j<l.length,q l[j]=true:=by
 intro l
 induction l with
 | nil=>intro i ⟨x,hx,_⟩;simp at hx
 | cons a l ih=>
  intro i ⟨x,hx,hq⟩
  unfold idxN
  by_cases ha:q a=true
  ·rw [if_pos ha]
   exact ⟨0,by simp,by simp,by simp,by simpa using ha⟩
  ·rw [if_neg ha]
   have:∃x∈l,q x=true:=by
    rcases List.mem_cons.1 hx with rfl | hx
    ·exact absurd hq ha
    ·exact ⟨x,hx,hq⟩
   obtain ⟨j,h1,h2,h3,h4⟩:=ih (i:=i+1) this
   exact ⟨j+1,by simp;omega,by rw [h2];congr 1;omega,by simp;omega,by simpa using h4⟩
theorem place_at {cf:List (List Int)} {c:List Int} (h:c∈cf):∃i,i<cf.length/\placeL cf c=(i:Int)/\cf.getD i []=c:=by
 obtain ⟨j,h1,h2,h3,h4⟩:=idxN_at (q:=fun y=>decide (y=c)) (i:=0) ⟨c,h,decide_eq_true rfl⟩
 refine ⟨j,h1,?_,?_⟩
 ·unfold placeL
  rw [h2]
  simp [idxI]
 ·rw [List.getD_eq_getElem?_getD,List.getElem?_eq_getElem h3]
  simpa using h4
theorem place_rng {cf:List (List Int)} {c:List Int} (h:c∈cf):inB 0 ((cf.length:Int)-1) (placeL cf c)=true:=by
 obtain ⟨i,h1,h2,_⟩:=place_at h
 exact inB_iff.2 (by omega)
theorem ndB_of {l:List Int} (h:l.Pairwise (· <= ·)):ndB l=true:=by
 induction l with
 | nil=>rfl
 | cons a l ih=>
  rw [List.pairwise_cons] at h
  cases l with
  | nil=>rfl
  | cons b l=>
   unfold ndB
   rw [Bool.and_eq_true]
   exact ⟨decide_eq_true (h.1 b (by simp)),ih h.2⟩
theorem chL_all {p:Int->Bool} {ball:Int->List Int}:∀{cs:List Int} {now:List (List Int)},(∀c∈cs,∀x∈ball c,p x=true)->(∀l∈now,l.all p=true) -> ∀l∈chL ball cs now,l.all p=true:=by
 intro cs
 induction cs with
 | nil=>intro now _ h;exact h
 | cons c cs ih=>
  intro now hb h
  refine ih (fun c hc=>hb c (by simp [hc])) fun l hl => ?_
  obtain ⟨a,ha,h2⟩:=List.mem_flatMap.1 hl
  obtain ⟨x,hx,rfl⟩:=List.mem_map.1 h2
  rw [List.all_append,h a ha]
  simp [hb c (by simp) x hx]
theorem moves_mem {n:Nat} {ball:Int->List Int} {c:List Int} (hb:∀x∈c,(ball x).length<=8) (hb2:∀x∈c,∀y∈ball x,inB 0 ((n:Int)-1) y=true) {m:List Int} (h:m∈movesL ball c):m∈confL n c.length:=by
 have h2:=(sortS_perm _).mem_iff.1 ((comp_mem m).1 h)
 obtain ⟨x,hx,rfl⟩:=List.mem_map.1 h2
 obtain ⟨f1,f2⟩:=chL_facts (ball:=ball) (cs:=c) (now:=[[]]) (i:=0) hb (by simp)
 have f3:=chL_all (p:=inB 0 ((n:Int)-1)) (ball:=ball) (cs:=c) (now:=[[]]) hb2 (by simp) x hx
 refine confL_mem.2 ⟨by rw [sort_len,f2 x hx];simp,?_⟩
 unfold copsB
 rw [Bool.and_eq_true]
 refine ⟨List.all_eq_true.2 fun y hy=>List.all_eq_true.1 f3 y ((sortI_perm x).mem_iff.1 hy),ndB_of (sortI_sorted x)⟩
theorem moves_len {ball:Int->List Int} {cs:List Int} (h3:cs.length<=3) (hb:∀c∈cs,(ball c).length<=8):(movesL ball cs).length<=512:=by
 obtain ⟨f1,f2⟩:=chL_facts (ball:=ball) (cs:=cs) (now:=[[]]) (i:=0) hb (by simp)
 have hlen:(chL ball cs [[]]).length<=512:=by
  have:8 ^ cs.length<=8 ^ 3:=Nat.pow_le_pow_right (by omega) h3
  have e:([[]]:List (List Int)).length=1:=rfl
  rw [e] at f1
  omega
 unfold movesL compL
 rw [List.length_map]
 refine Nat.le_trans (keepI_le _ _) ?_
 rw [sortS_len,List.length_map]
 exact hlen
theorem copsB_in {n:Int} {l:List Int} (h:copsB n l=true):∀x∈l,inB 0 (n-1) x=true:=by
 unfold copsB at h
 rw [Bool.and_eq_true] at h
 exact List.all_eq_true.1 h.1
theorem board_ok {n:Nat} (hn:n<=8) {k:Nat} (hk:k<=3) {ball:Int->List Int} (hb:∀x:Nat,x<n->(ball (x:Int)).length<=8) (hb2:∀x:Nat,x<n -> ∀y∈ball (x:Int),inB 0 ((n:Int)-1) y=true):gmB n (confL n k) (movesI ball (confL n k))=true:=by
 unfold gmB
 simp only [Bool.and_eq_true,decide_eq_true_eq,List.all_eq_true]
 refine ⟨⟨⟨confL_120 hn hk,by simp [movesI]⟩,fun c hc => ?_⟩,fun l hl => ?_⟩
 ·obtain ⟨h1,h2⟩:=confL_mem.1 hc
  exact ⟨by omega,copsB_in h2⟩
 ·obtain ⟨c,hc,rfl⟩:=List.mem_map.1 hl
  obtain ⟨h1,h2⟩:=confL_mem.1 hc
  have h3:=copsB_in h2
  have g1:∀x∈c,(ball x).length<=8:=fun x hx=>by
   have:=inB_iff.1 (h3 x hx)
   have e:x=((x.toNat:Nat):Int):=by omega
   rw [e]
   exact hb _ (by omega)
  have g2:∀x∈c,∀y∈ball x,inB 0 ((n:Int)-1) y=true:=fun x hx=>by
   have:=inB_iff.1 (h3 x hx)
   have e:x=((x.toNat:Nat):Int):=by omega
   rw [e]
   exact hb2 _ (by omega)
  refine ⟨?_,fun p hp => ?_⟩
  ·rw [List.length_map]
   have:=moves_len (ball:=ball) (cs:=c) (by omega) g1
   omega
  ·obtain ⟨m,hm,rfl⟩:=List.mem_map.1 hp
   have:=moves_mem g1 g2 hm
   rw [h1] at this
   exact place_rng this
theorem okLL_conf {n k:Nat} (hn:n<=8) (hk:k<=3):okLL (confL n k)=true:=by
 have h:=confL_120 hn hk
 unfold okLL
 rw [Bool.and_eq_true]
 refine ⟨decide_eq_true (by unfold lim;omega),List.all_eq_true.2 fun l hl=>decide_eq_true ?_⟩
 rw [confL_len hl]
 unfold lim
 omega
end Go.V.W
namespace Go.V.W
open Go.Proofs
def growL (n:Nat) (l:List Int):List (List Int):=(upTo (l.getLastD 0).toNat n).map fun x=>l++[x]
theorem confL_succ (n k:Nat):confL n (k+1)=(confL n k).flatMap (growL n):=rfl
theorem upTo_cons {a n:Nat} (h:a<n):upTo a n=(a:Int)::upTo (a+1) n:=by
 unfold upTo
 rw [show n-a=(n-(a+1))+1 by omega,List.range'_succ]
 rfl
theorem upTo_nil (n:Nat):upTo n n=[]:=by simp [upTo]
theorem growL_len (n:Nat) (l:List Int):(growL n l).length<=n:=by simp [growL,upTo]
theorem conf_last {n k:Nat} {l:List Int} (h:l∈confL n k):0<=l.getLastD 0/\l.getLastD 0<=(n:Int):=by
 obtain ⟨h1,h2⟩:=confL_mem.1 h
 rw [List.getLastD_eq_getLast?]
 cases hg:l.getLast? with
 | none=>simp
 | some z=>
  have:=inB_iff.1 (copsB_in h2 z (List.mem_of_getLast? hg))
  simp only [Option.getD_some]
  omega
theorem last_at {l:List Int} (h:0<l.length):at_ I l (l.length-1)=l.getLastD 0:=by
 have e:at_ I l (l.length-1)=l[l.length-1]:=at_get (e:=I) (by omega)
 rw [e,List.getLastD_eq_getLast?,List.getLast?_eq_getElem?,List.getElem?_eq_getElem (by omega)]
 rfl
theorem cf_l4 (N n:Nat) (hn:n<=8) (k i:Int) (now:List (List Int)) (j:Nat) (hj:j<now.length) (hlen:now[j].length<=1000):∀q x f (next:List (List Int)),x+q=n->q<f->next.length+q<=1000 ->
  q49q_l4 N f ((n:Int),k,now,i,next,(j:Int),(x:Int),())=some (.inl ((n:Int),k,now,i,next++(upTo x n).map (fun x=>now[j]++[x]),(j:Int),())):=by
 intro q
 induction q with
 | zero=>
  intro x f next e1 e2 e3
  obtain ⟨f,rfl⟩:∃m,f=m+1:=⟨f-1,by omega⟩
  have e:x=n:=by omega
  subst e
  rw [upTo_nil]
  show q49q_l4_r _ _ _=_
  unfold q49q_l4_r
  simp only [lt_not,Bool.false_eq_true,if_false,List.map_nil,List.append_nil]
 | succ q ih=>
  intro x f next e1 e2 e3
  obtain ⟨f,rfl⟩:∃m,f=m+1:=⟨f-1,by omega⟩
  have hx:x<n:=by omega
  have ej:at_ K_Si now j=now[j]:=at_get (e:=K_Si) hj
  have c1:decide (now[j].length+List.length [(x:Int)]<=lim)=true:=by unfold lim;simp;omega
  have c2:decide (next.length+List.length [now[j]++[(x:Int)]]<=lim)=true:=by unfold lim;simp;omega
  show q49q_l4_r _ _ _=_
  unfold q49q_l4_r
  simp only [lt_dec hx,if_true,idxIn_nat hj,Int.toNat_natCast,ej,own_some now[j] hlen,Option.bind_some,c1,c2,wrap8 hx hn]
  rw [ih (x+1) f _ (by omega) (by omega) (by simp;omega),upTo_cons hx,List.map_cons,List.append_assoc,List.singleton_append]
theorem small_wrap {j:Nat} (h:j<=100000):IntKind.wrap .i64 ((j:Int)+1)=((j+1:Nat):Int):=by
 rw [wrap_in _ (by omega) (by omega)]
 rfl
theorem cf_l2 (N:Nat) (hN:10<=N) (n:Nat) (hn:n<=8) (k:Int) (i:Nat) (hi3:i<=3) (now:List (List Int)) (hnow:now.length<=120) (hle:∀l∈now,l.length=i/\0<=l.getLastD 0/\l.getLastD 0<=(n:Int)):∀q j f (next:List (List Int)),j+q=now.length->q<f->next.length+8*q<=990 ->
  q49q_l2 N f ((n:Int),k,now,(i:Int),next,(j:Int),())=some (.inl ((n:Int),k,(i:Int),next++(now.drop j).flatMap (growL n),())):=by
 intro q
 induction q with
 | zero=>
  intro j f next e1 e2 e3
  obtain ⟨f,rfl⟩:∃m,f=m+1:=⟨f-1,by omega⟩
  have e:j=now.length:=by omega
  subst e
  rw [List.drop_of_length_le (Nat.le_refl _)]
  show q49q_l2_r _ _ _=_
  unfold q49q_l2_r
  simp only [lt_not,Bool.false_eq_true,if_false,List.flatMap_nil,List.append_nil]
 | succ q ih=>
  intro j f next e1 e2 e3
  obtain ⟨f,rfl⟩:∃m,f=m+1:=⟨f-1,by omega⟩
  have hj:j<now.length:=by omega
  obtain ⟨h1,h2,h3⟩:=hle _ (List.getElem_mem hj)
  have ej:at_ K_Si now j=now[j]:=at_get (e:=K_Si) hj
  have hin:=cf_l4 N n hn k (i:Int) now j hj (by omega) (n-(now[j].getLastD 0).toNat) (now[j].getLastD 0).toNat N next (by omega) (by omega) (by omega)
  have e4:(((now[j].getLastD 0).toNat:Nat):Int)=now[j].getLastD 0:=by omega
  rw [e4] at hin
  have hg:(upTo (now[j].getLastD 0).toNat n).map (fun x=>now[j]++[x])=growL n now[j]:=rfl
  rw [hg] at hin
  have hgl:=growL_len n now[j]
  have fin:=ih (j+1) f (next++growL n now[j]) (by omega) (by omega) (by simp;omega)
  rw [List.append_assoc,<- List.flatMap_cons,<- List.drop_eq_getElem_cons hj] at fin
  show q49q_l2_r _ _ _=_
  unfold q49q_l2_r
  by_cases hi:0<i
  ·have hp:decide ((i:Int)>0)=true:=by simp;omega
   have hw:IntKind.wrap .i64 ((i:Int)-1)=((i-1:Nat):Int):=wrap_down hi (by unfold maxLen;omega)
   have hx:idxIn ((i-1:Nat):Int) now[j].length=true:=idxIn_nat (by omega)
   have hl:at_ I now[j] (i-1)=now[j].getLastD 0:=by
    rw [<- h1]
    exact last_at (by omega)
   simp only [lt_dec hj,if_true,hp,idxIn_nat hj,hw,Int.toNat_natCast,ej,hx,hl,hin,Option.bind_some,small_wrap (show j<=100000 by omega),fin]
  ·have hp:decide ((i:Int)>0)=false:=by simp;omega
   have hl:now[j].getLastD 0=0:=by
    have:now[j]=[]:=List.length_eq_zero_iff.1 (by omega)
    rw [this]
    rfl
   rw [hl] at hin
   simp only [lt_dec hj,if_true,hp,Bool.false_eq_true,if_false,hin,Option.bind_some,small_wrap (show j<=100000 by omega),fin]
theorem cf_l0 (N:Nat) (hN:200<=N) (n:Nat) (hn:n<=8) (k:Nat) (hk:k<=3):∀q i f,i+q=k->q<f ->
  q49q_l0 N f ((n:Int),(k:Int),confL n i,(i:Int),())=some (.inl (confL n k,())):=by
 intro q
 induction q with
 | zero=>
  intro i f e1 e2
  obtain ⟨f,rfl⟩:∃m,f=m+1:=⟨f-1,by omega⟩
  have e:i=k:=by omega
  subst e
  show q49q_l0_r _ _ _=_
  unfold q49q_l0_r
  simp only [lt_not,Bool.false_eq_true,if_false]
 | succ q ih=>
  intro i f e1 e2
  obtain ⟨f,rfl⟩:∃m,f=m+1:=⟨f-1,by omega⟩
  have hi:i<k:=by omega
  have h120:=confL_120 hn (show i<=3 by omega)
  have hin:=cf_l2 N (by omega) n hn (k:Int) i (by omega) (confL n i) h120 (fun l hl=>⟨confL_len hl,conf_last hl⟩) (confL n i).length 0 N [] (by omega) (by omega) (by simp;omega)
  simp only [Int.natCast_zero,List.drop_zero,List.nil_append] at hin
  show q49q_l0_r _ _ _=_
  unfold q49q_l0_r
  simp only [lt_dec hi,if_true,hin,Option.bind_some,small_wrap (show i<=100000 by omega),<- confL_succ]
  exact ih (i+1) f (by omega) (by omega)
theorem conf_parts {d:Int×Int×Unit} {r} (h:G_configs d=some r):∃n k:Nat,n<=8/\k<=3/\d=((n:Int),(k:Int),())/\r=(confL n k,()):=by
 obtain ⟨n,k,_⟩:=d
 unfold G_configs at h
 split at h
 ·rename_i hc
  simp only [Bool.and_eq_true] at hc
  have h1:=inB_iff.1 hc.1
  have h2:=inB_iff.1 hc.2
  have h:=Option.some.inj h
  subst h
  refine ⟨n.toNat,k.toNat,by omega,by omega,?_,rfl⟩
  rw [show ((n.toNat:Nat):Int)=n by omega,show ((k.toNat:Nat):Int)=k by omega]
 ·cases h
theorem l4Configs_lim (d) (r) (h:G_configs d=some r):∃N,F_q49q N d=some r:=by
 obtain ⟨n,k,hn,hk,rfl,rfl⟩:=conf_parts h
 refine ⟨200,?_⟩
 have:=cf_l0 200 (by omega) n hn k hk k 0 200 (by omega) (by omega)
 unfold F_q49q
 simp only [Int.natCast_zero] at this
 have e:confL n 0=[[]]:=rfl
 rw [e] at this
 simp only [this,Option.bind_some]
theorem cl_l4 (N n:Nat) (hn:n<=8) (l:List Int) (hlen:l.length<=1000) (a b:Int) (now:List (List Int)) (c e:Int):∀q x f (next:List (List Int)),x+q=n->q<f->next.length+q<=1000 ->
  q52q_l4 N f ((n:Int),next,l,(x:Int),a,b,now,c,e,())=some (.inl ((n:Int),next++(upTo x n).map (fun x=>l++[x]),a,b,now,c,e,())):=by
 intro q
 induction q with
 | zero=>
  intro x f next e1 e2 e3
  obtain ⟨f,rfl⟩:∃m,f=m+1:=⟨f-1,by omega⟩
  have e:x=n:=by omega
  subst e
  rw [upTo_nil]
  show q52q_l4_r _ _ _=_
  unfold q52q_l4_r
  simp only [lt_not,Bool.false_eq_true,if_false,List.map_nil,List.append_nil]
 | succ q ih=>
  intro x f next e1 e2 e3
  obtain ⟨f,rfl⟩:∃m,f=m+1:=⟨f-1,by omega⟩
  have hx:x<n:=by omega
  have c0:okL l=true:=okL_of (by omega)
  have c1:decide (l.length+List.length [(x:Int)]<=lim)=true:=by unfold lim;simp;omega
  have c2:decide (next.length+List.length [l++[(x:Int)]]<=lim)=true:=by unfold lim;simp;omega
  show q52q_l4_r _ _ _=_
  unfold q52q_l4_r
  simp only [lt_dec hx,if_true,G_toIntS,c0,Option.bind_some,c1,c2,wrap8 hx hn]
  rw [ih (x+1) f _ (by omega) (by omega) (by simp;omega),upTo_cons hx,List.map_cons,List.append_assoc,List.singleton_append]
theorem cl_l2 (N:Nat) (hN:10<=N) (n:Nat) (hn:n<=8) (a b:Int) (now:List (List Int)) (hnow:now.length<=120) (hle:∀l∈now,l.length<=3/\0<=l.getLastD 0/\l.getLastD 0<=(n:Int)):∀q j f (next:List (List Int)),j+q=now.length->q<f->next.length+8*q<=990 ->
  q52q_l2 N f ((n:Int),next,a,b,now,(now.length:Int),(j:Int),())=some (.inl ((n:Int),next++(now.drop j).flatMap (growL n),a,b,())):=by
 intro q
 induction q with
 | zero=>
  intro j f next e1 e2 e3
  obtain ⟨f,rfl⟩:∃m,f=m+1:=⟨f-1,by omega⟩
  have e:j=now.length:=by omega
  subst e
  rw [List.drop_of_length_le (Nat.le_refl _)]
  show q52q_l2_r _ _ _=_
  unfold q52q_l2_r
  simp only [lt_not,Bool.false_eq_true,if_false,List.flatMap_nil,List.append_nil]
 | succ q ih=>
  intro j f next e1 e2 e3
  obtain ⟨f,rfl⟩:∃m,f=m+1:=⟨f-1,by omega⟩
  have hj:j<now.length:=by omega
  obtain ⟨h1,h2,h3⟩:=hle _ (List.getElem_mem hj)
  have ej:at_ K_Si now j=now[j]:=at_get (e:=K_Si) hj
  have hin:=cl_l4 N n hn now[j] (by omega) a b now (now.length:Int) (j:Int) (n-(now[j].getLastD 0).toNat) (now[j].getLastD 0).toNat N next (by omega) (by omega) (by omega)
  have e4:(((now[j].getLastD 0).toNat:Nat):Int)=now[j].getLastD 0:=by omega
  rw [e4] at hin
  have hg:(upTo (now[j].getLastD 0).toNat n).map (fun x=>now[j]++[x])=growL n now[j]:=rfl
  rw [hg] at hin
  have hgl:=growL_len n now[j]
  have fin:=ih (j+1) f (next++growL n now[j]) (by omega) (by omega) (by simp;omega)
  rw [List.append_assoc,<- List.flatMap_cons,<- List.drop_eq_getElem_cons hj] at fin
  show q52q_l2_r _ _ _=_
  unfold q52q_l2_r
  by_cases hi:0<now[j].length
  ·have hp:decide ((now[j].length:Int)>0)=true:=by simp;omega
   have hw:IntKind.wrap .i64 ((now[j].length:Int)-1)=((now[j].length-1:Nat):Int):=wrap_down hi (by unfold maxLen;omega)
   have hx:idxIn ((now[j].length-1:Nat):Int) now[j].length=true:=idxIn_nat (by omega)
   simp only [lt_dec hj,if_true,idxIn_nat hj,Int.toNat_natCast,ej,hp,hw,hx,last_at hi,hin,Option.bind_some,small_wrap (show j<=100000 by omega),fin]
  ·have hp:decide ((now[j].length:Int)>0)=false:=decide_eq_false (by omega)
   have hl:now[j].getLastD 0=0:=by
    have:now[j]=[]:=List.length_eq_zero_iff.1 (by omega)
    rw [this]
    rfl
   rw [hl] at hin
   simp only [lt_dec hj,if_true,idxIn_nat hj,Int.toNat_natCast,ej,hp,Bool.false_eq_true,if_false,hin,Option.bind_some,small_wrap (show j<=100000 by omega),fin]
theorem cl_l0 (N:Nat) (hN:200<=N) (n:Nat) (hn:n<=8) (k:Nat) (hk:k<=3):∀q i f,i+q=k->q<f ->
  q52q_l0 N f ((n:Int),confL n i,(k:Int),(i:Int),())=some (.inl (confL n k,())):=by
 intro q
 induction q with
 | zero=>
  intro i f e1 e2
  obtain ⟨f,rfl⟩:∃m,f=m+1:=⟨f-1,by omega⟩
  have e:i=k:=by omega
  subst e
  show q52q_l0_r _ _ _=_
  unfold q52q_l0_r
  simp only [lt_not,Bool.false_eq_true,if_false]
 | succ q ih=>
  intro i f e1 e2
  obtain ⟨f,rfl⟩:∃m,f=m+1:=⟨f-1,by omega⟩
  have hi:i<k:=by omega
  have h120:=confL_120 hn (show i<=3 by omega)
  have hin:=cl_l2 N (by omega) n hn (k:Int) (i:Int) (confL n i) h120 (fun l hl=>⟨by rw [confL_len hl];omega,conf_last hl⟩) (confL n i).length 0 N [] (by omega) (by omega) (by simp;omega)
  simp only [Int.natCast_zero,List.drop_zero,List.nil_append] at hin
  show q52q_l0_r _ _ _=_
  unfold q52q_l0_r
  simp only [lt_dec hi,if_true,hin,Option.bind_some,small_wrap (show i<=100000 by omega),<- confL_succ]
  exact ih (i+1) f (by omega) (by omega)
theorem copLists_lim (d) (r) (h:G_configs d=some r):∃N,F_q52q N d=some r:=by
 obtain ⟨n,k,hn,hk,rfl,rfl⟩:=conf_parts h
 refine ⟨200,?_⟩
 have:=cl_l0 200 (by omega) n hn k hk k 0 200 (by omega) (by omega)
 unfold F_q52q
 simp only [Int.natCast_zero] at this
 have e:confL n 0=[[]]:=rfl
 rw [e] at this
 simp only [this,Option.bind_some]
theorem mid_eq {i j:Nat} (h:i+j<=100000):IntKind.wrap .i64 (shr .u64 (IntKind.wrap .u64 (IntKind.wrap .i64 ((i:Int)+(j:Int)))) (1:Int))=(((i+j) / 2:Nat):Int):=by
 have e1:IntKind.wrap .i64 ((i:Int)+(j:Int))=((i+j:Nat):Int):=by
  rw [wrap_in _ (by omega) (by omega)]
  omega
 have e2:IntKind.wrap .u64 ((i+j:Nat):Int)=((i+j:Nat):Int):=Go.IntWalk.u64_in _ (by omega)
 have e3:shr .u64 ((i+j:Nat):Int) 1=(((i+j) / 2:Nat):Int):=by
  show ((i+j:Nat):Int).fdiv 2=_
  rw [Int.fdiv_eq_ediv_of_nonneg _ (by omega)]
  omega
 rw [e1,e2,e3]
 exact wrap_in _ (by omega) (by omega)
theorem bs_l0 (N:Nat) (cf:List (List Int)) (hr:cf.Pairwise ltL) (h1000:cf.length<=1000) (hok:okLL cf=true) (c:List Int) (hc:okL c=true) (p:Nat) (hp:p<cf.length) (hpc:cf[p]=c) (n:Int) (u:Unit×Unit):∀q i j f,i+q=j->i<=p->p<=j->j<=cf.length->q<f ->
  q0q_l0 N f (cf,c,u,n,(i:Int),(j:Int),())=some (.inl (cf,c,u,n,(p:Int),())):=by
 have hrise:=List.pairwise_iff_getElem.1 hr
 intro q
 induction q using Nat.strongRecOn with
 | ind q ih=>
  intro i j f e1 e2 e3 e4 e5
  obtain ⟨f,rfl⟩:∃m,f=m+1:=⟨f-1,by omega⟩
  by_cases hij:i<j
  ·have hm:(i+j) / 2<cf.length:=by omega
   have em:at_ K_Si cf ((i+j) / 2)=cf[(i+j) / 2]:=at_get (e:=K_Si) hm
   have hokm:okL cf[(i+j) / 2]=true:=by
    unfold okLL at hok
    rw [Bool.and_eq_true] at hok
    exact List.all_eq_true.1 hok.2 _ (List.getElem_mem hm)
   have hcmp:FV_q10q (cf[(i+j) / 2],c,u,())=some (cmpL cf[(i+j) / 2] c,()):=by
    unfold FV_q10q G_compare
    simp only [hokm,hc,Bool.and_self,if_true]
   have h01:decide ((0:Int)<=1)=true:=by decide
   show q0q_l0_r _ _ _=_
   unfold q0q_l0_r
   simp only [lt_dec hij,if_true,h01,mid_eq (show i+j<=100000 by omega),idxIn_nat hm,Int.toNat_natCast,em,hcmp,Option.bind_some]
   by_cases hlt:cmpL cf[(i+j) / 2] c<0
   ·have hpm:(i+j) / 2<p:=by
     rcases Nat.lt_trichotomy ((i+j) / 2) p with h | h | h
     ·exact h
     ·subst h
      rw [hpc,cmpL_self] at hlt
      omega
     ·have:=hrise p ((i+j) / 2) hp hm h
      rw [hpc] at this
      exact absurd (ltL_trans this hlt) (ltL_irr c)
    simp only [hlt,decide_true,if_true,small_wrap (show (i+j) / 2<=100000 by omega)]
    exact ih (j-((i+j) / 2+1)) (by omega) ((i+j) / 2+1) j f (by omega) (by omega) e3 e4 (by omega)
   ·have hpm:p<=(i+j) / 2:=by
     rcases Nat.lt_or_ge ((i+j) / 2) p with h | h
     ·have:=hrise ((i+j) / 2) p hm hp h
      rw [hpc] at this
      exact absurd this hlt
     ·exact h
    simp only [hlt,decide_false,Bool.false_eq_true,if_false]
    exact ih ((i+j) / 2-i) (by omega) i ((i+j) / 2) f (by omega) e2 hpm (by omega) (by omega)
  ·have e:i=j:=by omega
   subst e
   have e:i=p:=by omega
   subst e
   show q0q_l0_r _ _ _=_
   unfold q0q_l0_r
   simp only [lt_not,Bool.false_eq_true,if_false]
theorem binSearch_lim (d) (r) (h:G_bin d=some r):∃N,F_q0q N d=some r:=by
 obtain ⟨cf,c,u,_⟩:=d
 unfold G_bin at h
 split at h
 ·rename_i hc
  simp only [Bool.and_eq_true,decide_eq_true_eq] at hc
  obtain ⟨⟨⟨⟨h1,h2⟩,h3⟩,h4⟩,h5⟩:=hc
  have h:=Option.some.inj h
  subst h
  obtain ⟨p,p1,p2,p3⟩:=place_at (memB_iff.1 h5)
  have p4:cf[p]=c:=by
   rw [List.getD_eq_getElem?_getD,List.getElem?_eq_getElem p1] at p3
   simpa using p3
  refine ⟨2000,?_⟩
  have hl:=bs_l0 2000 cf (riseB_iff.1 h4) h1 h2 c h3 p p1 p4 (cf.length:Int) ((),()) cf.length 0 cf.length 2000 (by omega) (by omega) (by omega) (by omega) (by omega)
  have ep:at_ K_Si cf p=cf[p]:=at_get (e:=K_Si) p1
  have hokm:okL cf[p]=true:=by rw [p4];exact h3
  have hcmp:FV_q10q (cf[p],c,((),()),())=some (0,()):=by
   unfold FV_q10q G_compare
   simp only [hokm,h3,Bool.and_self,if_true,p4,cmpL_self]
  unfold F_q0q
  simp only [Int.natCast_zero] at hl
  simp only [hl,Option.bind_some,lt_dec p1,if_true,idxIn_nat p1,Int.toNat_natCast,ep,hcmp,p2,beq_self_eq_true]
 ·cases h
end Go.V.W
namespace Go.V.W
open Go.Proofs
theorem at_place {cf:List (List Int)} (h:okLL cf=true) (c:List Int):G_l4At (cf,c,())=some (placeL cf c,()):=by
 unfold G_l4At
 simp only [h,if_true]
 rfl
theorem mk_l2 (N:Nat) (g:Gr) (z y:Gm) (cf:List (List Int)) (hy:y.1=cf) (hok:okLL cf=true) (i:Int) (L:List (List Int)) (hL:L.length<=512):∀q j f (acc:List Int),j+q=L.length->q<f->acc.length+q<=1000 ->
  q81q_l2 N f (g,z,y,i,L,acc,(j:Int),())=some (.inl (g,z,y,i,acc++(L.drop j).map (placeL cf),())):=by
 intro q
 induction q with
 | zero=>
  intro j f acc e1 e2 e3
  obtain ⟨f,rfl⟩:∃m,f=m+1:=⟨f-1,by omega⟩
  have e:j=L.length:=by omega
  subst e
  rw [List.drop_of_length_le (Nat.le_refl _)]
  show q81q_l2_r _ _ _=_
  unfold q81q_l2_r
  simp only [lt_not,Bool.false_eq_true,if_false,List.map_nil,List.append_nil]
 | succ q ih=>
  intro j f acc e1 e2 e3
  obtain ⟨f,rfl⟩:∃m,f=m+1:=⟨f-1,by omega⟩
  have hj:j<L.length:=by omega
  have ej:at_ K_Si L j=L[j]:=at_get (e:=K_Si) hj
  have c1:decide (acc.length+List.length [placeL cf L[j]]<=lim)=true:=by unfold lim;simp;omega
  show q81q_l2_r _ _ _=_
  unfold q81q_l2_r
  simp only [lt_dec hj,if_true,idxIn_nat hj,Int.toNat_natCast,ej,hy,at_place hok,Option.bind_some,c1,small_wrap (show j<=100000 by omega)]
  rw [ih (j+1) f _ (by omega) (by omega) (by simp;omega),List.drop_eq_getElem_cons hj,List.map_cons,List.append_assoc,List.singleton_append]
theorem conf_nodes {n k:Nat} (hk:k<=3) {c:List Int} (h:c∈confL n k):nodesB (n:Int) c=true:=by
 obtain ⟨h1,h2⟩:=confL_mem.1 h
 exact cops_nodes h2 (by omega)
theorem mk_l0 (N:Nat) (hN:1000<=N) (g:Gr) (hG:grB g=true) (z:Gm) (k:Nat) (hk:k<=3):∀q i f (acc:List (List Int)),i+q=(confL g.1.toNat k).length->q<f->acc.length+q<=1000 ->
  q81q_l0 N f (g,z,(confL g.1.toNat k,acc,[],()),(i:Int),())=some (.inl (g,z,(confL g.1.toNat k,acc++((confL g.1.toNat k).drop i).map (fun c=>(movesL (ballF g.1.toNat g.2.1) c).map (placeL (confL g.1.toNat k))),[],()),())):=by
 obtain ⟨g1,g2,g3,g4⟩:=grB_parts hG
 have h120:=confL_120 g3 hk
 have hok:=okLL_conf g3 hk
 intro q
 induction q with
 | zero=>
  intro i f acc e1 e2 e3
  obtain ⟨f,rfl⟩:∃m,f=m+1:=⟨f-1,by omega⟩
  have e:i=(confL g.1.toNat k).length:=by omega
  subst e
  rw [List.drop_of_length_le (Nat.le_refl _)]
  show q81q_l0_r _ _ _=_
  unfold q81q_l0_r
  simp only [lt_not,Bool.false_eq_true,if_false,List.map_nil,List.append_nil]
 | succ q ih=>
  intro i f acc e1 e2 e3
  obtain ⟨f,rfl⟩:∃m,f=m+1:=⟨f-1,by omega⟩
  have hi:i<(confL g.1.toNat k).length:=by omega
  have ei:at_ K_Si (confL g.1.toNat k) i=(confL g.1.toNat k)[i]:=at_get (e:=K_Si) hi
  have hnb:=conf_nodes hk (List.getElem_mem hi)
  have hnb2:nodesB g.1 (confL g.1.toNat k)[i]=true:=by
   rw [<- g2] at hnb
   exact hnb
  have hmv:G_l4Moves (g,(confL g.1.toNat k)[i],())=some (movesL (ballF g.1.toNat g.2.1) (confL g.1.toNat k)[i],()):=by
   unfold G_l4Moves
   simp only [hG,hnb2,Bool.and_self,if_true]
  obtain ⟨n1,n2⟩:=nodes_parts hnb
  have hml:=moves_len (ball:=ballF g.1.toNat g.2.1) n1 (fun c hc=>by have:=ballF_len g.1.toNat g.2.1 c;omega)
  have hin:=mk_l2 N g z (confL g.1.toNat k,acc,[],()) (confL g.1.toNat k) rfl hok (i:Int) (movesL (ballF g.1.toNat g.2.1) (confL g.1.toNat k)[i]) hml (movesL (ballF g.1.toNat g.2.1) (confL g.1.toNat k)[i]).length 0 N [] (by omega) (by omega) (by simp;omega)
  simp only [Int.natCast_zero,List.drop_zero,List.nil_append] at hin
  have c1:∀l:List Int,decide (acc.length+List.length [l]<=lim)=true:=fun l=>by unfold lim;simp;omega
  show q81q_l0_r _ _ _=_
  unfold q81q_l0_r
  simp only [lt_dec hi,if_true,idxIn_nat hi,Int.toNat_natCast,ei,hmv,Option.bind_some,hin,c1,small_wrap (show i<=100000 by omega)]
  rw [ih (i+1) f _ (by omega) (by omega) (by simp;omega),List.drop_eq_getElem_cons hi,List.map_cons,List.append_assoc,List.singleton_append]
theorem mk_l4 (N:Nat) (g:Gr) (hG:grB g=true) (z:Gm) (cf mv:List (List Int)):∀q x f (acc:List (List Int)),x+q=g.1.toNat->q<f->acc.length+q<=1000 ->
  q81q_l4 N f (g,z,(cf,mv,acc,()),(x:Int),())=some (.inl (z,(cf,mv,acc++(List.range' x q).map (fun y:Nat=>ballF g.1.toNat g.2.1 (y:Int)),()),())):=by
 obtain ⟨g1,g2,g3,g4⟩:=grB_parts hG
 intro q
 induction q with
 | zero=>
  intro x f acc e1 e2 e3
  obtain ⟨f,rfl⟩:∃m,f=m+1:=⟨f-1,by omega⟩
  have e:x=g.1.toNat:=by omega
  have hlt:decide ((x:Int)<g.1)=false:=decide_eq_false (by omega)
  show q81q_l4_r _ _ _=_
  unfold q81q_l4_r
  simp only [hlt,Bool.false_eq_true,if_false,List.range'_zero,List.map_nil,List.append_nil]
 | succ q ih=>
  intro x f acc e1 e2 e3
  obtain ⟨f,rfl⟩:∃m,f=m+1:=⟨f-1,by omega⟩
  have hlt:decide ((x:Int)<g.1)=true:=decide_eq_true (by omega)
  have c1:∀l:List Int,decide (acc.length+List.length [l]<=lim)=true:=fun l=>by unfold lim;simp;omega
  show q81q_l4_r _ _ _=_
  unfold q81q_l4_r
  simp only [hlt,if_true,ball_some hG (show x<g.1.toNat by omega),Option.bind_some,c1,small_wrap (show x<=100000 by omega)]
  rw [ih (x+1) f _ (by omega) (by omega) (by simp;omega),List.range'_succ,List.map_cons,List.append_assoc,List.singleton_append]
theorem l4Make_lim (d) (r) (h:G_l4Make d=some r):∃N,F_q81q N d=some r:=by
 obtain ⟨g,k,_⟩:=d
 unfold G_l4Make at h
 split at h
 ·rename_i hc
  simp only [Bool.and_eq_true] at hc
  obtain ⟨hG,hk⟩:=hc
  have hk2:=inB_iff.1 hk
  obtain ⟨g1,g2,g3,g4⟩:=grB_parts hG
  have h:=Option.some.inj h
  subst h
  refine ⟨1000,?_⟩
  have h120:=confL_120 g3 (show k.toNat<=3 by omega)
  have hcf:G_configs (g.1,k,())=some (confL g.1.toNat k.toNat,()):=by
   unfold G_configs
   have i1:inB 0 8 g.1=true:=inB_iff.2 (by omega)
   simp only [i1,hk,Bool.and_self,if_true]
  have h0:=mk_l0 1000 (by omega) g hG ([],[],[],()) k.toNat (by omega) (confL g.1.toNat k.toNat).length 0 1000 [] (by omega) (by omega) (by simp;omega)
  simp only [Int.natCast_zero,List.drop_zero,List.nil_append] at h0
  have h4:=mk_l4 1000 g hG ([],[],[],()) (confL g.1.toNat k.toNat) ((confL g.1.toNat k.toNat).map (fun c=>(movesL (ballF g.1.toNat g.2.1) c).map (placeL (confL g.1.toNat k.toNat)))) g.1.toNat 0 1000 [] (by omega) (by omega) (by simp;omega)
  simp only [Int.natCast_zero,List.nil_append,<- List.range_eq_range'] at h4
  unfold F_q81q
  simp only [hcf,Option.bind_some,h0,h4]
  rfl
 ·cases h
theorem place_some {cf:List (List Int)} (h1:cf.length<=120) (h2:okLL cf=true) (h3:cf.Pairwise ltL) {c:List Int} (hm:c∈cf) (net:Nt) (mv:List (List Int)) (T:Tab) (u v:Unit):F_q26q 0 ((net,cf,mv,T,u),c,v)=some (placeL cf c,()):=by
 unfold F_q26q G_bin
 have a1:decide (cf.length<=1000)=true:=decide_eq_true (by omega)
 have a2:okL c=true:=List.all_eq_true.1 (okLL_of h2).2 c hm
 simp only [a1,h2,a2,riseB_iff.2 h3,memB_iff.2 hm,Bool.and_self,if_true,Option.bind_some]
theorem cb_l2 (N:Nat) (w:Nt) (cf:List (List Int)) (h1:cf.length<=120) (h2:okLL cf=true) (h3:cf.Pairwise ltL) (net:Nt) (mv:List (List Int)) (T:Tab) (u:Unit) (a:List (List Int)) (b c:Int) (L:List (List Int)) (hL:L.length<=512) (hLm:∀m∈L,m∈cf):∀q j f (acc:List Int),j+q=L.length->q<f->acc.length+q<=1000 ->
  q31q_l2 N f (w,(net,cf,mv,T,u),acc,a,b,c,L,(L.length:Int),(j:Int),())=some (.inl (w,(net,cf,mv,T,u),acc++(L.drop j).map (placeL cf),a,b,c,())):=by
 intro q
 induction q with
 | zero=>
  intro j f acc e1 e2 e3
  obtain ⟨f,rfl⟩:∃m,f=m+1:=⟨f-1,by omega⟩
  have e:j=L.length:=by omega
  subst e
  rw [List.drop_of_length_le (Nat.le_refl _)]
  show q31q_l2_r _ _ _=_
  unfold q31q_l2_r
  simp only [lt_not,Bool.false_eq_true,if_false,List.map_nil,List.append_nil]
 | succ q ih=>
  intro j f acc e1 e2 e3
  obtain ⟨f,rfl⟩:∃m,f=m+1:=⟨f-1,by omega⟩
  have hj:j<L.length:=by omega
  have ej:at_ K_Si L j=L[j]:=at_get (e:=K_Si) hj
  have c1:decide (acc.length+List.length [placeL cf L[j]]<=lim)=true:=by unfold lim;simp;omega
  show q31q_l2_r _ _ _=_
  unfold q31q_l2_r
  simp only [lt_dec hj,if_true,idxIn_nat hj,Int.toNat_natCast,ej,place_some h1 h2 h3 (hLm _ (List.getElem_mem hj)),Option.bind_some,c1,small_wrap (show j<=100000 by omega)]
  rw [ih (j+1) f _ (by omega) (by omega) (by simp;omega),List.drop_eq_getElem_cons hj,List.map_cons,List.append_assoc,List.singleton_append]
theorem ballM_in {l:List Int} (h:netB l=true) {x:Nat} (hx:x<l.length):∀y∈ballM l (x:Int),inB 0 ((l.length:Int)-1) y=true:=fun y hy=>by
 obtain ⟨z,hz,rfl⟩:=ballM_ok h x hx y hy
 exact inB_iff.2 (by omega)
theorem ballF_in {n:Nat} (es:List E) (x:Int):∀y∈ballF n es x,inB 0 ((n:Int)-1) y=true:=fun y hy=>by
 obtain ⟨z,hz,rfl⟩:=setF_nat y hy
 exact inB_iff.2 (by omega)
theorem conf_moves {l:List Int} (h:netB l=true) {k:Nat} {c:List Int} (hc:c∈confL l.length k):∀m∈movesL (ballM l) c,m∈confL l.length k:=by
 obtain ⟨h1,h2⟩:=confL_mem.1 hc
 have h3:=copsB_in h2
 intro m hm
 have:=moves_mem (n:=l.length) (fun x _=>ballM_len l x) (fun x hx=>by
  have:=inB_iff.1 (h3 x hx)
  have e:x=((x.toNat:Nat):Int):=by omega
  rw [e]
  exact ballM_in h (by omega)) hm
 rw [h1] at this
 exact this
theorem cb_l0 (N:Nat) (hN:1000<=N) (l:List Int) (hl:netB l=true) (v:Unit) (k:Nat) (hk:k<=3) (T:Tab) (u:Unit):∀q i f (acc:List (List Int)),i+q=(confL l.length k).length->q<f->acc.length+q<=1000 ->
  q31q_l0 N f ((l,v),((l,v),confL l.length k,acc,T,u),confL l.length k,((confL l.length k).length:Int),(i:Int),())=some (.inl (((l,v),confL l.length k,acc++((confL l.length k).drop i).map (fun c=>(movesL (ballM l) c).map (placeL (confL l.length k))),T,u),())):=by
 obtain ⟨p1,p2,p3,p4⟩:=netB_parts hl
 have h120:=confL_120 p3 hk
 have hok:=okLL_conf p3 hk
 have hrise:=confL_rise l.length k
 intro q
 induction q with
 | zero=>
  intro i f acc e1 e2 e3
  obtain ⟨f,rfl⟩:∃m,f=m+1:=⟨f-1,by omega⟩
  have e:i=(confL l.length k).length:=by omega
  subst e
  rw [List.drop_of_length_le (Nat.le_refl _)]
  show q31q_l0_r _ _ _=_
  unfold q31q_l0_r
  simp only [lt_not,Bool.false_eq_true,if_false,List.map_nil,List.append_nil]
 | succ q ih=>
  intro i f acc e1 e2 e3
  obtain ⟨f,rfl⟩:∃m,f=m+1:=⟨f-1,by omega⟩
  have hi:i<(confL l.length k).length:=by omega
  have ei:at_ K_Si (confL l.length k) i=(confL l.length k)[i]:=at_get (e:=K_Si) hi
  have hnb:=conf_nodes hk (List.getElem_mem hi)
  have hmv:G_copMoves ((l,v),(confL l.length k)[i],())=some (movesL (ballM l) (confL l.length k)[i],()):=by
   unfold G_copMoves
   simp only [hl,hnb,Bool.and_self,if_true]
  obtain ⟨n1,n2⟩:=nodes_parts hnb
  have hml:=moves_len (ball:=ballM l) n1 (fun c hc=>ballM_len l c)
  have hin:=cb_l2 N (l,v) (confL l.length k) h120 hok hrise (l,v) acc T u (confL l.length k) ((confL l.length k).length:Int) (i:Int) (movesL (ballM l) (confL l.length k)[i]) hml (conf_moves hl (List.getElem_mem hi)) (movesL (ballM l) (confL l.length k)[i]).length 0 N [] (by omega) (by omega) (by simp;omega)
  simp only [Int.natCast_zero,List.drop_zero,List.nil_append] at hin
  have c1:∀x:List Int,decide (acc.length+List.length [x]<=lim)=true:=fun x=>by unfold lim;simp;omega
  show q31q_l0_r _ _ _=_
  unfold q31q_l0_r
  simp only [lt_dec hi,if_true,idxIn_nat hi,Int.toNat_natCast,ei,hmv,Option.bind_some,hin,c1,small_wrap (show i<=100000 by omega)]
  rw [ih (i+1) f _ (by omega) (by omega) (by simp;omega),List.drop_eq_getElem_cons hi,List.map_cons,List.append_assoc,List.singleton_append]
theorem copBoard_lim (d) (r) (h:G_copBoard d=some r):∃N,F_q31q N d=some r:=by
 obtain ⟨⟨l,v⟩,k,_⟩:=d
 unfold G_copBoard at h
 split at h
 ·rename_i hc
  simp only [Bool.and_eq_true] at hc
  obtain ⟨hl,hk⟩:=hc
  have hk2:=inB_iff.1 hk
  obtain ⟨p1,p2,p3,p4⟩:=netB_parts hl
  have h:=Option.some.inj h
  subst h
  refine ⟨1000,?_⟩
  have h120:=confL_120 p3 (show k.toNat<=3 by omega)
  have hcf:G_configs ((l.length:Int),k,())=some (confL l.length k.toNat,()):=by
   unfold G_configs
   have i1:inB 0 8 (l.length:Int)=true:=inB_iff.2 (by omega)
   simp only [i1,hk,Bool.and_self,if_true,Int.toNat_natCast]
  have h0:=cb_l0 1000 (by omega) l hl v k.toNat (by omega) [] () (confL l.length k.toNat).length 0 1000 [] (by omega) (by omega) (by simp;omega)
  simp only [Int.natCast_zero,List.drop_zero,List.nil_append] at h0
  unfold F_q31q g_q53q
  simp only [hcf,Option.bind_some,h0]
  rfl
 ·cases h
end Go.V.W
namespace Go.V.W
open Go.Proofs
theorem tabM_len (m n:Nat) (f:Nat->Nat->Int):(tabM m n f).length=m:=by simp [tabM]
theorem tabM_row {m n c:Nat} (f:Nat->Nat->Int) (h:c<m):(tabM m n f)[c]? = some ((List.range n).map fun x=>f c x):=by
 unfold tabM
 rw [List.getElem?_map,List.getElem?_range h]
 rfl
theorem tab2_tabM {m n c x:Nat} (f:Nat->Nat->Int) (hc:c<m) (hx:x<n):tab2 (tabM m n f) (c:Int) (x:Int)=f c x:=by
 unfold tab2
 simp only [Int.toNat_natCast,List.getD_eq_getElem?_getD,tabM_row f hc,Option.getD_some,rowR_get _ hx]
theorem tabM_congr {m n:Nat} {f g:Nat->Nat->Int} (h:∀c x,c<m->x<n->f c x=g c x):tabM m n f=tabM m n g:=by
 unfold tabM
 refine List.map_congr_left fun c hc=>List.map_congr_left fun x hx=>h c x (List.mem_range.1 hc) (List.mem_range.1 hx)
theorem rcB_parts {m n:Nat} {T:Tab} (h:rcB m n T=true):T.length=m /\ ∀c,c<m->(at_ K_Si T c).length=n:=by
 unfold rcB at h
 simp only [Bool.and_eq_true,decide_eq_true_eq,List.all_eq_true] at h
 refine ⟨h.1,fun c hc => ?_⟩
 have hlt:c<T.length:=by omega
 have e:at_ K_Si T c=T[c]:=at_get (e:=K_Si) hlt
 rw [e]
 exact h.2 _ (List.getElem_mem hlt)
theorem tab2_rc {m n:Nat} {T:Tab} (h:rcB m n T=true) {c x:Nat} (hc:c<m) (hx:x<n):at_ I (at_ K_Si T c) x=tab2 T (c:Int) (x:Int):=by
 obtain ⟨h1,h2⟩:=rcB_parts h
 have hlt:c<T.length:=by omega
 have e:at_ K_Si T c=T[c]:=at_get (e:=K_Si) hlt
 have h3:=h2 c hc
 rw [e] at h3 |-
 have e2:at_ I T[c] x=T[c][x]:=at_get (e:=I) (by omega)
 rw [e2]
 unfold tab2
 simp only [Int.toNat_natCast,List.getD_eq_getElem?_getD,List.getElem?_eq_getElem hlt,Option.getD_some]
 rw [List.getElem?_eq_getElem (by omega)]
 rfl
theorem rc_tabM (m n:Nat) (f:Nat->Nat->Int):rcB m n (tabM m n f)=true:=by
 unfold rcB tabM
 simp
theorem row_rc {m n:Nat} {T:Tab} (h:rcB m n T=true) {c:Nat} (hc:c<m):at_ K_Si T c=(List.range n).map fun (x:Nat)=>tab2 T (c:Int) (x:Int):=by
 obtain ⟨h1,h2⟩:=rcB_parts h
 have h3:=h2 c hc
 apply List.ext_getElem
 ·simp [h3]
 ·intro i i1 i2
  have hi:i<n:=by omega
  rw [List.getElem_map,List.getElem_range,<- tab2_rc h hc hi]
  exact (at_get (e:=I) i1).symm
theorem tabM_self {m n:Nat} {T:Tab} (h:rcB m n T=true):tabM m n (fun c x=>tab2 T (c:Int) (x:Int))=T:=by
 obtain ⟨h1,h2⟩:=rcB_parts h
 apply List.ext_getElem
 ·rw [tabM_len,h1]
 ·intro c c1 c2
  have hc:c<m:=by omega
  have e:at_ K_Si T c=T[c]:=at_get (e:=K_Si) c2
  rw [<- e,row_rc h hc]
  simp [tabM]
def rowU (n:Nat) (f g:Nat->Int) (x:Nat):List Int:=(List.range n).map fun j=>if j<x then g j else f j
theorem rowU_len (n:Nat) (f g:Nat->Int) (x:Nat):(rowU n f g x).length=n:=by simp [rowU]
theorem rowU_at {n:Nat} {f g:Nat->Int} {x:Nat} (h:x<n):at_ I (rowU n f g x) x=f x:=by
 have:(rowU n f g x)[x]? = some (f x):=by
  unfold rowU
  rw [rowR_get _ h,if_neg (by omega)]
 exact (at_some this).1
theorem rowU_set {n:Nat} {f g:Nat->Int} {x:Nat} {v:Int} (h:x<n) (hv:g x=v):(rowU n f g x).set x v=rowU n f g (x+1):=by
 unfold rowU
 rw [map_set]
 refine List.map_congr_left fun j _ => ?_
 by_cases e:j=x
 ·subst e
  have:j<j+1:=by omega
  simp [this,hv]
 ·by_cases e2:j<x
  ·have:j<x+1:=by omega
   simp [e,e2,this]
  ·have:¬j<x+1:=by omega
   simp [e,e2,this]
theorem rowU_keep {n:Nat} {f g:Nat->Int} {x:Nat} (hv:g x=f x):rowU n f g x=rowU n f g (x+1):=by
 unfold rowU
 refine List.map_congr_left fun j _ => ?_
 by_cases e:j=x
 ·subst e
  have:j<j+1:=by omega
  simp [this,hv]
 ·by_cases e2:j<x
  ·have:j<x+1:=by omega
   simp [e2,this]
  ·have:¬j<x+1:=by omega
   simp [e2,this]
theorem rowU_zero (n:Nat) (f g:Nat->Int):rowU n f g 0=(List.range n).map f:=List.map_congr_left fun j _=>if_neg (by omega)
theorem rowU_full (n:Nat) (f g:Nat->Int):rowU n f g n=(List.range n).map g:=List.map_congr_left fun j hj=>if_pos (List.mem_range.1 hj)
def negsM (m n:Nat) (T:Tab):Nat:=(List.range (m*n)).countP fun i=>decide (tab2 T ((i / n:Nat):Int) ((i % n:Nat):Int)<0)
theorem anyG_spec {cf mv:List (List Int)} {ball:Int->List Int} {n:Nat} {T:Tab}:anyG cf mv ball n T=true ↔ ∃c x,c<cf.length/\x<n/\canG cf mv ball T c x=true:=by
 unfold anyG
 simp only [List.any_eq_true,List.mem_range]
 constructor
 ·rintro ⟨c,hc,r,hr,h⟩
  exact ⟨c,r,hc,hr,h⟩
 ·rintro ⟨c,r,hc,hr,h⟩
  exact ⟨c,hc,r,hr,h⟩
theorem stepG_at {cf mv:List (List Int)} {ball:Int->List Int} {n:Nat} {t:Int} {T:Tab} {c x:Nat} (hc:c<cf.length) (hx:x<n):tab2 (stepG cf mv ball n t T) (c:Int) (x:Int)=if canG cf mv ball T c x=true then t else tab2 T (c:Int) (x:Int):=tab2_tabM _ hc hx
theorem negsM_step {cf mv:List (List Int)} {ball:Int->List Int} {n:Nat} {t:Int} (ht:0<=t) {T:Tab} (h:anyG cf mv ball n T=true):negsM cf.length n (stepG cf mv ball n t T)<negsM cf.length n T:=by
 obtain ⟨c,x,hc,hx,hcan⟩:=anyG_spec.1 h
 have hdiv:∀i,i<cf.length*n->i / n<cf.length/\i % n<n:=fun i hi=>by
  have hn:0<n:=by omega
  exact ⟨(Nat.div_lt_iff_lt_mul hn).2 hi,Nat.mod_lt _ hn⟩
 have hsub:=countP_lt (p:=fun i=>decide (tab2 T ((i / n:Nat):Int) ((i % n:Nat):Int)<0)) (q:=fun i=>decide (tab2 (stepG cf mv ball n t T) ((i / n:Nat):Int) ((i % n:Nat):Int)<0)) (l:=List.range (cf.length*n)) (fun i hi h=>by
  obtain ⟨d1,d2⟩:=hdiv i (List.mem_range.1 hi)
  have h:=of_decide_eq_true h
  rw [stepG_at d1 d2] at h
  split at h
  ·omega
  ·exact decide_eq_true h)
 refine hsub.2 ⟨c*n+x,?_,?_,?_⟩
 ·rw [List.mem_range]
  have:(c+1)*n<=cf.length*n:=Nat.mul_le_mul_right _ hc
  rw [Nat.succ_mul] at this
  omega
 all_goals
  have e1:(c*n+x) / n=c:=by
   rw [Nat.mul_comm,Nat.mul_add_div (by omega),Nat.div_eq_of_lt hx]
   omega
  have e2:(c*n+x) % n=x:=by
   rw [Nat.mul_comm,Nat.mul_add_mod,Nat.mod_eq_of_lt hx]
  simp only [e1,e2]
 ·unfold canG at hcan
  simp only [Bool.and_eq_true] at hcan
  exact hcan.1
 ·rw [stepG_at hc hx,if_pos hcan]
  simpa using ht
theorem negsM_le (m n:Nat) (T:Tab):negsM m n T<=m*n:=by
 unfold negsM
 have:=List.countP_le_length (p:=fun i=>decide (tab2 T ((i / n:Nat):Int) ((i % n:Nat):Int)<0)) (l:=List.range (m*n))
 simpa using this
theorem stepG_none {cf mv:List (List Int)} {ball:Int->List Int} {n:Nat} {t:Int} {T:Tab} (hT:rcB cf.length n T=true) (h:anyG cf mv ball n T=false):stepG cf mv ball n t T=T:=by
 refine Eq.trans (tabM_congr fun c x hc hx=>if_neg fun hh => ?_) (tabM_self hT)
 have:=anyG_spec.2 ⟨c,x,hc,hx,hh⟩
 rw [h] at this
 cases this
theorem gmB_parts {n:Nat} {cf mv:List (List Int)} (h:gmB n cf mv=true):cf.length<=120/\mv.length=cf.length/\(∀c,c<cf.length->(at_ K_Si cf c).length<=3/\cf.getD c []=at_ K_Si cf c /\ ∀x∈at_ K_Si cf c,inB 0 ((n:Int)-1) x=true) /\
  (∀c,c<cf.length->(at_ K_Si mv c).length<=1000/\mv.getD c []=at_ K_Si mv c /\ ∀d∈at_ K_Si mv c,inB 0 ((cf.length:Int)-1) d=true):=by
 unfold gmB at h
 simp only [Bool.and_eq_true,decide_eq_true_eq,List.all_eq_true] at h
 obtain ⟨⟨⟨h1,h2⟩,h3⟩,h4⟩:=h
 refine ⟨h1,h2,fun c hc => ?_,fun c hc => ?_⟩
 ·have e:at_ K_Si cf c=cf[c]:=at_get (e:=K_Si) hc
  have:=h3 _ (List.getElem_mem hc)
  rw [e]
  refine ⟨this.1,?_,this.2⟩
  rw [List.getD_eq_getElem?_getD,List.getElem?_eq_getElem hc]
  rfl
 ·have hc2:c<mv.length:=by omega
  have e:at_ K_Si mv c=mv[c]:=at_get (e:=K_Si) hc2
  have:=h4 _ (List.getElem_mem hc2)
  rw [e]
  refine ⟨this.1,?_,this.2⟩
  rw [List.getD_eq_getElem?_getD,List.getElem?_eq_getElem hc2]
  rfl
theorem blB_parts {bl:List (List Int)} (h:blB bl=true):bl.length<=8 /\ ∀x:Nat,x<bl.length->at_ K_Si bl x=ballA bl (x:Int)/\(ballA bl (x:Int)).length<=8 /\ ∀z∈ballA bl (x:Int),∃y:Nat,y<bl.length/\z=(y:Int):=by
 unfold blB at h
 simp only [Bool.and_eq_true,decide_eq_true_eq,List.all_eq_true] at h
 refine ⟨h.1,fun x hx => ?_⟩
 have e:at_ K_Si bl x=bl[x]:=at_get (e:=K_Si) hx
 have e2:ballA bl (x:Int)=bl[x]:=by
  unfold ballA
  rw [Int.toNat_natCast,List.getD_eq_getElem?_getD,List.getElem?_eq_getElem hx]
  rfl
 have:=h.2 _ (List.getElem_mem hx)
 rw [e,e2]
 refine ⟨rfl,this.1,fun z hz => ?_⟩
 obtain ⟨y,hy,h2⟩:=nodeX (this.2 z hz)
 exact ⟨y,h2,hy⟩
theorem af_l0 (N m n:Nat) (T:Tab) (hT:rcB m n T=true) (c:Nat) (hc:c<m) (ball:List Int) (hb:∀z∈ball,∃y:Nat,y<n/\z=(y:Int)) (hl:ball.length<=1000):∀(k i f:Nat) (s:Int),i+k=ball.length->k<f ->
  q70q_l0 N f (T,(c:Int),s,ball,(i:Int),())=some (.inl (worstL (tab2 T c) (ball.drop i) s,()))\/q70q_l0 N f (T,(c:Int),s,ball,(i:Int),())=some (.inr (.inl (worstL (tab2 T c) (ball.drop i) s,()))):=by
 have hmx:ball.length<=maxLen:=by unfold maxLen;omega
 obtain ⟨t1,t2⟩:=rcB_parts hT
 intro k
 induction k with
 | zero=>
  intro i f m h1 h2
  obtain ⟨f,rfl⟩:∃m,f=m+1:=⟨f-1,by omega⟩
  have e:i=ball.length:=by omega
  subst e
  rw [List.drop_of_length_le (Nat.le_refl _)]
  right
  simp [q70q_l0,q70q_l0_r,worstL]
 | succ k ih=>
  intro i f s h1 h2
  obtain ⟨f,rfl⟩:∃m,f=m+1:=⟨f-1,by omega⟩
  have hi:i<ball.length:=by omega
  obtain ⟨y,hy,ey⟩:=hb ball[i] (List.getElem_mem hi)
  have e:at_ I ball i=(y:Int):=(at_get (e:=I) hi).trans ey
  have i1:idxIn (c:Int) T.length=true:=idxIn_nat (by omega)
  have i2:idxIn (y:Int) (at_ K_Si T c).length=true:=idxIn_nat (by rw [t2 c hc];exact hy)
  have hv:=tab2_rc hT hc hy
  have hd:ball.drop i=(y:Int)::ball.drop (i+1):=by rw [List.drop_eq_getElem_cons hi,ey]
  have step:q70q_l0 N (f+1) (T,(c:Int),s,ball,(i:Int),())=if tab2 T c y<0 then some (.inl (-1,())) else q70q_l0 N f (T,(c:Int),(if s<tab2 T c y then tab2 T c y else s),ball,((i+1:Nat):Int),()):=by
   show q70q_l0_r N (q70q_l0 N f) (T,(c:Int),s,ball,(i:Int),())=_
   unfold q70q_l0_r
   simp only [lt_dec hi,if_true,i1,idxIn_nat hi,Int.toNat_natCast,e,i2,hv,most_eq,wrap_up hi hmx]
   by_cases h:tab2 T c y<0
   ·simp only [h,decide_true,if_true]
   ·simp only [h,decide_false,Bool.false_eq_true,if_false]
  rw [step,hd]
  simp only [worstL]
  by_cases h:tab2 T c y<0
  ·rw [if_pos h,if_pos h]
   exact .inl rfl
  ·rw [if_neg h,if_neg h]
   exact ih (i+1) f _ (by omega) (by omega)
theorem l4After_lim (d) (r) (h:G_l4After d=some r):∃N,F_q70q N d=some r:=by
 obtain ⟨⟨cf,mv,bl,v⟩,T,c,x,_⟩:=d
 unfold G_l4After at h
 split at h
 ·rename_i hc
  simp only [Bool.and_eq_true] at hc
  obtain ⟨⟨⟨⟨hg,hb⟩,hT⟩,hc'⟩,hx'⟩:=hc
  obtain ⟨g1,g2,g3,g4⟩:=gmB_parts hg
  obtain ⟨b1,b2⟩:=blB_parts hb
  obtain ⟨c,rfl,hc⟩:=nodeX hc'
  obtain ⟨x,rfl,hx⟩:=nodeX hx'
  have h:=Option.some.inj h
  subst h
  obtain ⟨x1,x2,x3⟩:=b2 x hx
  obtain ⟨y1,y2,y3⟩:=g3 c hc
  refine ⟨20,?_⟩
  have hl:=af_l0 20 cf.length bl.length T hT c hc (ballA bl (x:Int)) x3 (by omega) (ballA bl (x:Int)).length 0 20 0 (by omega) (by omega)
  simp only [Int.natCast_zero,List.drop_zero] at hl
  unfold F_q70q afterG
  simp only [idxIn_nat hc,idxIn_nat hx,if_true,Int.toNat_natCast,has1 (okL_of (show (at_ K_Si cf c).length<=1048576 by omega)),Option.bind_some,x1,y2]
  by_cases hh:hasL (at_ K_Si cf c) (x:Int)=true
  ·simp only [hh,if_true]
  ·simp only [hh,Bool.false_eq_true,if_false]
   rcases hl with h | h
   ·simp only [h,Option.bind_some]
   ·simp only [h,Option.bind_some]
 ·cases h
theorem afterG_some {cf mv bl:List (List Int)} (hg:gmB bl.length cf mv=true) (hb:blB bl=true) {T:Tab} (hT:rcB cf.length bl.length T=true) {d x:Int} (hd:inB 0 ((cf.length:Int)-1) d=true) (hx:inB 0 ((bl.length:Int)-1) x=true) (v u:Unit):G_l4After ((cf,mv,bl,v),T,d,x,u)=some (afterG cf (ballA bl) T d x,()):=by
 unfold G_l4After
 simp only [hg,hb,hT,hd,hx,Bool.and_self,if_true]
theorem ts_l2 (N:Nat) (cf mv bl:List (List Int)) (hg:gmB bl.length cf mv=true) (hb:blB bl=true) (v:Unit) (T:Tab) (c:Nat) (hc:c<cf.length):∀(k x f:Nat),x+k=bl.length->k<f ->
  q64q_l2 N f ((cf,mv,bl,v),T,(c:Int),(List.range x).map (fun (x:Nat)=>if hasL (cf.getD c []) (x:Int)=true then 0 else -1),(x:Int),())=some (.inl ((cf,mv,bl,v),T,(c:Int),(List.range bl.length).map (fun (x:Nat)=>if hasL (cf.getD c []) (x:Int)=true then 0 else -1),())):=by
 obtain ⟨g1,g2,g3,g4⟩:=gmB_parts hg
 obtain ⟨b1,b2⟩:=blB_parts hb
 obtain ⟨y1,y2,y3⟩:=g3 c hc
 intro k
 induction k with
 | zero=>
  intro x f h1 h2
  obtain ⟨f,rfl⟩:∃m,f=m+1:=⟨f-1,by omega⟩
  have e:x=bl.length:=by omega
  subst e
  show q64q_l2_r _ _ _=_
  unfold q64q_l2_r
  simp only [lt_not,Bool.false_eq_true,if_false]
 | succ k ih=>
  intro x f h1 h2
  obtain ⟨f,rfl⟩:∃m,f=m+1:=⟨f-1,by omega⟩
  have hx:x<bl.length:=by omega
  have hle:∀w:Int,decide (((List.range x).map (fun (x:Nat)=>if hasL (cf.getD c []) (x:Int)=true then (0:Int) else -1)).length+List.length [w]<=lim)=true:=fun w=>by
   unfold lim
   simp
   omega
  have fin:=ih (x+1) f (by omega) (by omega)
  rw [<- range_snoc x (fun (x:Nat)=>if hasL (cf.getD c []) (x:Int)=true then 0 else -1)] at fin
  show q64q_l2_r _ _ _=_
  unfold q64q_l2_r
  simp only [lt_dec hx,if_true,idxIn_nat hc,Int.toNat_natCast,has1 (okL_of (show (at_ K_Si cf c).length<=1048576 by omega)),Option.bind_some,hle,small_wrap (show x<=100000 by omega)]
  by_cases hh:hasL (at_ K_Si cf c) (x:Int)=true
  ·rw [y2,if_pos hh] at fin
   simp only [hh,if_true,y2]
   exact fin
  ·rw [y2,if_neg hh] at fin
   simp only [hh,Bool.false_eq_true,if_false,y2]
   exact fin
theorem ts_l0 (N:Nat) (hN:200<=N) (cf mv bl:List (List Int)) (hg:gmB bl.length cf mv=true) (hb:blB bl=true) (v:Unit):∀(k c f:Nat),c+k=cf.length->k<f ->
  q64q_l0 N f ((cf,mv,bl,v),(List.range c).map (fun c=>(List.range bl.length).map (fun (x:Nat)=>if hasL (cf.getD c []) (x:Int)=true then (0:Int) else -1)),(c:Int),())=some (.inl ((cf,mv,bl,v),startG cf bl.length,())):=by
 obtain ⟨g1,g2,g3,g4⟩:=gmB_parts hg
 obtain ⟨b1,b2⟩:=blB_parts hb
 intro k
 induction k with
 | zero=>
  intro c f h1 h2
  obtain ⟨f,rfl⟩:∃m,f=m+1:=⟨f-1,by omega⟩
  have e:c=cf.length:=by omega
  subst e
  show q64q_l0_r _ _ _=_
  unfold q64q_l0_r
  simp only [lt_not,Bool.false_eq_true,if_false]
  rfl
 | succ k ih=>
  intro c f h1 h2
  obtain ⟨f,rfl⟩:∃m,f=m+1:=⟨f-1,by omega⟩
  have hc:c<cf.length:=by omega
  have hin:=ts_l2 N cf mv bl hg hb v ((List.range c).map (fun c=>(List.range bl.length).map (fun (x:Nat)=>if hasL (cf.getD c []) (x:Int)=true then (0:Int) else -1))) c hc bl.length 0 N (by omega) (by omega)
  simp only [List.range_zero,List.map_nil,Int.natCast_zero] at hin
  have hle:∀w:List Int,decide (((List.range c).map (fun c=>(List.range bl.length).map (fun (x:Nat)=>if hasL (cf.getD c []) (x:Int)=true then (0:Int) else -1))).length+List.length [w]<=lim)=true:=fun w=>by
   unfold lim
   simp
   omega
  have fin:=ih (c+1) f (by omega) (by omega)
  rw [<- range_snocT c (fun c=>(List.range bl.length).map (fun (x:Nat)=>if hasL (cf.getD c []) (x:Int)=true then (0:Int) else -1))] at fin
  show q64q_l0_r _ _ _=_
  unfold q64q_l0_r
  simp only [lt_dec hc,if_true,hin,Option.bind_some,hle,small_wrap (show c<=100000 by omega)]
  exact fin
theorem ts_l10 (N:Nat) (cf mv bl:List (List Int)) (hg:gmB bl.length cf mv=true) (hb:blB bl=true) (v:Unit) (T:Tab) (hT:rcB cf.length bl.length T=true) (t:Nat) (ht:1<=t) (next:Tab) (c:Nat) (hc:c<cf.length) (x:Nat) (hx:x<bl.length) (row:List Int) (hr:row.length=bl.length) (hneg:at_ I row x<0) :
  ∀(k i f:Nat) (ch:Bool),i+k=(at_ K_Si mv c).length->k+1<f ->
  q64q_l10 N f ((cf,mv,bl,v),T,(t:Int),next,ch,(c:Int),row,(x:Int),(i:Int),()) =
   some (.inl ((cf,mv,bl,v),T,(t:Int),next,ch||((at_ K_Si mv c).drop i).any (fun d=>decide (0<=afterG cf (ballA bl) T d (x:Int))),(c:Int),(if ((at_ K_Si mv c).drop i).any (fun d=>decide (0<=afterG cf (ballA bl) T d (x:Int)))=true then row.set x (t:Int) else row),(x:Int),())):=by
 obtain ⟨g1,g2,g3,g4⟩:=gmB_parts hg
 obtain ⟨b1,b2⟩:=blB_parts hb
 obtain ⟨m1,m2,m3⟩:=g4 c hc
 have i1:idxIn (c:Int) mv.length=true:=idxIn_nat (by omega)
 have i2:idxIn (x:Int) row.length=true:=idxIn_nat (by omega)
 have hxi:inB 0 ((bl.length:Int)-1) (x:Int)=true:=inB_iff.2 (by omega)
 intro k
 induction k with
 | zero=>
  intro i f ch h1 h2
  obtain ⟨f,rfl⟩:∃m,f=m+1:=⟨f-1,by omega⟩
  have e:i=(at_ K_Si mv c).length:=by omega
  rw [List.drop_of_length_le (by omega)]
  subst e
  show q64q_l10_r _ _ _=_
  unfold q64q_l10_r
  simp only [i1,if_true,Int.toNat_natCast,lt_not,Bool.false_eq_true,if_false,List.any_nil,Bool.or_false]
 | succ k ih=>
  intro i f ch h1 h2
  obtain ⟨f,rfl⟩:∃m,f=m+1:=⟨f-1,by omega⟩
  have hi:i<(at_ K_Si mv c).length:=by omega
  have ei:at_ I (at_ K_Si mv c) i=(at_ K_Si mv c)[i]:=at_get (e:=I) hi
  have haf:=afterG_some hg hb hT (m3 _ (List.getElem_mem hi)) hxi v ()
  rw [List.drop_eq_getElem_cons hi,List.any_cons]
  show q64q_l10_r _ _ _=_
  unfold q64q_l10_r
  simp only [i1,if_true,Int.toNat_natCast,lt_dec hi,i2,hneg,decide_true,idxIn_nat hi,ei,haf,Option.bind_some,small_wrap (show i<=100000 by omega)]
  by_cases h0:0<=afterG cf (ballA bl) T (at_ K_Si mv c)[i] (x:Int)
  ·have h0':decide (afterG cf (ballA bl) T (at_ K_Si mv c)[i] (x:Int)>=0)=true:=decide_eq_true h0
   simp only [h0',h0,decide_true,if_true,Bool.true_or,Bool.or_true]
   obtain ⟨f,rfl⟩:∃m,f=m+1:=⟨f-1,by omega⟩
   have es:at_ I (row.set x (t:Int)) x=(t:Int):=by
    have e1:at_ I (row.set x (t:Int)) x=(row.set x (t:Int))[x]'(by rw [List.length_set];omega):=at_get (e:=I) (by rw [List.length_set];omega)
    rw [e1,List.getElem_set_self]
   have i3:idxIn (x:Int) (row.set x (t:Int)).length=true:=idxIn_nat (by rw [List.length_set];omega)
   have hpos:decide ((t:Int)<0)=false:=decide_eq_false (by omega)
   show q64q_l10_r _ _ _=_
   unfold q64q_l10_r
   by_cases hi2:i+1<(at_ K_Si mv c).length
   ·simp only [i1,if_true,Int.toNat_natCast,lt_dec hi2,i3,es,hpos,Bool.false_eq_true,if_false]
   ·have e:decide (((i+1:Nat):Int)<((at_ K_Si mv c).length:Int))=false:=decide_eq_false (by omega)
    simp only [i1,if_true,Int.toNat_natCast,e,Bool.false_eq_true,if_false]
  ·have h0':decide (afterG cf (ballA bl) T (at_ K_Si mv c)[i] (x:Int)>=0)=false:=decide_eq_false h0
   simp only [h0',h0,decide_false,Bool.false_eq_true,if_false,Bool.false_or]
   exact ih (i+1) f ch (by omega) (by omega)
theorem ts_l8 (N:Nat) (hN:2000<=N) (cf mv bl:List (List Int)) (hg:gmB bl.length cf mv=true) (hb:blB bl=true) (v:Unit) (T:Tab) (hT:rcB cf.length bl.length T=true) (t:Nat) (ht:1<=t) (next:Tab) (c:Nat) (hc:c<cf.length):∀(k x f:Nat) (ch:Bool),x+k=bl.length->k<f ->
  q64q_l8 N f ((cf,mv,bl,v),T,(t:Int),next,ch,(c:Int),rowU bl.length (fun x=>tab2 T (c:Int) (x:Int)) (fun x=>if canG cf mv (ballA bl) T c x=true then (t:Int) else tab2 T (c:Int) (x:Int)) x,(x:Int),()) =
   some (.inl ((cf,mv,bl,v),T,(t:Int),next,ch||(List.range' x k).any (fun x=>canG cf mv (ballA bl) T c x),(c:Int),(List.range bl.length).map (fun x=>if canG cf mv (ballA bl) T c x=true then (t:Int) else tab2 T (c:Int) (x:Int)),())):=by
 obtain ⟨g1,g2,g3,g4⟩:=gmB_parts hg
 obtain ⟨b1,b2⟩:=blB_parts hb
 obtain ⟨m1,m2,m3⟩:=g4 c hc
 have i1:idxIn (c:Int) mv.length=true:=idxIn_nat (by omega)
 intro k
 induction k with
 | zero=>
  intro x f ch h1 h2
  obtain ⟨f,rfl⟩:∃m,f=m+1:=⟨f-1,by omega⟩
  have e:x=bl.length:=by omega
  subst e
  show q64q_l8_r _ _ _=_
  unfold q64q_l8_r
  simp only [rowU_full,List.length_map,List.length_range,lt_not,Bool.false_eq_true,if_false,List.range'_zero,List.any_nil,Bool.or_false]
 | succ k ih=>
  intro x f ch h1 h2
  obtain ⟨f,rfl⟩:∃m,f=m+1:=⟨f-1,by omega⟩
  have hx:x<bl.length:=by omega
  have hlt:∀g h:Nat->Int,decide (((x:Nat):Int)<((rowU bl.length g h x).length:Int))=true:=fun g h=>by rw [rowU_len];exact lt_dec hx
  rw [List.range'_succ,List.any_cons,<- Bool.or_assoc]
  show q64q_l8_r _ _ _=_
  unfold q64q_l8_r
  by_cases hn:tab2 T (c:Int) (x:Int)<0
  ·have hin:=ts_l10 N cf mv bl hg hb v T hT t ht next c hc x hx (rowU bl.length (fun x=>tab2 T (c:Int) (x:Int)) (fun x=>if canG cf mv (ballA bl) T c x=true then (t:Int) else tab2 T (c:Int) (x:Int)) x) (rowU_len _ _ _ _) (by rw [rowU_at hx];exact hn) (at_ K_Si mv c).length 0 N ch (by omega) (by omega)
   simp only [Int.natCast_zero,List.drop_zero] at hin
   have hcan:canG cf mv (ballA bl) T c x=(at_ K_Si mv c).any (fun d=>decide (0<=afterG cf (ballA bl) T d (x:Int))):=by
    unfold canG
    rw [m2]
    simp [hn]
   rw [<- hcan] at hin
   simp only [hlt,if_true,hin,Option.bind_some,small_wrap (show x<=100000 by omega)]
   by_cases hcc:canG cf mv (ballA bl) T c x=true
   ·have e1:=rowU_set (n:=bl.length) (f:=fun x=>tab2 T (c:Int) (x:Int)) (g:=fun x=>if canG cf mv (ballA bl) T c x=true then (t:Int) else tab2 T (c:Int) (x:Int)) (v:=(t:Int)) hx (if_pos hcc)
    simp only [hcc,if_true,e1]
    exact ih (x+1) f _ (by omega) (by omega)
   ·have e1:=rowU_keep (n:=bl.length) (f:=fun x=>tab2 T (c:Int) (x:Int)) (g:=fun x=>if canG cf mv (ballA bl) T c x=true then (t:Int) else tab2 T (c:Int) (x:Int)) (x:=x) (if_neg hcc)
    rw [if_neg hcc,e1]
    exact ih (x+1) f _ (by omega) (by omega)
  ·have hcan:canG cf mv (ballA bl) T c x=false:=by
    unfold canG
    simp [hn]
   have e1:=rowU_keep (n:=bl.length) (f:=fun x=>tab2 T (c:Int) (x:Int)) (g:=fun x=>if canG cf mv (ballA bl) T c x=true then (t:Int) else tab2 T (c:Int) (x:Int)) (x:=x) (if_neg (by rw [hcan];simp))
   have i2:∀g h:Nat->Int,idxIn (x:Int) (rowU bl.length g h x).length=true:=fun g h=>by rw [rowU_len];exact idxIn_nat hx
   have hin:q64q_l10 N N ((cf,mv,bl,v),T,(t:Int),next,ch,(c:Int),rowU bl.length (fun x=>tab2 T (c:Int) (x:Int)) (fun x=>if canG cf mv (ballA bl) T c x=true then (t:Int) else tab2 T (c:Int) (x:Int)) x,(x:Int),0,())=some (.inl ((cf,mv,bl,v),T,(t:Int),next,ch,(c:Int),rowU bl.length (fun x=>tab2 T (c:Int) (x:Int)) (fun x=>if canG cf mv (ballA bl) T c x=true then (t:Int) else tab2 T (c:Int) (x:Int)) x,(x:Int),())):=by
    obtain ⟨M,rfl⟩:∃m,N=m+1:=⟨N-1,by omega⟩
    show q64q_l10_r _ _ _=_
    unfold q64q_l10_r
    simp only [i1,if_true,Int.toNat_natCast,i2,rowU_at hx,hn,decide_false,Bool.false_eq_true,if_false]
    split<;>rfl
   simp only [hlt,if_true,hin,Option.bind_some,small_wrap (show x<=100000 by omega),hcan,Bool.or_false]
   rw [e1]
   exact ih (x+1) f _ (by omega) (by omega)
theorem ts_l6 (N:Nat) (hN:2000<=N) (cf mv bl:List (List Int)) (hg:gmB bl.length cf mv=true) (hb:blB bl=true) (v:Unit) (T:Tab) (hT:rcB cf.length bl.length T=true) (t:Nat) (ht:1<=t):∀(k c f:Nat) (ch:Bool),c+k=cf.length->k<f ->
  q64q_l6 N f ((cf,mv,bl,v),T,(t:Int),(List.range c).map (fun c=>(List.range bl.length).map (fun x=>if canG cf mv (ballA bl) T c x=true then (t:Int) else tab2 T (c:Int) (x:Int))),ch,(c:Int),()) =
   some (.inl ((cf,mv,bl,v),(t:Int),stepG cf mv (ballA bl) bl.length (t:Int) T,ch||(List.range' c k).any (fun c=>(List.range bl.length).any fun x=>canG cf mv (ballA bl) T c x),())):=by
 obtain ⟨g1,g2,g3,g4⟩:=gmB_parts hg
 obtain ⟨b1,b2⟩:=blB_parts hb
 obtain ⟨t1,t2⟩:=rcB_parts hT
 intro k
 induction k with
 | zero=>
  intro c f ch h1 h2
  obtain ⟨f,rfl⟩:∃m,f=m+1:=⟨f-1,by omega⟩
  have e:c=cf.length:=by omega
  subst e
  have hlt:decide (((cf.length:Nat):Int)<(T.length:Int))=false:=by rw [t1];exact lt_not _
  show q64q_l6_r _ _ _=_
  unfold q64q_l6_r
  simp only [hlt,Bool.false_eq_true,if_false,List.range'_zero,List.any_nil,Bool.or_false]
  rfl
 | succ k ih=>
  intro c f ch h1 h2
  obtain ⟨f,rfl⟩:∃m,f=m+1:=⟨f-1,by omega⟩
  have hc:c<cf.length:=by omega
  have hlt:decide (((c:Nat):Int)<(T.length:Int))=true:=by rw [t1];exact lt_dec hc
  have i1:idxIn (c:Int) T.length=true:=by rw [t1];exact idxIn_nat hc
  have hin:=ts_l8 N hN cf mv bl hg hb v T hT t ht ((List.range c).map (fun c=>(List.range bl.length).map (fun x=>if canG cf mv (ballA bl) T c x=true then (t:Int) else tab2 T (c:Int) (x:Int)))) c hc bl.length 0 N ch (by omega) (by omega)
  rw [rowU_zero] at hin
  simp only [Int.natCast_zero,<- List.range_eq_range'] at hin
  have hle:∀w:List Int,decide (((List.range c).map (fun c=>(List.range bl.length).map (fun x=>if canG cf mv (ballA bl) T c x=true then (t:Int) else tab2 T (c:Int) (x:Int)))).length+List.length [w]<=lim)=true:=fun w=>by
   unfold lim
   simp
   omega
  have fin:=ih (c+1) f (ch||(List.range bl.length).any (fun x=>canG cf mv (ballA bl) T c x)) (by omega) (by omega)
  rw [<- range_snocT c (fun c=>(List.range bl.length).map (fun x=>if canG cf mv (ballA bl) T c x=true then (t:Int) else tab2 T (c:Int) (x:Int)))] at fin
  have hown:=own_some (at_ K_Si T c) (by rw [t2 c hc];omega)
  rw [row_rc hT hc] at hown
  rw [List.range'_succ,List.any_cons,<- Bool.or_assoc]
  show q64q_l6_r _ _ _=_
  unfold q64q_l6_r
  simp only [hlt,if_true,i1,Int.toNat_natCast,row_rc hT hc,hown,Option.bind_some,hin,hle,small_wrap (show c<=100000 by omega)]
  exact fin
theorem ts_l4 (N:Nat) (hN:2000<=N) (cf mv bl:List (List Int)) (hg:gmB bl.length cf mv=true) (hb:blB bl=true) (v:Unit):∀(k t:Nat) (T:Tab),rcB cf.length bl.length T=true->1<=t->t+k<=2000->negsM cf.length bl.length T<k -> ∀f,k+1<=f ->
  q64q_l4 N f ((cf,mv,bl,v),T,(t:Int),())=some (.inl (gameT cf mv (ballA bl) bl.length k (t:Int) T,())):=by
 obtain ⟨g1,g2,g3,g4⟩:=gmB_parts hg
 intro k
 induction k with
 | zero=>intro t T _ _ _ h;omega
 | succ k ih=>
  intro t T hT ht h2000 hneg f hf
  obtain ⟨f,rfl⟩:∃m,f=m+1:=⟨f-1,by omega⟩
  have hin:=ts_l6 N hN cf mv bl hg hb v T hT t ht cf.length 0 N false (by omega) (by omega)
  simp only [List.range_zero,List.map_nil,Int.natCast_zero,Bool.false_or,<- List.range_eq_range'] at hin
  have hany:((List.range cf.length).any (fun c=>(List.range bl.length).any fun x=>canG cf mv (ballA bl) T c x))=anyG cf mv (ballA bl) bl.length T:=rfl
  rw [hany] at hin
  show q64q_l4_r _ _ _=_
  unfold q64q_l4_r gameT
  simp only [hin,Option.bind_some]
  cases ha:anyG cf mv (ballA bl) bl.length T with
  | true=>
   have:=negsM_step (t:=(t:Int)) (by omega) ha
   simp only [Bool.not_true,Bool.false_eq_true,if_false,if_true,small_wrap (show t<=100000 by omega)]
   have:=ih (t+1) (stepG cf mv (ballA bl) bl.length (t:Int) T) (rc_tabM _ _ _) (by omega) (by omega) (by omega) f (by omega)
   exact this
  | false=>
   simp only [Bool.not_false,if_true,Bool.false_eq_true,if_false,stepG_none hT ha]
theorem l4Times_lim (d) (r) (h:G_l4Times d=some r):∃N,F_q64q N d=some r:=by
 obtain ⟨⟨cf,mv,bl,v⟩,_⟩:=d
 unfold G_l4Times at h
 split at h
 ·rename_i hc
  simp only [Bool.and_eq_true] at hc
  obtain ⟨hg,hb⟩:=hc
  obtain ⟨g1,g2,g3,g4⟩:=gmB_parts hg
  obtain ⟨b1,b2⟩:=blB_parts hb
  have h:=Option.some.inj h
  subst h
  refine ⟨2000,?_⟩
  have h0:=ts_l0 2000 (by omega) cf mv bl hg hb v cf.length 0 2000 (by omega) (by omega)
  simp only [List.range_zero,List.map_nil,Int.natCast_zero] at h0
  have hneg:=negsM_le cf.length bl.length (startG cf bl.length)
  have hmul:cf.length*bl.length<=120*8:=Nat.mul_le_mul g1 b1
  have h4:=ts_l4 2000 (by omega) cf mv bl hg hb v 1000 1 (startG cf bl.length) (rc_tabM _ _ _) (by omega) (by omega) (by omega) 2000 (by omega)
  unfold F_q64q
  simp only [h0,Option.bind_some]
  have e1:((1:Nat):Int)=1:=rfl
  rw [e1] at h4
  simp only [h4,Option.bind_some]
  rfl
 ·cases h
end Go.V.W
namespace Go.V.W
open Go.Proofs
theorem cgB_parts {l:List Int} {v u:Unit} {cf mv:List (List Int)} {T:Tab} (h:cgB ((l,v),cf,mv,T,u)=true):netB l=true/\1<=l.length/\gmB l.length cf mv=true/\rcB cf.length l.length T=true:=by
 unfold cgB at h
 simp only [Bool.and_eq_true,decide_eq_true_eq] at h
 exact ⟨h.1.1.1,h.1.1.2,h.1.2,h.2⟩
theorem timeAfter_some {l:List Int} (hl:netB l=true) {cf:List (List Int)} {T:Tab} (hT:rcB cf.length l.length T=true) {d x:Nat} (hd:d<cf.length) (hx:x<l.length) (v u:Unit):G_timeAfter ((l,v),at_ K_Si T d,(x:Int),u)=some (worstL (tab2 T (d:Int)) (ballM l (x:Int)) 0,()):=by
 obtain ⟨t1,t2⟩:=rcB_parts hT
 have hlen:decide ((at_ K_Si T d).length=l.length)=true:=decide_eq_true (t2 d hd)
 have i2:inB 0 ((l.length:Int)-1) (x:Int)=true:=inB_iff.2 (by omega)
 have hlt:d<T.length:=by omega
 have ea:at_ K_Si T d=T.getD d []:=by
  have:at_ K_Si T d=T[d]:=at_get (e:=K_Si) hlt
  rw [this,List.getD_eq_getElem?_getD,List.getElem?_eq_getElem hlt]
  rfl
 unfold G_timeAfter
 simp only [hl,hlen,i2,Bool.and_self,if_true]
 rw [ea]
 rfl
theorem can1g_some {l:List Int} {v u:Unit} {cf mv:List (List Int)} {T:Tab} (h:cgB ((l,v),cf,mv,T,u)=true) {d x:Nat} (hd:d<cf.length) (hx:x<l.length) (a b e:Unit):FV_q27q ((d:Int),(a,((l,v),cf,mv,T,u),(x:Int),b),e)=some (decide (0<=afterG cf (ballM l) T (d:Int) (x:Int)),()):=by
 obtain ⟨h1,h2,h3,h4⟩:=cgB_parts h
 obtain ⟨g1,g2,g3,g4⟩:=gmB_parts h3
 obtain ⟨y1,y2,y3⟩:=g3 d hd
 obtain ⟨t1,t2⟩:=rcB_parts h4
 have i1:idxIn (d:Int) T.length=true:=idxIn_nat (by omega)
 unfold FV_q27q F_q27q afterG
 simp only [idxIn_nat hd,if_true,Int.toNat_natCast,has2 (okL_of (show (at_ K_Si cf d).length<=1048576 by omega)),Option.bind_some,y2,i1,timeAfter_some h1 h4 hd hx]
 by_cases hh:hasL (at_ K_Si cf d) (x:Int)=true
 ·simp only [hh,if_true]
  rfl
 ·simp only [hh,Bool.false_eq_true,if_false]
theorem gameCan_lim (d) (r) (h:G_gameCan d=some r):∃N,F_q8q N d=some r:=by
 obtain ⟨xs,⟨a,⟨⟨l,v⟩,cf,mv,T,u⟩,q,b⟩,_⟩:=d
 unfold G_gameCan at h
 split at h
 ·rename_i hc
  simp only [Bool.and_eq_true,decide_eq_true_eq] at hc
  obtain ⟨⟨⟨hg,hq'⟩,hlen⟩,hxs⟩:=hc
  obtain ⟨q,rfl,hq⟩:=nodeX hq'
  have h:=Option.some.inj h
  subst h
  have hlen:xs.length<=1000:=hlen
  have hmx:xs.length<=maxLen:=by unfold maxLen;omega
  refine ⟨xs.length+1,?_⟩
  unfold F_q8q
  have:=loop_idx (L:=q8q_l0 (xs.length+1)) (r:=q8q_l0_r (xs.length+1)) (fun _ _=>rfl) (e:=I) xs (mk:=fun i=>(xs,(a,((l,v),cf,mv,T,u),(q:Int),b),(xs.length:Int),(i:Int),())) (q:=fun b=>decide (0<=afterG cf (ballM l) T b (q:Int))) (o:=fun i=>.inl ((i:Int),())) (f:=.inr (.inl ()))
   (by
    intro back i hi
    have hx:at_ I xs i=xs[i]:=at_get (e:=I) hi
    obtain ⟨y,b1,b2⟩:=nodeX (List.all_eq_true.1 hxs xs[i] (List.getElem_mem hi))
    have hcan:=can1g_some hg b2 hq a b ()
    rw [<- b1] at hcan
    unfold q8q_l0_r
    simp only [lt_dec hi,if_true,idxIn_nat hi,Int.toNat_natCast,wrap_up hi hmx,hx,hcan,Option.bind_some])
   (by intro back;unfold q8q_l0_r;simp only [lt_not,Bool.false_eq_true,if_false]) xs.length 0 (by omega) (by omega)
  simp only [Int.natCast_zero,List.drop_zero] at this
  simp only [this,Option.bind_some]
  cases idxN (fun b=>decide (0<=afterG cf (ballM l) T b (q:Int))) xs 0<;>rfl
 ·cases h
theorem gcan_some {l:List Int} {v u:Unit} {cf mv:List (List Int)} {T:Tab} (h:cgB ((l,v),cf,mv,T,u)=true) {c x:Nat} (hc:c<cf.length) (hx:x<l.length) (b:Unit):F_q39q 0 (((l,v),cf,mv,T,u),(c:Int),(x:Int),b)=some ((at_ K_Si mv c).any (fun d=>decide (0<=afterG cf (ballM l) T d (x:Int))),()):=by
 obtain ⟨h1,h2,h3,h4⟩:=cgB_parts h
 obtain ⟨g1,g2,g3,g4⟩:=gmB_parts h3
 obtain ⟨m1,m2,m3⟩:=g4 c hc
 have i1:idxIn (c:Int) mv.length=true:=idxIn_nat (by omega)
 have i2:inB 0 ((l.length:Int)-1) (x:Int)=true:=inB_iff.2 (by omega)
 have hall:(at_ K_Si mv c).all (inB 0 ((cf.length:Int)-1))=true:=List.all_eq_true.2 m3
 have hlen:decide ((at_ K_Si mv c).length<=1000)=true:=decide_eq_true m1
 unfold F_q39q F_q6q
 simp only [i1,if_true,Int.toNat_natCast,G_gameCan,h,i2,hlen,hall,Bool.and_self,Option.bind_some,idxI_ge]
theorem has_take {c:List Int} {j:Nat} (hj:j<c.length) (x:Int):hasL (c.take (j+1)) x=(hasL (c.take j) x||c[j]==x):=by
 unfold hasL
 rw [List.take_add_one,List.any_append,List.getElem?_eq_getElem hj]
 simp
theorem cg_l2 (N:Nat) (w:Nt) (y:Cg) (a:List (List Int)) (b e:Int) (n:Nat) (c:List Int) (hc3:c.length<=3) (hc:∀x∈c,inB 0 ((n:Int)-1) x=true):∀q j f,j+q=c.length->q<f ->
  q37q_l2 N f (w,y,(List.range n).map (fun (x:Nat)=>if hasL (c.take j) (x:Int)=true then (0:Int) else -1),a,b,e,c,(c.length:Int),(j:Int),())=some (.inl (w,y,(List.range n).map (fun (x:Nat)=>if hasL c (x:Int)=true then (0:Int) else -1),a,b,e,())):=by
 intro q
 induction q with
 | zero=>
  intro j f e1 e2
  obtain ⟨f,rfl⟩:∃m,f=m+1:=⟨f-1,by omega⟩
  have e:j=c.length:=by omega
  subst e
  rw [List.take_of_length_le (Nat.le_refl _)]
  show q37q_l2_r _ _ _=_
  unfold q37q_l2_r
  simp only [lt_not,Bool.false_eq_true,if_false]
 | succ q ih=>
  intro j f e1 e2
  obtain ⟨f,rfl⟩:∃m,f=m+1:=⟨f-1,by omega⟩
  have hj:j<c.length:=by omega
  obtain ⟨z,hz,hzn⟩:=nodeX (hc c[j] (List.getElem_mem hj))
  have ej:at_ I c j=(z:Int):=(at_get (e:=I) hj).trans hz
  have i1:∀g:Nat->Int,idxIn (z:Int) ((List.range n).map g).length=true:=fun g=>idxIn_nat (by simpa using hzn)
  have fin:=ih (j+1) f (by omega) (by omega)
  have er:(List.range n).map (fun (x:Nat)=>if hasL (c.take (j+1)) (x:Int)=true then (0:Int) else -1)=((List.range n).map (fun (x:Nat)=>if hasL (c.take j) (x:Int)=true then (0:Int) else -1)).set z 0:=by
   rw [map_set]
   refine List.map_congr_left fun x _ => ?_
   rw [has_take hj,hz]
   by_cases exz:x=z
   ·subst exz;simp
   ·have:((z:Int)==(x:Int))=false:=by simp;omega
    rw [this,Bool.or_false,if_neg exz]
  rw [er] at fin
  show q37q_l2_r _ _ _=_
  unfold q37q_l2_r
  simp only [lt_dec hj,if_true,idxIn_nat hj,Int.toNat_natCast,ej,i1,small_wrap (show j<=100000 by omega)]
  exact fin
theorem cg_l0 (N:Nat) (hN:10<=N) (l:List Int) (v:Unit) (h1:1<=l.length) (h8:l.length<=8) (net:Nt) (cf mv:List (List Int)) (u:Unit) (hg:gmB l.length cf mv=true):∀q i f (acc:Tab),i+q=cf.length->q<f->acc.length+q<=1000 ->
  q37q_l0 N f ((l,v),(net,cf,mv,acc,u),cf,(cf.length:Int),(i:Int),())=some (.inl ((net,cf,mv,acc++(List.range' i q).map (fun c=>(List.range l.length).map (fun (x:Nat)=>if hasL (cf.getD c []) (x:Int)=true then (0:Int) else -1)),u),())):=by
 obtain ⟨g1,g2,g3,g4⟩:=gmB_parts hg
 intro q
 induction q with
 | zero=>
  intro i f acc e1 e2 e3
  obtain ⟨f,rfl⟩:∃m,f=m+1:=⟨f-1,by omega⟩
  have e:i=cf.length:=by omega
  subst e
  show q37q_l0_r _ _ _=_
  unfold q37q_l0_r
  simp only [lt_not,Bool.false_eq_true,if_false,List.range'_zero,List.map_nil,List.append_nil]
 | succ q ih=>
  intro i f acc e1 e2 e3
  obtain ⟨f,rfl⟩:∃m,f=m+1:=⟨f-1,by omega⟩
  have hi:i<cf.length:=by omega
  obtain ⟨y1,y2,y3⟩:=g3 i hi
  have hr:G_repeat ([-1],(l.length:Int),())=some ((List.range l.length).map (fun (x:Nat)=>if hasL ((at_ K_Si cf i).take 0) (x:Int)=true then (0:Int) else -1),()):=by
   unfold G_repeat
   have e1:decide (1<=(l.length:Int))=true:=by simp;omega
   have e2:decide ((l.length:Int)<=8)=true:=by simp;omega
   simp only [List.length_singleton,decide_true,e1,e2,Bool.and_self,if_true,Int.toNat_natCast,List.headD_cons]
   congr 2
   apply List.ext_getElem
   ·simp
   ·intro i h1 h2
    simp [hasL]
  have hin:=cg_l2 N (l,v) (net,cf,mv,acc,u) cf (cf.length:Int) (i:Int) l.length (at_ K_Si cf i) y1 y3 (at_ K_Si cf i).length 0 N (by omega) (by omega)
  simp only [Int.natCast_zero] at hin
  have c1:∀x:List Int,decide (acc.length+List.length [x]<=lim)=true:=fun x=>by unfold lim;simp;omega
  show q37q_l0_r _ _ _=_
  unfold q37q_l0_r g_q53q
  simp only [lt_dec hi,if_true,idxIn_nat hi,Int.toNat_natCast,hr,Option.bind_some,hin,c1,small_wrap (show i<=100000 by omega)]
  rw [ih (i+1) f _ (by omega) (by omega) (by simp;omega),List.range'_succ,List.map_cons,List.append_assoc,List.singleton_append,y2]
theorem cg_l8 (N:Nat) {l:List Int} {v u:Unit} {cf mv:List (List Int)} {T:Tab} (h:cgB ((l,v),cf,mv,T,u)=true) (t:Int) (fd:Bool) (c:Nat) (hc:c<cf.length) (a b:Int):∀(k x f:Nat) (fresh:List E),x+k=l.length->k<f->fresh.length+k<=2000 ->
  q37q_l8 N f (((l,v),cf,mv,T,u),t,fd,fresh,(c:Int),a,b,(l.length:Int),(x:Int),(),(c:Int),()) =
   some (.inl (((l,v),cf,mv,T,u),t,fd,fresh++rowE (canG cf mv (ballM l) T) c k x,a,b,(),())):=by
 obtain ⟨h1,h2,h3,h4⟩:=cgB_parts h
 obtain ⟨g1,g2,g3,g4⟩:=gmB_parts h3
 obtain ⟨m1,m2,m3⟩:=g4 c hc
 obtain ⟨t1,t2⟩:=rcB_parts h4
 obtain ⟨p1,p2,p3,p4⟩:=netB_parts h1
 intro k
 induction k with
 | zero=>
  intro x f fresh e1 e2 e3
  obtain ⟨f,rfl⟩:∃m,f=m+1:=⟨f-1,by omega⟩
  have e:x=l.length:=by omega
  subst e
  show q37q_l8_r _ _ _=_
  unfold q37q_l8_r
  simp only [lt_not,Bool.false_eq_true,if_false,rowE,List.append_nil]
 | succ k ih=>
  intro x f fresh e1 e2 e3
  obtain ⟨f,rfl⟩:∃m,f=m+1:=⟨f-1,by omega⟩
  have hx:x<l.length:=by omega
  have i2:idxIn (x:Int) (at_ K_Si T c).length=true:=idxIn_nat (by rw [t2 c hc];exact hx)
  have hv:=tab2_rc h4 hc hx
  have hle:decide (fresh.length+List.length [(((c:Int),(x:Int),()):E)]<=lim)=true:=by
   unfold lim
   simp
   omega
  show q37q_l8_r _ _ _=_
  unfold q37q_l8_r
  simp only [lt_dec hx,if_true,Int.toNat_natCast,i2,hv,gcan_some h hc hx,Option.bind_some,hle,small_wrap (show x<=100000 by omega),rowE]
  have hcan:canG cf mv (ballM l) T c x=(decide (tab2 T (c:Int) (x:Int)<0)&&(at_ K_Si mv c).any (fun d=>decide (0<=afterG cf (ballM l) T d (x:Int)))):=by
   unfold canG
   rw [m2]
  by_cases hf:tab2 T (c:Int) (x:Int)<0
  ·cases hany:(at_ K_Si mv c).any (fun d=>decide (0<=afterG cf (ballM l) T d (x:Int))) with
   | true=>
    rw [hany] at hcan
    simp only [hf,decide_true,Bool.and_self] at hcan
    simp only [hf,decide_true,if_true,hcan]
    rw [ih (x+1) f _ (by omega) (by omega) (by simp;omega)]
    simp
   | false=>
    rw [hany,Bool.and_false] at hcan
    simp only [hf,decide_true,if_true,hcan,Bool.false_eq_true,if_false]
    exact ih (x+1) f fresh (by omega) (by omega) (by omega)
  ·simp only [hf,decide_false,Bool.false_and] at hcan
   simp only [hf,decide_false,Bool.false_eq_true,if_false,hcan]
   exact ih (x+1) f fresh (by omega) (by omega) (by omega)
theorem cg_l6 (N:Nat) (hN:10<=N) {l:List Int} {v u:Unit} {cf mv:List (List Int)} {T:Tab} (h:cgB ((l,v),cf,mv,T,u)=true) (t:Int) (fd:Bool):∀(k c f:Nat) (fresh:List E),c+k=cf.length->k<f->fresh.length+8*k<=1000 ->
  q37q_l6 N f (((l,v),cf,mv,T,u),t,fd,fresh,(cf.length:Int),(c:Int),(),()) =
   some (.inl (((l,v),cf,mv,T,u),t,fd,fresh++allP (canG cf mv (ballM l) T) l.length k c,())):=by
 obtain ⟨h1,h2,h3,h4⟩:=cgB_parts h
 obtain ⟨g1,g2,g3,g4⟩:=gmB_parts h3
 obtain ⟨t1,t2⟩:=rcB_parts h4
 obtain ⟨p1,p2,p3,p4⟩:=netB_parts h1
 intro k
 induction k with
 | zero=>
  intro c f fresh e1 e2 e3
  obtain ⟨f,rfl⟩:∃m,f=m+1:=⟨f-1,by omega⟩
  have e:c=cf.length:=by omega
  subst e
  show q37q_l6_r _ _ _=_
  unfold q37q_l6_r
  simp only [lt_not,Bool.false_eq_true,if_false,allP,List.append_nil]
 | succ k ih=>
  intro c f fresh e1 e2 e3
  obtain ⟨f,rfl⟩:∃m,f=m+1:=⟨f-1,by omega⟩
  have hc:c<cf.length:=by omega
  have i1:idxIn (c:Int) T.length=true:=idxIn_nat (by omega)
  have hin:=cg_l8 N h t fd c hc (cf.length:Int) (c:Int) l.length 0 N fresh (by omega) (by omega) (by omega)
  simp only [Int.natCast_zero] at hin
  have hrl:=rowE_len (p:=canG cf mv (ballM l) T) (x:=c) (m:=l.length) (y:=0)
  show q37q_l6_r _ _ _=_
  unfold q37q_l6_r
  simp only [lt_dec hc,if_true,i1,Int.toNat_natCast,t2 c hc,hin,Option.bind_some,small_wrap (show c<=100000 by omega),allP]
  rw [ih (c+1) f _ (by omega) (by omega) (by simp;omega),List.append_assoc]
theorem tabM_set {m n:Nat} {g:Nat->Nat->Int} {x z:Nat} (hx:x<m) (hz:z<n) (t:Int):List.set (tabM m n g) x (List.set (at_ K_Si (tabM m n g) x) z t)=tabM m n fun c r=>if c=x/\r=z then t else g c r:=by
 have hl:x<(tabM m n g).length:=by rw [tabM_len];exact hx
 have e:at_ K_Si (tabM m n g) x=(tabM m n g)[x]:=at_get (e:=K_Si) hl
 have hrow:=tabM_row (n:=n) g hx
 rw [List.getElem?_eq_getElem hl] at hrow
 rw [e,Option.some.inj hrow,map_set]
 apply List.ext_getElem
 ·simp [tabM]
 ·intro i h1 h2
  rw [List.getElem_set]
  by_cases ei:x=i
  ·subst ei
   simp only [if_true,tabM,List.getElem_map,List.getElem_range,true_and]
  ·have ei':¬i=x:=fun h=>ei h.symm
   simp only [ei,if_false,tabM,List.getElem_map,List.getElem_range,ei',false_and]
theorem cg_l10 (N:Nat) (w:Nt) (cf mv:List (List Int)) (u:Unit) (m n:Nat) (t:Int) (fresh:List E) (hfr:∀e∈fresh,∃x z:Nat,x<m/\z<n/\e=((x:Int),(z:Int),())) (hl:fresh.length<=1000):∀(k i f:Nat) (g:Nat->Nat->Int) (fd:Bool),i+k=fresh.length->k<f ->
  q37q_l10 N f ((w,cf,mv,tabM m n g,u),t,fd,fresh,(fresh.length:Int),(i:Int),()) =
   some (.inl ((w,cf,mv,tabM m n (fun c r=>if (fresh.drop i).any (isP c r)=true then t else g c r),u),t,fd||decide (0<k),())):=by
 intro k
 induction k with
 | zero=>
  intro i f g fd h1 h2
  obtain ⟨f,rfl⟩:∃m,f=m+1:=⟨f-1,by omega⟩
  have e:i=fresh.length:=by omega
  subst e
  show q37q_l10_r _ _ _=_
  unfold q37q_l10_r
  rw [List.drop_of_length_le (Nat.le_refl _)]
  simp only [lt_not,Bool.false_eq_true,if_false,List.any_nil,Nat.lt_irrefl,decide_false,Bool.or_false]
 | succ k ih=>
  intro i f g fd h1 h2
  obtain ⟨f,rfl⟩:∃m,f=m+1:=⟨f-1,by omega⟩
  have hi:i<fresh.length:=by omega
  obtain ⟨x,z,hx,hz,ee⟩:=hfr fresh[i] (List.getElem_mem hi)
  have e:at_ K_Piiq fresh i=((x:Int),(z:Int),()):=(at_get (e:=K_Piiq) hi).trans ee
  obtain ⟨t1,t2⟩:=rcB_parts (rc_tabM m n g)
  have i1:idxIn (x:Int) (tabM m n g).length=true:=idxIn_nat (by omega)
  have i2:idxIn (z:Int) (at_ K_Si (tabM m n g) x).length=true:=idxIn_nat (by rw [t2 x hx];exact hz)
  show q37q_l10_r _ _ _=_
  unfold q37q_l10_r
  simp only [lt_dec hi,if_true,idxIn_nat hi,Int.toNat_natCast,e,i1,i2,small_wrap (show i<=100000 by omega),tabM_set hx hz]
  rw [ih (i+1) f _ true (by omega) (by omega),List.drop_eq_getElem_cons hi,ee]
  have et:tabM m n (fun c r=>if (fresh.drop (i+1)).any (isP c r)=true then t else if c=x/\r=z then t else g c r)=tabM m n fun c r=>if (((x:Int),(z:Int),())::fresh.drop (i+1)).any (isP c r)=true then t else g c r:=tabM_congr fun c r _ _=>by
   rw [List.any_cons]
   by_cases h3:(fresh.drop (i+1)).any (isP c r)=true
   ·simp [h3]
   ·have h3':(fresh.drop (i+1)).any (isP c r)=false:=by simpa using h3
    by_cases h4:c=x/\r=z
    ·have:isP c r ((x:Int),(z:Int),())=true:=by
      unfold isP
      simp [h4.1,h4.2]
     rw [if_neg h3,if_pos h4,this,Bool.true_or,if_pos rfl]
    ·have:isP c r ((x:Int),(z:Int),())=false:=by
      unfold isP
      simp only [Bool.and_eq_false_iff,beq_eq_false_iff_ne,ne_eq]
      by_cases h5:c=x
      ·exact .inr fun h=>h4 ⟨h5,by omega⟩
      ·exact .inl fun h=>h5 (by omega)
     simp [h3',h4,this]
  rw [et]
  simp
theorem allP_anyM {p:Nat->Nat->Bool} {m n c r:Nat} (hc:c<m) (hr:r<n):(allP p n m 0).any (isP c r)=p c r:=by
 apply Bool.eq_iff_iff.2
 rw [List.any_eq_true]
 constructor
 ·rintro ⟨e,he,h⟩
  obtain ⟨x,z,h1,h2,h3,h4,rfl⟩:=allP_mem.1 he
  unfold isP at h
  simp only [Bool.and_eq_true,beq_iff_eq] at h
  have e1:x=c:=by omega
  have e2:z=r:=by omega
  subst e1 e2
  exact h4
 ·intro h
  exact ⟨((c:Int),(r:Int),()),allP_mem.2 ⟨c,r,Nat.zero_le _,by omega,hr,h,rfl⟩,by unfold isP;simp⟩
theorem allP_posM {cf mv:List (List Int)} {ball:Int->List Int} {n:Nat} {T:Tab}:decide (0<(allP (canG cf mv ball T) n cf.length 0).length)=anyG cf mv ball n T:=by
 apply Bool.eq_iff_iff.2
 rw [decide_eq_true_eq,anyG_spec]
 constructor
 ·intro h
  obtain ⟨x,z,h1,h2,h3,h4,_⟩:=allP_mem.1 (List.getElem_mem h)
  exact ⟨x,z,by omega,h3,h4⟩
 ·rintro ⟨c,r,hc,hr,h⟩
  exact List.length_pos_of_mem (allP_mem.2 ⟨c,r,Nat.zero_le _,by omega,hr,h,rfl⟩)
theorem cg_l4 (N:Nat) (hN:2000<=N) {l:List Int} {v u:Unit} {cf mv:List (List Int)} (hl:netB l=true) (h1:1<=l.length) (hg:gmB l.length cf mv=true):∀(k t:Nat) (T:Tab),rcB cf.length l.length T=true->t+k<=2000->negsM cf.length l.length T<k -> ∀f,k+1<=f ->
  q37q_l4 N f (((l,v),cf,mv,T,u),(t:Int),true,())=some (.inl (((l,v),cf,mv,gameT cf mv (ballM l) l.length k (t:Int) T,u),())):=by
 obtain ⟨g1,g2,g3,g4⟩:=gmB_parts hg
 obtain ⟨p1,p2,p3,p4⟩:=netB_parts hl
 intro k
 induction k with
 | zero=>intro t T _ _ h;omega
 | succ k ih=>
  intro t T hT ht hng f hf
  obtain ⟨f,rfl⟩:∃m,f=m+1:=⟨f-1,by omega⟩
  have h:cgB ((l,v),cf,mv,T,u)=true:=by
   unfold cgB
   simp only [hl,hg,hT,h1,decide_true,Bool.and_self]
  obtain ⟨t1,t2⟩:=rcB_parts hT
  have h6:=cg_l6 N (by omega) h (t:Int) false cf.length 0 N [] (by omega) (by omega) (by simp;omega)
  simp only [Int.natCast_zero,List.nil_append] at h6
  have hlen:=allP_len (p:=canG cf mv (ballM l) T) (n:=l.length) (k:=cf.length) (c:=0)
  have hnn:l.length*cf.length<=8*120:=Nat.mul_le_mul p3 g1
  have h10:=cg_l10 N (l,v) cf mv u cf.length l.length (t:Int) (allP (canG cf mv (ballM l) T) l.length cf.length 0) (fun e he=>by
   obtain ⟨x,z,_,h2,h3,_,h5⟩:=allP_mem.1 he
   exact ⟨x,z,by omega,h3,h5⟩) (by omega) (allP (canG cf mv (ballM l) T) l.length cf.length 0).length 0 N (fun c x=>tab2 T (c:Int) (x:Int)) false (by omega) (by omega)
  rw [tabM_self hT] at h10
  simp only [Int.natCast_zero,List.drop_zero,Bool.false_or,allP_posM] at h10
  have et:tabM cf.length l.length (fun c r=>if (allP (canG cf mv (ballM l) T) l.length cf.length 0).any (isP c r)=true then (t:Int) else tab2 T (c:Int) (r:Int))=stepG cf mv (ballM l) l.length (t:Int) T:=tabM_congr fun c r hc hr=>by
   rw [allP_anyM hc hr]
  rw [et] at h10
  show q37q_l4_r _ _ _=_
  unfold q37q_l4_r
  simp only [if_true,t1,h6,Option.bind_some,h10,small_wrap (show t<=100000 by omega),gameT]
  by_cases ha:anyG cf mv (ballM l) l.length T=true
  ·rw [if_pos ha,ha]
   have:=negsM_step (t:=(t:Int)) (by omega) ha
   exact ih (t+1) (stepG cf mv (ballM l) l.length (t:Int) T) (rc_tabM _ _ _) (by omega) (by omega) f (by omega)
  ·have ha':anyG cf mv (ballM l) l.length T=false:=(Bool.not_eq_true _).mp ha
   rw [if_neg ha,ha',stepG_none hT ha']
   obtain ⟨f,rfl⟩:∃m,f=m+1:=⟨f-1,by omega⟩
   rfl
theorem copGame_lim (d) (r) (h:G_copGame d=some r):∃N,F_q37q N d=some r:=by
 obtain ⟨⟨l,v⟩,k,_⟩:=d
 unfold G_copGame at h
 split at h
 ·rename_i hc
  simp only [Bool.and_eq_true,decide_eq_true_eq] at hc
  obtain ⟨⟨hl,h1⟩,hk⟩:=hc
  have hl:netB l=true:=hl
  have h1:1<=l.length:=h1
  have hk2:=inB_iff.1 hk
  obtain ⟨p1,p2,p3,p4⟩:=netB_parts hl
  have h:=Option.some.inj h
  subst h
  refine ⟨2000,?_⟩
  have hg:=board_ok (n:=l.length) p3 (k:=k.toNat) (by omega) (ball:=ballM l) (fun x _=>ballM_len l _) (fun x hx=>ballM_in hl hx)
  obtain ⟨g1,g2,g3,g4⟩:=gmB_parts hg
  have hb:G_copBoard ((l,v),k,())=some (((l,v),confL l.length k.toNat,movesI (ballM l) (confL l.length k.toNat),[],()),()):=by
   unfold G_copBoard
   simp only [hl,hk,Bool.and_self,if_true]
  have h0:=cg_l0 2000 (by omega) l v h1 p3 (l,v) (confL l.length k.toNat) (movesI (ballM l) (confL l.length k.toNat)) () hg (confL l.length k.toNat).length 0 2000 [] (by omega) (by omega) (by simp;omega)
  simp only [Int.natCast_zero,List.nil_append,<- List.range_eq_range'] at h0
  have e0:(List.range (confL l.length k.toNat).length).map (fun c=>(List.range l.length).map (fun (x:Nat)=>if hasL ((confL l.length k.toNat).getD c []) (x:Int)=true then (0:Int) else -1))=startG (confL l.length k.toNat) l.length:=rfl
  rw [e0] at h0
  have hneg:=negsM_le (confL l.length k.toNat).length l.length (startG (confL l.length k.toNat) l.length)
  have hmul:(confL l.length k.toNat).length*l.length<=120*8:=Nat.mul_le_mul g1 p3
  have h4:=cg_l4 2000 (by omega) (v:=v) (u:=()) hl h1 hg 1000 1 (startG (confL l.length k.toNat) l.length) (rc_tabM _ _ _) (by omega) (by omega) 2000 (by omega)
  have e1:((1:Nat):Int)=1:=rfl
  rw [e1] at h4
  unfold F_q37q
  simp only [hb,Option.bind_some,h0,h4]
  rfl
 ·cases h
end Go.V.W
namespace Go.V.W
open Go.Proofs
theorem after_congr {cf:List (List Int)} {b1 b2:Int->List Int} {T:Tab} {d x:Int} (h:b1 x=b2 x):afterG cf b1 T d x=afterG cf b2 T d x:=by
 unfold afterG
 rw [h]
theorem canG_congr {cf mv:List (List Int)} {b1 b2:Int->List Int} {T:Tab} {c x:Nat} (h:b1 (x:Int)=b2 (x:Int)):canG cf mv b1 T c x=canG cf mv b2 T c x:=by
 unfold canG
 simp only [after_congr (cf:=cf) (T:=T) h]
theorem anyG_congr {cf mv:List (List Int)} {b1 b2:Int->List Int} {n:Nat} (h:∀x:Nat,x<n->b1 (x:Int)=b2 (x:Int)) (T:Tab):anyG cf mv b1 n T=anyG cf mv b2 n T:=by
 apply bool_eq_iff
 rw [anyG_spec,anyG_spec]
 constructor
 ·rintro ⟨c,x,hc,hx,h2⟩
  exact ⟨c,x,hc,hx,by rw [<- canG_congr (h x hx)];exact h2⟩
 ·rintro ⟨c,x,hc,hx,h2⟩
  exact ⟨c,x,hc,hx,by rw [canG_congr (h x hx)];exact h2⟩
theorem gameT_congr {cf mv:List (List Int)} {b1 b2:Int->List Int} {n:Nat} (h:∀x:Nat,x<n->b1 (x:Int)=b2 (x:Int)):∀(k:Nat) (t:Int) (T:Tab),gameT cf mv b1 n k t T=gameT cf mv b2 n k t T:=by
 intro k
 induction k with
 | zero=>intro t T;rfl
 | succ k ih=>
  intro t T
  unfold gameT
  rw [anyG_congr h T]
  have:stepG cf mv b1 n t T=stepG cf mv b2 n t T:=tabM_congr fun c x hc hx=>by rw [canG_congr (h x hx)]
  rw [this,ih]
theorem times_congr {cf mv:List (List Int)} {b1 b2:Int->List Int} {n:Nat} (h:∀x:Nat,x<n->b1 (x:Int)=b2 (x:Int)):timesG cf mv b1 n=timesG cf mv b2 n:=gameT_congr h _ _ _
theorem gameT_rc {cf mv:List (List Int)} {ball:Int->List Int} {n:Nat}:∀(k:Nat) (t:Int) (T:Tab),rcB cf.length n T=true->rcB cf.length n (gameT cf mv ball n k t T)=true:=by
 intro k
 induction k with
 | zero=>intro t T h;exact h
 | succ k ih=>
  intro t T h
  unfold gameT
  split
  ·exact ih _ _ (rc_tabM _ _ _)
  ·exact h
theorem times_rc (cf mv:List (List Int)) (ball:Int->List Int) (n:Nat):rcB cf.length n (timesG cf mv ball n)=true:=gameT_rc _ _ _ (rc_tabM _ _ _)
theorem tm_rc (g:Gr) (k:Nat):rcB (cfG g k).length g.1.toNat (tmG g k)=true:=times_rc _ _ _ _
theorem ballA_L {n:Nat} (es:List E) {x:Nat} (hx:x<n):ballA (ballsL n es) (x:Int)=ballF n es (x:Int):=by
 unfold ballA ballsL
 rw [Int.toNat_natCast,List.getD_eq_getElem?_getD,List.getElem?_map,List.getElem?_range hx]
 rfl
theorem ballsL_len (n:Nat) (es:List E):(ballsL n es).length=n:=by simp [ballsL]
theorem balls_ok {n:Nat} (hn:n<=8) (es:List E):blB (ballsL n es)=true:=by
 unfold blB
 rw [ballsL_len,Bool.and_eq_true]
 refine ⟨decide_eq_true hn,List.all_eq_true.2 fun b hb => ?_⟩
 unfold ballsL at hb
 obtain ⟨x,_,rfl⟩:=List.mem_map.1 hb
 have:=ballF_len n es (x:Int)
 rw [Bool.and_eq_true]
 exact ⟨decide_eq_true (by omega),List.all_eq_true.2 (ballF_in es (x:Int))⟩
theorem field_parts {n:Int} {es:List E} {v:Unit} {k:Int} (h:fieldB (n,es,v) k=true):graphB (n,es,v)=true /\ ∃m q:Nat,n=(m:Int)/\k=(q:Int)/\1<=m/\m<=8/\1<=q/\q<=3:=by
 unfold fieldB at h
 simp only [Bool.and_eq_true,decide_eq_true_eq] at h
 obtain ⟨⟨h1,h2⟩,h3⟩:=h
 obtain ⟨h4,h5⟩:=graphB_n h1
 have h3:=inB_iff.1 h3
 exact ⟨h1,n.toNat,k.toNat,by omega,by omega,by omega,by omega,by omega,by omega⟩
theorem game_spec {m q:Nat} {es:List E} {v:Unit} (hg:graphB ((m:Int),es,v)=true) (ho:okL es=true) (hq:q<=3) (u w:Unit) :
  G_l4Make (((m:Int),es,v),(q:Int),u)=some ((cfG ((m:Int),es,v) q,mvG ((m:Int),es,v) q,ballsL m es,()),())/\G_l4Times ((cfG ((m:Int),es,v) q,mvG ((m:Int),es,v) q,ballsL m es,()),w)=some (tmG ((m:Int),es,v) q,()) /\
  gmB (ballsL m es).length (cfG ((m:Int),es,v) q) (mvG ((m:Int),es,v) q)=true/\blB (ballsL m es)=true:=by
 obtain ⟨h0,h8⟩:=graphB_n hg
 have hm:m<=8:=by omega
 have hG:=graph_grB hg ho
 have hk:inB 0 3 (q:Int)=true:=inB_iff.2 (by omega)
 have hb:=board_ok (n:=m) hm hq (ball:=ballF m es) (fun x _=>by have:=ballF_len m es (x:Int);omega) (fun x _=>ballF_in es (x:Int))
 have hb2:gmB (ballsL m es).length (cfG ((m:Int),es,v) q) (mvG ((m:Int),es,v) q)=true:=by
  rw [ballsL_len]
  unfold mvG cfG
  simp only [Int.toNat_natCast]
  exact hb
 have hbl:=balls_ok hm es
 refine ⟨?_,?_,hb2,hbl⟩
 ·unfold G_l4Make mvG cfG
  simp only [hG,hk,Bool.and_self,if_true,Int.toNat_natCast]
 ·unfold G_l4Times
  simp only [hb2,hbl,Bool.and_self,if_true]
  unfold tmG
  simp only [ballsL_len,Int.toNat_natCast]
  rw [times_congr fun x hx=>ballA_L es hx]
theorem game_impl {m q:Nat} {es:List E} {v:Unit} (hg:graphB ((m:Int),es,v)=true) (ho:okL es=true) (h1:1<=m) (hq:q<=3) (u:Unit) :
  G_copGame ((toI (netN m es),()),(q:Int),u)=some (((toI (netN m es),()),cfG ((m:Int),es,v) q,mvG ((m:Int),es,v) q,tmG ((m:Int),es,v) q,()),())/\cgB ((toI (netN m es),()),cfG ((m:Int),es,v) q,mvG ((m:Int),es,v) q,tmG ((m:Int),es,v) q,())=true:=by
 obtain ⟨h0,h8⟩:=graphB_n hg
 have hm:m<=8:=by omega
 obtain ⟨g1,_⟩:=graphB_edges hg
 obtain ⟨n1,n2⟩:=netB_net hm g1
 have hk:inB 0 3 (q:Int)=true:=inB_iff.2 (by omega)
 have e1:movesI (ballM (toI (netN m es))) (confL m q)=movesI (ballF m es) (confL m q):=by
  unfold movesI
  refine List.map_congr_left fun c hc => ?_
  rw [moves_congr fun x hx => ?_]
  have:=copsB_in (confL_mem.1 hc).2 x hx
  obtain ⟨y,rfl,hy⟩:=nodeX this
  exact ball_same hm g1 hy
 have e2:timesG (confL m q) (movesI (ballF m es) (confL m q)) (ballM (toI (netN m es))) m=timesG (confL m q) (movesI (ballF m es) (confL m q)) (ballF m es) m:=times_congr fun x hx=>ball_same hm g1 hx
 have hb:=board_ok (n:=m) hm hq (ball:=ballF m es) (fun x _=>by have:=ballF_len m es (x:Int);omega) (fun x _=>ballF_in es (x:Int))
 constructor
 ·unfold G_copGame
  have h1':decide (1<=m)=true:=decide_eq_true h1
  simp only [n1,n2,h1',hk,Bool.and_self,if_true,Int.toNat_natCast,e1,e2]
  rfl
 ·unfold cgB
  have h1':decide (1<=m)=true:=decide_eq_true h1
  have h2:=tm_rc ((m:Int),es,v) q
  simp only [Int.toNat_natCast] at h2
  have h3:gmB m (cfG ((m:Int),es,v) q) (mvG ((m:Int),es,v) q)=true:=by
   unfold mvG cfG
   simp only [Int.toNat_natCast]
   exact hb
  simp only [n1,n2,h1',h2,h3,Bool.and_self]
theorem specField {g:Gr} (ho:okL g.2.1=true) (k:Int) (u:Unit):F_q67q 0 (g,k,u)=some (fieldB g k,()):=by
 unfold F_q67q G_graph fieldB
 simp only [ho,if_true,Option.bind_some,l1In_eq]
 cases graphB g with
 | false=>simp only [Bool.false_eq_true,if_false,Bool.false_and]
 | true=>
  cases decide (g.1>0) with
  | false=>simp only [Bool.false_eq_true,if_false,if_true,Bool.and_false,Bool.false_and]
  | true=>simp only [if_true,Bool.true_and]
theorem implField {g:Gr} (ho:okL g.2.1=true) (k:Int) (u:Unit):F_q47q 0 (g,k,u)=some (fieldB g k,()):=by
 unfold F_q47q G_graph fieldB
 simp only [ho,if_true,Option.bind_some,within_eq]
 cases graphB g with
 | false=>simp only [Bool.false_eq_true,if_false,Bool.false_and]
 | true=>
  cases decide (g.1>0) with
  | false=>simp only [Bool.false_eq_true,if_false,if_true,Bool.and_false,Bool.false_and]
  | true=>simp only [if_true,Bool.true_and]
def capB (g:Gr) (k:Int):Tab×Bool×Unit:=if fieldB g k=true then (tmG g k.toNat,true,()) else ([],false,())
theorem specCT {n:Int} {es:List E} {v:Unit} (ho:okL es=true) (k:Int) (u:Unit):F_q34q 0 ((n,es,v),k,u)=some (capB (n,es,v) k):=by
 unfold F_q34q capB
 simp only [specField (g:=(n,es,v)) ho]
 cases h:fieldB (n,es,v) k with
 | false=>simp only [Option.bind_some,Bool.not_false,if_true,Bool.false_eq_true,if_false]
 | true=>
  obtain ⟨hg,m,q,rfl,rfl,m1,m8,q1,q3⟩:=field_parts h
  obtain ⟨h1,h2,_⟩:=game_spec hg ho q3 () ()
  simp only [Option.bind_some,Bool.not_true,Bool.false_eq_true,if_false,h1,h2,if_true,Int.toNat_natCast]
theorem implCT {n:Int} {es:List E} {v:Unit} (ho:okL es=true) (k:Int) (u:Unit):F_q32q 0 ((n,es,v),k,u)=some (capB (n,es,v) k):=by
 unfold F_q32q capB
 simp only [implField (g:=(n,es,v)) ho]
 cases h:fieldB (n,es,v) k with
 | false=>simp only [Option.bind_some,Bool.not_false,if_true,Bool.false_eq_true,if_false]
 | true=>
  obtain ⟨hg,m,q,rfl,rfl,m1,m8,q1,q3⟩:=field_parts h
  obtain ⟨h1,_⟩:=game_impl (v:=v) hg ho m1 q3 ()
  simp only [Option.bind_some,Bool.not_true,Bool.false_eq_true,if_false,net_some hg ho,h1,if_true,Int.toNat_natCast]
theorem tm_small {m q:Nat} {es:List E} {v:Unit} (hm:m<=8) (hq:q<=3):(tmG ((m:Int),es,v) q).length<=120 /\ ∀l∈tmG ((m:Int),es,v) q,l.length<=8:=by
 have h2:=tm_rc ((m:Int),es,v) q
 have h3:(cfG ((m:Int),es,v) q).length<=120:=confL_120 hm hq
 unfold rcB at h2
 simp only [Int.toNat_natCast,Bool.and_eq_true,decide_eq_true_eq,List.all_eq_true] at h2
 refine ⟨by omega,fun l hl => ?_⟩
 have:=h2.2 l hl
 omega
theorem cap_small {g:Gr} {k:Int}:(capB g k).1.length<=120 /\ ∀l∈(capB g k).1,l.length<=8:=by
 unfold capB
 split
 ·rename_i hb
  obtain ⟨n,es,v⟩:=g
  obtain ⟨hg,m,q,rfl,rfl,m1,m8,q1,q3⟩:=field_parts hb
  exact tm_small m8 (by omega)
 ·exact ⟨by simp,fun l hl=>by simp at hl⟩
theorem okLL_8 {T:List (List Int)} (h1:T.length<=120) (h2:∀l∈T,l.length<=8):okLL T=true:=okLL_small (by omega) (List.all_eq_true.2 fun l hl=>decide_eq_true (by have:=h2 l hl;omega))
end Go.V.W
namespace Go.V.W
open Go.Proofs
theorem at_getD {l:List Int} {i:Nat} (h:i<l.length):at_ I l i=l.getD i 0:=by
 have e:at_ I l i=l[i]:=at_get (e:=I) h
 rw [e,List.getD_eq_getElem?_getD,List.getElem?_eq_getElem h]
 rfl
theorem at_getDS {l:List (List Int)} {i:Nat} (h:i<l.length):at_ K_Si l i=l.getD i []:=by
 have e:at_ K_Si l i=l[i]:=at_get (e:=K_Si) h
 rw [e,List.getD_eq_getElem?_getD,List.getElem?_eq_getElem h]
 rfl
theorem sf_l2 (N:Nat) (T:Tab) (out:Tab) (c:Nat) (hc:c<T.length) (hr:(at_ K_Si T c).length<=1000):∀(k x f:Nat) (acc:List Int),x+k=(at_ K_Si T c).length->k<f->acc.length+k<=2000 ->
  q83q_l2 N f (T,out,(c:Int),acc,(x:Int),())=some (.inl (T,out,(c:Int),acc++setF (fun y=>decide ((at_ K_Si T c).getD y 0<0)) k x,())):=by
 intro k
 induction k with
 | zero=>
  intro x f acc h1 h2 h3
  obtain ⟨f,rfl⟩:∃m,f=m+1:=⟨f-1,by omega⟩
  have e:x=(at_ K_Si T c).length:=by omega
  subst e
  show q83q_l2_r _ _ _=_
  unfold q83q_l2_r
  simp only [idxIn_nat hc,if_true,Int.toNat_natCast,lt_not,Bool.false_eq_true,if_false,setF,List.append_nil]
 | succ k ih=>
  intro x f acc h1 h2 h3
  obtain ⟨f,rfl⟩:∃m,f=m+1:=⟨f-1,by omega⟩
  have hx:x<(at_ K_Si T c).length:=by omega
  have hle:decide (acc.length+List.length [(x:Int)]<=lim)=true:=by unfold lim;simp;omega
  show q83q_l2_r _ _ _=_
  unfold q83q_l2_r
  simp only [idxIn_nat hc,if_true,Int.toNat_natCast,lt_dec hx,idxIn_nat hx,at_getD hx,hle,small_wrap (show x<=100000 by omega),setF]
  by_cases h:(at_ K_Si T c).getD x 0<0
  ·simp only [h,decide_true,if_true]
   rw [ih (x+1) f _ (by omega) (by omega) (by simp;omega)]
   simp
  ·simp only [h,decide_false,Bool.false_eq_true,if_false]
   exact ih (x+1) f acc (by omega) (by omega) (by omega)
theorem sf_l0 (N:Nat) (hN:1010<=N) (T:Tab) (hT:T.length<=1000) (hr:∀r∈T,r.length<=1000):∀(k c f:Nat) (acc:Tab),c+k=T.length->k<f->acc.length+k<=2000 ->
  q83q_l0 N f (T,acc,(c:Int),())=some (.inl (acc++(T.drop c).map negL,())):=by
 intro k
 induction k with
 | zero=>
  intro c f acc h1 h2 h3
  obtain ⟨f,rfl⟩:∃m,f=m+1:=⟨f-1,by omega⟩
  have e:c=T.length:=by omega
  subst e
  rw [List.drop_of_length_le (Nat.le_refl _)]
  show q83q_l0_r _ _ _=_
  unfold q83q_l0_r
  simp only [lt_not,Bool.false_eq_true,if_false,List.map_nil,List.append_nil]
 | succ k ih=>
  intro c f acc h1 h2 h3
  obtain ⟨f,rfl⟩:∃m,f=m+1:=⟨f-1,by omega⟩
  have hc:c<T.length:=by omega
  have ec:at_ K_Si T c=T[c]:=at_get (e:=K_Si) hc
  have hrc:(at_ K_Si T c).length<=1000:=by rw [ec];exact hr _ (List.getElem_mem hc)
  have hin:=sf_l2 N T acc c hc hrc (at_ K_Si T c).length 0 N [] (by omega) (by omega) (by simp;omega)
  simp only [Int.natCast_zero,List.nil_append] at hin
  have hneg:setF (fun y=>decide ((at_ K_Si T c).getD y 0<0)) (at_ K_Si T c).length 0=negL T[c]:=by rw [ec];rfl
  rw [hneg] at hin
  have hle:decide (acc.length+List.length [negL T[c]]<=lim)=true:=by unfold lim;simp;omega
  show q83q_l0_r _ _ _=_
  unfold q83q_l0_r
  simp only [lt_dec hc,if_true,hin,Option.bind_some,hle,small_wrap (show c<=100000 by omega)]
  rw [ih (c+1) f _ (by omega) (by omega) (by simp;omega),List.drop_eq_getElem_cons hc,List.map_cons,List.append_assoc,List.singleton_append]
theorem l4Safe_lim (d) (r) (h:G_l4Safe d=some r):∃N,F_q83q N d=some r:=by
 obtain ⟨T,_⟩:=d
 unfold G_l4Safe at h
 split at h
 ·rename_i hc
  simp only [Bool.and_eq_true,decide_eq_true_eq,List.all_eq_true] at hc
  have h:=Option.some.inj h
  subst h
  have hT:T.length<=1000:=hc.1
  refine ⟨1010,?_⟩
  have:=sf_l0 1010 (by omega) T hT hc.2 T.length 0 1010 [] (by omega) (by omega) (by simp;omega)
  simp only [Int.natCast_zero,List.drop_zero,List.nil_append] at this
  unfold F_q83q
  simp only [this,Option.bind_some]
 ·cases h
theorem ss_l2 (N:Nat) (out T:Tab) (n i:Int) (row:List Int) (hr:row.length<=1000):∀(k x f:Nat) (acc:List Int),x+k=row.length->k<f->acc.length+k<=2000 ->
  q56q_l2 N f (out,acc,T,n,i,row,(row.length:Int),(x:Int),())=some (.inl (out,acc++setF (fun y=>decide (row.getD y 0<0)) k x,T,n,i,())):=by
 intro k
 induction k with
 | zero=>
  intro x f acc h1 h2 h3
  obtain ⟨f,rfl⟩:∃m,f=m+1:=⟨f-1,by omega⟩
  have e:x=row.length:=by omega
  subst e
  show q56q_l2_r _ _ _=_
  unfold q56q_l2_r
  simp only [lt_not,Bool.false_eq_true,if_false,setF,List.append_nil]
 | succ k ih=>
  intro x f acc h1 h2 h3
  obtain ⟨f,rfl⟩:∃m,f=m+1:=⟨f-1,by omega⟩
  have hx:x<row.length:=by omega
  have hle:decide (acc.length+List.length [(x:Int)]<=lim)=true:=by unfold lim;simp;omega
  show q56q_l2_r _ _ _=_
  unfold q56q_l2_r
  simp only [if_true,Int.toNat_natCast,lt_dec hx,idxIn_nat hx,at_getD hx,hle,small_wrap (show x<=100000 by omega),setF]
  by_cases h:row.getD x 0<0
  ·simp only [h,decide_true,if_true]
   rw [ih (x+1) f _ (by omega) (by omega) (by simp;omega)]
   simp
  ·simp only [h,decide_false,Bool.false_eq_true,if_false]
   exact ih (x+1) f acc (by omega) (by omega) (by omega)
theorem ss_l0 (N:Nat) (hN:1010<=N) (T:Tab) (hT:T.length<=1000) (hr:∀r∈T,r.length<=1000):∀(k c f:Nat) (acc:Tab),c+k=T.length->k<f->acc.length+k<=2000 ->
  q56q_l0 N f (acc,T,(T.length:Int),(c:Int),())=some (.inl (acc++(T.drop c).map negL,())):=by
 intro k
 induction k with
 | zero=>
  intro c f acc h1 h2 h3
  obtain ⟨f,rfl⟩:∃m,f=m+1:=⟨f-1,by omega⟩
  have e:c=T.length:=by omega
  subst e
  rw [List.drop_of_length_le (Nat.le_refl _)]
  show q56q_l0_r _ _ _=_
  unfold q56q_l0_r
  simp only [lt_not,Bool.false_eq_true,if_false,List.map_nil,List.append_nil]
 | succ k ih=>
  intro c f acc h1 h2 h3
  obtain ⟨f,rfl⟩:∃m,f=m+1:=⟨f-1,by omega⟩
  have hc:c<T.length:=by omega
  have ec:at_ K_Si T c=T[c]:=at_get (e:=K_Si) hc
  have hrc:T[c].length<=1000:=hr _ (List.getElem_mem hc)
  have hin:=ss_l2 N acc T (T.length:Int) (c:Int) T[c] hrc T[c].length 0 N [] (by omega) (by omega) (by simp;omega)
  simp only [Int.natCast_zero,List.nil_append] at hin
  have hneg:setF (fun y=>decide (T[c].getD y 0<0)) T[c].length 0=negL T[c]:=rfl
  rw [hneg] at hin
  have hle:decide (acc.length+List.length [negL T[c]]<=lim)=true:=by unfold lim;simp;omega
  show q56q_l0_r _ _ _=_
  unfold q56q_l0_r
  simp only [lt_dec hc,if_true,idxIn_nat hc,Int.toNat_natCast,ec,hin,Option.bind_some,hle,small_wrap (show c<=100000 by omega)]
  rw [ih (c+1) f _ (by omega) (by omega) (by simp;omega),List.drop_eq_getElem_cons hc,List.map_cons,List.append_assoc,List.singleton_append]
theorem implSafe_lim (d) (r) (h:G_safe d=some r):∃N,F_q56q N d=some r:=by
 obtain ⟨⟨n,es,v⟩,k,_⟩:=d
 unfold G_safe at h
 split at h
 ·rename_i ho
  have ho:okL es=true:=ho
  have h:=Option.some.inj h
  subst h
  refine ⟨1010,?_⟩
  unfold F_q56q safeB
  simp only [implField (g:=(n,es,v)) ho,Option.bind_some]
  cases hf:fieldB (n,es,v) k with
  | false=>simp only [Bool.not_false,if_true,Bool.false_eq_true,if_false]
  | true=>
   obtain ⟨hg,m,q,rfl,rfl,m1,m8,q1,q3⟩:=field_parts hf
   obtain ⟨h1,_⟩:=game_impl (v:=v) hg ho m1 q3 ()
   obtain ⟨s1,s2⟩:=tm_small (es:=es) (v:=v) m8 q3
   have:=ss_l0 1010 (by omega) (tmG ((m:Int),es,v) q) (by omega) (fun r hr=>by have:=s2 r hr;omega) (tmG ((m:Int),es,v) q).length 0 1010 [] (by omega) (by omega) (by simp;omega)
   simp only [Int.natCast_zero,List.drop_zero,List.nil_append] at this
   simp only [Bool.not_true,Bool.false_eq_true,if_false,net_some hg ho,Option.bind_some,h1,this,if_true,Int.toNat_natCast]
 ·cases h
theorem specSS {n:Int} {es:List E} {v:Unit} (ho:okL es=true) (k:Int) (u:Unit):F_q60q 0 ((n,es,v),k,u)=some (safeB (n,es,v) k):=by
 unfold F_q60q safeB
 simp only [specField (g:=(n,es,v)) ho]
 cases h:fieldB (n,es,v) k with
 | false=>simp only [Option.bind_some,Bool.not_false,if_true,Bool.false_eq_true,if_false]
 | true=>
  obtain ⟨hg,m,q,rfl,rfl,m1,m8,q1,q3⟩:=field_parts h
  obtain ⟨h1,h2,_⟩:=game_spec (v:=v) hg ho q3 () ()
  obtain ⟨s1,s2⟩:=tm_small (es:=es) (v:=v) m8 q3
  have h3:G_l4Safe (tmG ((m:Int),es,v) q,())=some ((tmG ((m:Int),es,v) q).map negL,()):=by
   unfold G_l4Safe
   have a1:decide ((tmG ((m:Int),es,v) q).length<=1000)=true:=decide_eq_true (by omega)
   have a2:(tmG ((m:Int),es,v) q).all (fun r=>decide (r.length<=1000))=true:=List.all_eq_true.2 fun r hr=>decide_eq_true (by have:=s2 r hr;omega)
   simp only [a1,a2,Bool.and_self,if_true]
  simp only [Option.bind_some,Bool.not_true,Bool.false_eq_true,if_false,h1,h2,h3,if_true,Int.toNat_natCast]
theorem safe_small {g:Gr} {k:Int}:(safeB g k).1.length<=120 /\ ∀l∈(safeB g k).1,l.length<=8:=by
 unfold safeB
 split
 ·rename_i hb
  obtain ⟨n,es,v⟩:=g
  obtain ⟨hg,m,q,rfl,rfl,m1,m8,q1,q3⟩:=field_parts hb
  obtain ⟨s1,s2⟩:=tm_small (es:=es) (v:=v) m8 q3
  refine ⟨by simpa using s1,fun l hl => ?_⟩
  obtain ⟨r,hr,rfl⟩:=List.mem_map.1 hl
  have h1:=s2 r hr
  have h2:(negL r).length<=r.length:=setF_len
  omega
 ·exact ⟨by simp,fun l hl=>by simp at hl⟩
end Go.V.W
namespace Go.V.W
open Go.Proofs
def BestI (T:Tab) (b l:Int):Prop:=b<0 \/ ∃p:Nat,p<T.length/\b=(p:Int)/\l=worstR (at_ K_Si T p)
theorem bestRow_inv (T:Tab):∀(k c:Nat) (b l:Int),c+k=T.length->BestI T b l->BestI T (bestRow (T.drop c) (c:Int) b l).1 (bestRow (T.drop c) (c:Int) b l).2:=by
 intro k
 induction k with
 | zero=>
  intro c b l h h2
  rw [List.drop_of_length_le (by omega)]
  exact h2
 | succ k ih=>
  intro c b l h h2
  have hc:c<T.length:=by omega
  have ec:at_ K_Si T c=T[c]:=at_get (e:=K_Si) hc
  rw [List.drop_eq_getElem_cons hc]
  unfold bestRow
  have e1:((c:Int)+1)=((c+1:Nat):Int):=rfl
  rw [e1]
  split
  ·exact ih (c+1) (c:Int) (worstR T[c]) (by omega) (.inr ⟨c,hc,rfl,by rw [ec]⟩)
  ·exact ih (c+1) b l (by omega) h2
theorem worst_row8 {row:List Int} (h:row.length<=1000) (u:Unit):G_l4Worst (row,u)=some (worstR row,()):=by
 unfold G_l4Worst worstR
 have:okL row=true:=okL_of (by omega)
 simp only [this,if_true]
theorem worstR_max:∀{l:List Int} {m:Int},(∀x∈l,0<=x)->worstL (fun z=>z) l m=l.foldl (fun a b=>if a<b then b else a) m:=by
 intro l
 induction l with
 | nil=>intro m _;rfl
 | cons a l ih=>
  intro m h
  have ha:=h a (by simp)
  simp only [worstL,List.foldl_cons]
  rw [if_neg (by omega)]
  exact ih fun x hx=>h x (by simp [hx])
theorem max_eq {l:List Int} (h:∀x∈l,0<=x) (h1:0<l.length):l.foldl (fun a b=>if a<b then b else a) (l.headD 0)=worstR l:=by
 unfold worstR
 rw [worstR_max h]
 cases l with
 | nil=>simp at h1
 | cons a l=>
  have ha:=h a (by simp)
  simp only [List.foldl_cons,List.headD_cons,Int.lt_irrefl,if_false]
  congr 1
  by_cases h0:(0:Int)<a
  ·rw [if_pos h0]
  ·rw [if_neg h0]
   omega
theorem has_neg {l:List Int} (h:∀x∈l,-1<=x):(hasL l (-1)=true->worstR l<0)/\(hasL l (-1)=false->0<=worstR l /\ ∀x∈l,0<=x):=by
 unfold hasL worstR
 rcases worst_spec (fun z=>z) l 0 with ⟨⟨x,hx,h1⟩,h2⟩ | ⟨h1,h2,h3⟩
 ·refine ⟨fun _=>by omega,fun hh => ?_⟩
  have:=h x hx
  have e:x = -1:=by omega
  subst e
  have:(l.any fun z=>z == -1)=true:=List.any_eq_true.2 ⟨-1,hx,by simp⟩
  rw [hh] at this
  cases this
 ·refine ⟨fun hh => ?_,fun _=>⟨h2,fun x hx=>(h1 x hx).1⟩⟩
  obtain ⟨x,hx,h4⟩:=List.any_eq_true.1 hh
  have:=(h1 x hx).1
  have e:x = -1:=by simpa using h4
  have:0<=x:=this
  omega
theorem gb_l0 (N:Nat) (y:Cg) (T:Tab) (hT:T.length<=1000) (hr:∀r∈T,1<=r.length/\r.length<=1000 /\ ∀x∈r,-1<=x):∀(k c f:Nat) (b l:Int),c+k=T.length->k<f ->
  q33q_l0 N f (y,b,l,T,(T.length:Int),(c:Int),())=some (.inl (y,(bestRow (T.drop c) (c:Int) b l).1,(bestRow (T.drop c) (c:Int) b l).2,())):=by
 intro k
 induction k with
 | zero=>
  intro c f b l h1 h2
  obtain ⟨f,rfl⟩:∃m,f=m+1:=⟨f-1,by omega⟩
  have e:c=T.length:=by omega
  subst e
  rw [List.drop_of_length_le (Nat.le_refl _)]
  show q33q_l0_r _ _ _=_
  unfold q33q_l0_r
  simp only [lt_not,Bool.false_eq_true,if_false,bestRow]
 | succ k ih=>
  intro c f b l h1 h2
  obtain ⟨f,rfl⟩:∃m,f=m+1:=⟨f-1,by omega⟩
  have hc:c<T.length:=by omega
  have ec:at_ K_Si T c=T[c]:=at_get (e:=K_Si) hc
  obtain ⟨r1,r2,r3⟩:=hr _ (List.getElem_mem hc)
  obtain ⟨n1,n2⟩:=has_neg r3
  have e1:((c:Int)+1)=((c+1:Nat):Int):=rfl
  have hok:okL T[c]=true:=okL_of (by omega)
  rw [List.drop_eq_getElem_cons hc]
  show q33q_l0_r _ _ _=_
  unfold q33q_l0_r
  simp only [lt_dec hc,if_true,idxIn_nat hc,Int.toNat_natCast,ec,has2 hok,Option.bind_some,small_wrap (show c<=100000 by omega),bestRow]
  simp only [e1]
  cases hh:hasL T[c] (-1) with
  | true=>
   have hw:¬0<=worstR T[c]:=by have:=n1 hh;omega
   simp only [if_true,hw,if_false,false_and]
   exact ih (c+1) f b l (by omega) (by omega)
  | false=>
   obtain ⟨hw,hall⟩:=n2 hh
   have hmx:G_max (T[c],())=some (worstR T[c],()):=by
    unfold G_max
    have a1:decide (0<T[c].length)=true:=decide_eq_true (by omega)
    simp only [hok,a1,Bool.and_self,if_true]
    rw [max_eq hall (by omega)]
   simp only [Bool.false_eq_true,if_false,hmx,Option.bind_some,hw,true_and]
   by_cases hb:b<0
   ·simp only [hb,decide_true,if_true,true_or]
    exact ih (c+1) f (c:Int) (worstR T[c]) (by omega) (by omega)
   ·by_cases hlt:worstR T[c]<l
    ·simp only [hb,hlt,decide_true,decide_false,Bool.false_eq_true,if_true,if_false,or_true]
     exact ih (c+1) f (c:Int) (worstR T[c]) (by omega) (by omega)
    ·simp only [hb,hlt,decide_false,Bool.false_eq_true,if_false,or_self]
     exact ih (c+1) f b l (by omega) (by omega)
theorem gameBest_lim (d) (r) (h:G_copBest d=some r):∃N,F_q33q N d=some r:=by
 obtain ⟨⟨⟨l,v⟩,cf,mv,T,u⟩,_⟩:=d
 unfold G_copBest at h
 split at h
 ·rename_i hc
  rw [Bool.and_eq_true] at hc
  obtain ⟨hcg,hlow⟩:=hc
  have hlow:lowB T=true:=hlow
  obtain ⟨c1,c2,c3,c4⟩:=cgB_parts hcg
  obtain ⟨g1,g2,g3,g4⟩:=gmB_parts c3
  obtain ⟨p1,p2,p3,p4⟩:=netB_parts c1
  obtain ⟨t1,t2⟩:=rcB_parts c4
  have h:=Option.some.inj h
  subst h
  have hr:∀r∈T,1<=r.length/\r.length<=1000 /\ ∀x∈r,-1<=x:=fun r hr=>by
   unfold rcB at c4
   simp only [Bool.and_eq_true,decide_eq_true_eq,List.all_eq_true] at c4
   have h1:=c4.2 r hr
   refine ⟨by omega,by omega,fun x hx => ?_⟩
   unfold lowB at hlow
   exact of_decide_eq_true (List.all_eq_true.1 (List.all_eq_true.1 hlow r hr) x hx)
  have hl:=gb_l0 1010 ((l,v),cf,mv,T,u) T (by omega) hr T.length 0 1010 (-1) 0 (by omega) (by omega)
  have hI:=bestRow_inv T T.length 0 (-1) 0 (by omega) (.inl (by omega))
  simp only [Int.natCast_zero,List.drop_zero] at hl hI
  refine ⟨1010,?_⟩
  unfold F_q33q bestOut
  simp only [hl,Option.bind_some]
  rcases hI with hI | ⟨p,p1,p2,p3⟩
  ·simp only [hI,decide_true,if_true]
  ·have hp:p<cf.length:=by omega
   have hneg:¬((p:Int)<0):=by omega
   have hok:okL (at_ K_Si cf p)=true:=okL_of (by have:=(g3 p hp).1;omega)
   rw [at_getDS hp] at hok
   simp only [p2,hneg,decide_false,Bool.false_eq_true,if_false,idxIn_nat hp,if_true,Int.toNat_natCast,at_getDS hp,G_toIntS,hok,Option.bind_some]
 ·cases h
theorem low_tabM {m n:Nat} {f:Nat->Nat->Int} (h:∀c x,c<m->x<n -> -1<=f c x):lowB (tabM m n f)=true:=by
 unfold lowB tabM
 simp only [List.all_map,List.all_eq_true,Function.comp,List.mem_range,decide_eq_true_eq]
 intro c hc x hx
 exact h c x hc hx
theorem low_tab2 {m n:Nat} {T:Tab} (hT:rcB m n T=true) (h:lowB T=true) {c x:Nat} (hc:c<m) (hx:x<n) : -1<=tab2 T (c:Int) (x:Int):=by
 obtain ⟨t1,t2⟩:=rcB_parts hT
 have hlt:c<T.length:=by omega
 have ec:at_ K_Si T c=T[c]:=at_get (e:=K_Si) hlt
 have hl:=t2 c hc
 rw [ec] at hl
 have ex:at_ I T[c] x=T[c][x]:=at_get (e:=I) (by omega)
 rw [<- tab2_rc hT hc hx,ec,ex]
 unfold lowB at h
 exact of_decide_eq_true (List.all_eq_true.1 (List.all_eq_true.1 h _ (List.getElem_mem hlt)) _ (List.getElem_mem (by omega)))
theorem gameT_low {cf mv:List (List Int)} {ball:Int->List Int} {n:Nat}:∀(k:Nat) (t:Int) (T:Tab),0<=t->rcB cf.length n T=true->lowB T=true->lowB (gameT cf mv ball n k t T)=true:=by
 intro k
 induction k with
 | zero=>intro t T _ _ h;exact h
 | succ k ih=>
  intro t T ht h h2
  unfold gameT
  split
  ·refine ih _ _ (by omega) (rc_tabM _ _ _) (low_tabM fun c x hc hx => ?_)
   split
   ·omega
   ·exact low_tab2 h h2 hc hx
  ·exact h2
theorem tm_low (g:Gr) (k:Nat):lowB (tmG g k)=true:=gameT_low _ _ _ (by omega) (rc_tabM _ _ _) (low_tabM fun c x _ _=>by split<;>omega)
end Go.V.W
namespace Go.V.W
open Go.Proofs
structure TimI (cf mv:List (List Int)) (ball:Int->List Int) (n:Nat) (T:Tab):Prop where
 caught:∀c x:Nat,c<cf.length->x<n->hasL (cf.getD c []) (x:Int)=true->tab2 T (c:Int) (x:Int)=0
 some:∀c x:Nat,c<cf.length->x<n->0<=tab2 T (c:Int) (x:Int)->hasL (cf.getD c []) (x:Int)=true\/(1<=tab2 T (c:Int) (x:Int) /\ ∃d∈mv.getD c [],0<=afterG cf ball T d (x:Int))
theorem board_fits {m q:Nat} {es:List E} {v:Unit} (hm:m<=8) (hq:q<=3):gmB m (cfG ((m:Int),es,v) q) (mvG ((m:Int),es,v) q)=true:=by
 unfold mvG cfG
 simp only [Int.toNat_natCast]
 exact board_ok hm hq (fun x _=>by have:=ballF_len m es (x:Int);omega) (fun x _=>ballF_in es (x:Int))
end Go.V.W
namespace Go.V.W
open Go.Proofs
structure PlayI (m q:Nat) (es:List E) (v:Unit):Prop where
 hg:graphB ((m:Int),es,v)=true
 ho:okL es=true
 m1:1<=m
 m8:m<=8
 q3:q<=3
end Go.V.W
namespace Go.V.W
open Go.Proofs
structure RoundI (cf mv:List (List Int)) (ball:Int->List Int) (n:Nat) (t:Int) (T:Tab):Prop where
 pos:1<=t
 low:∀c x:Nat,c<cf.length->x<n -> -1<=tab2 T (c:Int) (x:Int)
 high:∀c x:Nat,c<cf.length->x<n->tab2 T (c:Int) (x:Int)<t
 none:∀c x:Nat,c<cf.length->x<n->tab2 T (c:Int) (x:Int)<0 -> ∀d∈mv.getD c [],0<=afterG cf ball T d (x:Int)->t-1<=afterG cf ball T d (x:Int)
 ex:∀c x:Nat,c<cf.length->x<n->1<=tab2 T (c:Int) (x:Int) -> ∃d∈mv.getD c [],0<=afterG cf ball T d (x:Int)/\afterG cf ball T d (x:Int)+1<=tab2 T (c:Int) (x:Int)
 least:∀c x:Nat,c<cf.length->x<n->1<=tab2 T (c:Int) (x:Int) -> ∀d∈mv.getD c [],0<=afterG cf ball T d (x:Int)->tab2 T (c:Int) (x:Int)<=afterG cf ball T d (x:Int)+1
 zero:∀c x:Nat,c<cf.length->x<n->(tab2 T (c:Int) (x:Int)=0↔hasL (cf.getD c []) (x:Int)=true)
theorem canG_neg {cf mv:List (List Int)} {ball:Int->List Int} {T:Tab} {c x:Nat} (h:canG cf mv ball T c x=true):tab2 T (c:Int) (x:Int)<0 /\ ∃d∈mv.getD c [],0<=afterG cf ball T d (x:Int):=by
 unfold canG at h
 rw [Bool.and_eq_true] at h
 obtain ⟨d,hd,h2⟩:=List.any_eq_true.1 h.2
 exact ⟨of_decide_eq_true h.1,d,hd,of_decide_eq_true h2⟩
theorem after_le {cf:List (List Int)} {ball:Int->List Int} {n:Nat} (hb:okBall n ball) {T:Tab} {t:Int} (ht:1<=t) (hh:∀c x:Nat,c<cf.length->x<n->tab2 T (c:Int) (x:Int)<t) {d x:Nat} (hd:d<cf.length) (hx:x<n):afterG cf ball T (d:Int) (x:Int)<=t-1:=by
 unfold afterG
 split
 ·omega
 ·rcases worst_spec (tab2 T (d:Int)) (ball (x:Int)) 0 with ⟨_,h⟩ | ⟨_,_,h | ⟨z,hz,h⟩⟩
  ·omega
  ·omega
  ·obtain ⟨y,hy,rfl⟩:=hb x hx z hz
   have:=hh d y hd hy
   omega
theorem after_round {cf mv:List (List Int)} {ball:Int->List Int} {n:Nat} (hb:okBall n ball) {T:Tab} {t:Int} (ht:1<=t) (hh:∀c x:Nat,c<cf.length->x<n->tab2 T (c:Int) (x:Int)<t) {d x:Nat} (hd:d<cf.length) (hx:x<n) :
  (0<=afterG cf ball T (d:Int) (x:Int)->afterG cf ball (stepG cf mv ball n t T) (d:Int) (x:Int)=afterG cf ball T (d:Int) (x:Int))/\(afterG cf ball T (d:Int) (x:Int)<0->0<=afterG cf ball (stepG cf mv ball n t T) (d:Int) (x:Int)->afterG cf ball (stepG cf mv ball n t T) (d:Int) (x:Int)=t):=by
 unfold afterG
 by_cases hc:hasL (cf.getD (d:Int).toNat []) (x:Int)=true
 ·rw [if_pos hc,if_pos hc]
  exact ⟨fun _=>rfl,fun h=>by omega⟩
 ·rw [if_neg hc,if_neg hc]
  constructor
  ·intro h
   rcases worst_spec (tab2 T (d:Int)) (ball (x:Int)) 0 with ⟨_,h2⟩ | ⟨hall,_,_⟩
   ·omega
   ·refine worst_congr fun z hz => ?_
    obtain ⟨y,hy,rfl⟩:=hb x hx z hz
    have:=hall (y:Int) hz
    rw [stepG_at hd hy,if_neg fun hcan => ?_]
    have:=(canG_neg hcan).1
    omega
  ·intro h h0
   rcases worst_spec (tab2 T (d:Int)) (ball (x:Int)) 0 with ⟨⟨z,hz,h2⟩,_⟩ | ⟨_,h2,_⟩
   ·obtain ⟨y,hy,rfl⟩:=hb x hx z hz
    rcases worst_spec (tab2 (stepG cf mv ball n t T) (d:Int)) (ball (x:Int)) 0 with ⟨_,h3⟩ | ⟨hall,h3,h4⟩
    ·omega
    ·have h5:=hall (y:Int) hz
     rw [stepG_at hd hy] at h5
     have hcan:canG cf mv ball T d y=true:=by
      by_cases hcan:canG cf mv ball T d y=true
      ·exact hcan
      ·rw [if_neg hcan] at h5;omega
     rw [if_pos hcan] at h5
     rcases h4 with h4 | ⟨w,hw,h4⟩
     ·omega
     ·obtain ⟨v,hv,rfl⟩:=hb x hx w hw
      rw [stepG_at hd hv] at h4
      split at h4
      ·omega
      ·have:=hh d v hd hv
       omega
   ·omega
theorem round_next {cf mv:List (List Int)} {ball:Int->List Int} {n:Nat} (hg:gmB n cf mv=true) (hb:okBall n ball) {t:Int} {T:Tab} (hI:RoundI cf mv ball n t T):RoundI cf mv ball n (t+1) (stepG cf mv ball n t T):=by
 obtain ⟨g1,g2,g3,g4⟩:=gmB_parts hg
 have ht:=hI.pos
 have hmv:∀c,c<cf.length -> ∀d∈mv.getD c [],∃e:Nat,d=(e:Int)/\e<cf.length:=fun c hc d hd=>by
  obtain ⟨m1,m2,m3⟩:=g4 c hc
  rw [m2] at hd
  exact nodeX (m3 d hd)
 refine ⟨by omega,fun c x hc hx => ?_,fun c x hc hx => ?_,fun c x hc hx h0 d hd h1 => ?_,fun c x hc hx h0 => ?_,fun c x hc hx h0 d hd h1 => ?_,fun c x hc hx => ?_⟩
 ·rw [stepG_at hc hx]
  split
  ·omega
  ·exact hI.low c x hc hx
 ·rw [stepG_at hc hx]
  split
  ·omega
  ·have:=hI.high c x hc hx;omega
 ·rw [stepG_at hc hx] at h0
  split at h0
  ·omega
  ·rename_i hcan
   obtain ⟨e,rfl,he⟩:=hmv c hc d hd
   obtain ⟨r1,r2⟩:=after_round (mv:=mv) hb ht hI.high he hx
   by_cases h2:0<=afterG cf ball T (e:Int) (x:Int)
   ·exfalso
    apply hcan
    unfold canG
    rw [Bool.and_eq_true]
    exact ⟨decide_eq_true h0,List.any_eq_true.2 ⟨(e:Int),hd,decide_eq_true h2⟩⟩
   ·rw [r2 (by omega) h1]
    omega
 ·rw [stepG_at hc hx] at h0 |-
  split at h0
  ·rename_i hcan
   rw [if_pos hcan]
   obtain ⟨h2,d,hd,h3⟩:=canG_neg hcan
   obtain ⟨e,rfl,he⟩:=hmv c hc d hd
   obtain ⟨r1,r2⟩:=after_round (mv:=mv) hb ht hI.high he hx
   have hle:=after_le hb ht hI.high he hx
   exact ⟨(e:Int),hd,by rw [r1 h3];exact h3,by rw [r1 h3];omega⟩
  ·rename_i hcan
   rw [if_neg hcan]
   obtain ⟨d,hd,h3,h4⟩:=hI.ex c x hc hx h0
   obtain ⟨e,rfl,he⟩:=hmv c hc d hd
   obtain ⟨r1,r2⟩:=after_round (mv:=mv) hb ht hI.high he hx
   exact ⟨(e:Int),hd,by rw [r1 h3];exact h3,by rw [r1 h3];exact h4⟩
 ·rw [stepG_at hc hx] at h0 |-
  obtain ⟨e,rfl,he⟩:=hmv c hc d hd
  obtain ⟨r1,r2⟩:=after_round (mv:=mv) hb ht hI.high he hx
  split at h0
  ·rename_i hcan
   rw [if_pos hcan]
   obtain ⟨h2,_⟩:=canG_neg hcan
   by_cases h3:0<=afterG cf ball T (e:Int) (x:Int)
   ·rw [r1 h3]
    have:=hI.none c x hc hx h2 (e:Int) hd h3
    omega
   ·rw [r2 (by omega) h1]
    omega
  ·rename_i hcan
   rw [if_neg hcan]
   by_cases h3:0<=afterG cf ball T (e:Int) (x:Int)
   ·rw [r1 h3]
    exact hI.least c x hc hx h0 (e:Int) hd h3
   ·rw [r2 (by omega) h1]
    have:=hI.high c x hc hx
    omega
 ·have hz:=hI.zero c x hc hx
  rw [stepG_at hc hx]
  by_cases hcan:canG cf mv ball T c x=true
  ·rw [if_pos hcan]
   obtain ⟨h2,_⟩:=canG_neg hcan
   constructor
   ·intro h;omega
   ·intro h
    have:=hz.2 h
    omega
  ·rw [if_neg hcan]
   exact hz
theorem round_start {cf mv:List (List Int)} {ball:Int->List Int} {n:Nat} (hg:gmB n cf mv=true) (hb:okBall n ball):RoundI cf mv ball n 1 (startG cf n):=by
 have e:∀c x:Nat,c<cf.length->x<n->tab2 (startG cf n) (c:Int) (x:Int)=if hasL (cf.getD c []) (x:Int)=true then 0 else -1:=fun c x hc hx=>tab2_tabM _ hc hx
 refine ⟨by omega,fun c x hc hx => ?_,fun c x hc hx => ?_,fun c x hc hx h0 d hd h1=>by omega,fun c x hc hx h0 => ?_,fun c x hc hx h0 d hd h1 => ?_,fun c x hc hx => ?_⟩
 ·rw [e c x hc hx];split<;>omega
 ·rw [e c x hc hx];split<;>omega
 ·rw [e c x hc hx] at h0;split at h0<;>omega
 ·rw [e c x hc hx] at h0;split at h0<;>omega
 ·rw [e c x hc hx]
  by_cases h:hasL (cf.getD c []) (x:Int)=true
  ·simp [h]
  ·simp [h]
structure TimesI (cf mv:List (List Int)) (ball:Int->List Int) (n:Nat) (T:Tab):Prop where
 low:∀c x:Nat,c<cf.length->x<n -> -1<=tab2 T (c:Int) (x:Int)
 none:∀c x:Nat,c<cf.length->x<n->tab2 T (c:Int) (x:Int)<0 -> ∀d∈mv.getD c [],afterG cf ball T d (x:Int)<0
 ex:∀c x:Nat,c<cf.length->x<n->1<=tab2 T (c:Int) (x:Int) -> ∃d∈mv.getD c [],0<=afterG cf ball T d (x:Int)/\afterG cf ball T d (x:Int)+1<=tab2 T (c:Int) (x:Int)
 least:∀c x:Nat,c<cf.length->x<n->1<=tab2 T (c:Int) (x:Int) -> ∀d∈mv.getD c [],0<=afterG cf ball T d (x:Int)->tab2 T (c:Int) (x:Int)<=afterG cf ball T d (x:Int)+1
 zero:∀c x:Nat,c<cf.length->x<n->(tab2 T (c:Int) (x:Int)=0↔hasL (cf.getD c []) (x:Int)=true)
theorem gameT_times {cf mv:List (List Int)} {ball:Int->List Int} {n:Nat} (hg:gmB n cf mv=true) (hb:okBall n ball):∀(k:Nat) (t:Int) (T:Tab),negsM cf.length n T<k->RoundI cf mv ball n t T->TimesI cf mv ball n (gameT cf mv ball n k t T):=by
 intro k
 induction k with
 | zero=>intro t T h;omega
 | succ k ih=>
  intro t T hn hI
  unfold gameT
  by_cases ha:anyG cf mv ball n T=true
  ·rw [if_pos ha]
   have hp:=hI.pos
   have:=negsM_step (t:=t) (by omega) ha
   exact ih (t+1) _ (by omega) (round_next hg hb hI)
  ·rw [if_neg ha]
   refine ⟨hI.low,fun c x hc hx h0 d hd=>Int.not_le.1 fun h1=>ha ?_,hI.ex,hI.least,hI.zero⟩
   refine anyG_spec.2 ⟨c,x,hc,hx,?_⟩
   unfold canG
   rw [Bool.and_eq_true]
   exact ⟨decide_eq_true h0,List.any_eq_true.2 ⟨d,hd,decide_eq_true h1⟩⟩
theorem gtimes_facts {cf mv:List (List Int)} {ball:Int->List Int} {n:Nat} (hn:n<=8) (hg:gmB n cf mv=true) (hb:okBall n ball):TimesI cf mv ball n (timesG cf mv ball n):=by
 obtain ⟨g1,_⟩:=gmB_parts hg
 have hneg:=negsM_le cf.length n (startG cf n)
 have hmul:cf.length*n<=120*8:=Nat.mul_le_mul g1 hn
 exact gameT_times hg hb 1000 1 _ (by omega) (round_start hg hb)
theorem row_any {m n:Nat} {T:Tab} (hT:rcB m n T=true) {c:Nat} (hc:c<m):T.getD c []=(List.range n).map fun (x:Nat)=>tab2 T (c:Int) (x:Int):=by
 obtain ⟨t1,t2⟩:=rcB_parts hT
 rw [<- row_rc hT hc,at_getDS (by omega)]
theorem worst_iff {m n:Nat} {T:Tab} (hT:rcB m n T=true) {c:Nat} (hc:c<m):0<=worstR (T.getD c []) ↔ ∀x:Nat,x<n->0<=tab2 T (c:Int) (x:Int):=by
 rw [row_any hT hc]
 unfold worstR
 rcases worst_spec (fun z=>z) ((List.range n).map fun (x:Nat)=>tab2 T (c:Int) (x:Int)) 0 with ⟨⟨z,hz,h1⟩,h2⟩ | ⟨h1,h2,_⟩
 ·constructor
  ·intro h;omega
  ·intro h
   obtain ⟨x,hx,rfl⟩:=List.mem_map.1 hz
   have:=h x (List.mem_range.1 hx)
   omega
 ·refine ⟨fun _ x hx => ?_,fun _=>h2⟩
  exact (h1 _ (List.mem_map.2 ⟨x,List.mem_range.2 hx,rfl⟩)).1
theorem win_iff {m n:Nat} {T:Tab} (hT:rcB m n T=true):winB T=true ↔ ∃c,c<m /\ ∀x:Nat,x<n->0<=tab2 T (c:Int) (x:Int):=by
 obtain ⟨t1,t2⟩:=rcB_parts hT
 unfold winB
 rw [List.any_eq_true]
 constructor
 ·rintro ⟨r,hr,h⟩
  obtain ⟨c,hc,rfl⟩:=List.getElem_of_mem hr
  refine ⟨c,by omega,(worst_iff hT (by omega)).1 ?_⟩
  rw [List.getD_eq_getElem?_getD,List.getElem?_eq_getElem hc]
  exact of_decide_eq_true h
 ·rintro ⟨c,hc,h⟩
  have hlt:c<T.length:=by omega
  refine ⟨T[c],List.getElem_mem hlt,decide_eq_true ?_⟩
  have:=(worst_iff hT hc).2 h
  rw [List.getD_eq_getElem?_getD,List.getElem?_eq_getElem hlt] at this
  exact this
theorem neg_mem {m n:Nat} {T:Tab} (hT:rcB m n T=true) {c:Nat} (hc:c<m) {z:Int}:z∈negL (T.getD c []) ↔ ∃x:Nat,x<n/\z=(x:Int)/\tab2 T (c:Int) (x:Int)<0:=by
 obtain ⟨t1,t2⟩:=rcB_parts hT
 have hlt:c<T.length:=by omega
 have hlen:=t2 c hc
 rw [at_getDS hlt] at hlen
 have hget:∀x,x<n->(T.getD c []).getD x 0=tab2 T (c:Int) (x:Int):=fun x hx=>by
  unfold tab2
  simp only [Int.toNat_natCast]
 unfold negL
 rw [setF_mem]
 constructor
 ·rintro ⟨y,_,h2,h3,rfl⟩
  have hy:y<n:=by omega
  refine ⟨y,hy,rfl,?_⟩
  rw [<- hget y hy]
  exact of_decide_eq_true h3
 ·rintro ⟨x,hx,rfl,h⟩
  exact ⟨x,Nat.zero_le _,by omega,by rw [hget x hx];exact decide_eq_true h,rfl⟩
theorem evas_parts {n:Nat} {cf mv:List (List Int)} {ball:Int->List Int} {sets:List (List Int)} (h:evasB (n:Int) cf mv ball sets=true):sets.length=cf.length /\ ∀c,c<cf.length->nodeSetB (n:Int) (sets.getD c [])=true/\0<(sets.getD c []).length /\ ∀x∈sets.getD c [],hasL (cf.getD c []) x=false/\evadeB cf mv ball sets c x=true:=by
 unfold evasB at h
 simp only [Bool.and_eq_true,decide_eq_true_eq,List.all_eq_true,List.mem_range,Bool.not_eq_true'] at h
 refine ⟨h.1,fun c hc => ?_⟩
 obtain ⟨⟨h1,h2⟩,h3⟩:=h.2 c (by omega)
 exact ⟨h1,h2,h3⟩
theorem set_in {n:Nat} {s:List Int} (h:nodeSetB (n:Int) s=true):∀x∈s,∃y:Nat,x=(y:Int)/\y<n:=fun x hx=>by
 unfold nodeSetB at h
 rw [Bool.and_eq_true] at h
 exact nodeX (List.all_eq_true.1 h.1 x hx)
theorem evas_neg {n:Nat} (hn:n<=8) {cf mv:List (List Int)} {ball:Int->List Int} (hg:gmB n cf mv=true) (hb:okBall n ball) {sets:List (List Int)} (h:evasB (n:Int) cf mv ball sets=true) :
  ∀(k:Nat) (t:Int) (T:Tab),(∀c x:Nat,c<cf.length->x<n->(x:Int)∈sets.getD c []->tab2 T (c:Int) (x:Int)<0) -> ∀c x:Nat,c<cf.length->x<n->(x:Int)∈sets.getD c []->tab2 (gameT cf mv ball n k t T) (c:Int) (x:Int)<0:=by
 obtain ⟨g1,g2,g3,g4⟩:=gmB_parts hg
 obtain ⟨s1,s2⟩:=evas_parts h
 intro k
 induction k with
 | zero=>intro t T hT;exact hT
 | succ k ih=>
  intro t T hT
  unfold gameT
  split
  ·refine ih _ _ fun c x hc hx hm => ?_
   rw [stepG_at hc hx]
   split
   ·rename_i hcan
    exfalso
    obtain ⟨h1,d,hd,h2⟩:=canG_neg hcan
    obtain ⟨m1,m2,m3⟩:=g4 c hc
    have hdm:=hd
    rw [m2] at hdm
    obtain ⟨e,rfl,he⟩:=nodeX (m3 d hdm)
    have hev:=((s2 c hc).2.2 (x:Int) hm).2
    unfold evadeB at hev
    have hev2:=List.all_eq_true.1 hev (e:Int) hd
    simp only [Bool.and_eq_true,Bool.not_eq_true',Int.toNat_natCast] at hev2
    obtain ⟨y,hy,hys⟩:=List.any_eq_true.1 hev2.2
    obtain ⟨w,hw,rfl⟩:=hb x hx y hy
    have hmem:(w:Int)∈sets.getD e []:=by
     unfold hasL at hys
     obtain ⟨z,hz,e2⟩:=List.any_eq_true.1 hys
     have:z=(w:Int):=by simpa using e2
     rw [<- this]
     exact hz
    have hneg:=hT e w he hw hmem
    unfold afterG at h2
    rw [Int.toNat_natCast,hev2.1] at h2
    simp only [Bool.false_eq_true,if_false] at h2
    rcases worst_spec (tab2 T (e:Int)) (ball (x:Int)) 0 with ⟨_,h3⟩ | ⟨hall,_,_⟩
    ·omega
    ·have:=(hall (w:Int) hy).1
     omega
   ·exact hT c x hc hx hm
  ·exact hT
theorem evas_times {n:Nat} (hn:n<=8) {cf mv:List (List Int)} {ball:Int->List Int} (hg:gmB n cf mv=true) (hb:okBall n ball) {sets:List (List Int)} (h:evasB (n:Int) cf mv ball sets=true):∀c x:Nat,c<cf.length->x<n->(x:Int)∈sets.getD c []->tab2 (timesG cf mv ball n) (c:Int) (x:Int)<0:=by
 obtain ⟨s1,s2⟩:=evas_parts h
 refine evas_neg hn hg hb h 1000 1 (startG cf n) fun c x hc hx hm => ?_
 have e:tab2 (startG cf n) (c:Int) (x:Int)=if hasL (cf.getD c []) (x:Int)=true then 0 else -1:=tab2_tabM _ hc hx
 rw [e,((s2 c hc).2.2 (x:Int) hm).1]
 decide
theorem evas_lose {n:Nat} (hn:n<=8) {cf mv:List (List Int)} {ball:Int->List Int} (hg:gmB n cf mv=true) (hb:okBall n ball) {sets:List (List Int)} (h:evasB (n:Int) cf mv ball sets=true):winB (timesG cf mv ball n)=false:=by
 cases hw:winB (timesG cf mv ball n) with
 | false=>rfl
 | true=>
  obtain ⟨c,hc,h1⟩:=(win_iff (times_rc cf mv ball n)).1 hw
  obtain ⟨s1,s2⟩:=evas_parts h
  obtain ⟨h2,h3,h4⟩:=s2 c hc
  have hm:=List.getElem_mem h3
  obtain ⟨y,ey,hy⟩:=set_in h2 _ hm
  rw [ey] at hm
  have:=evas_times hn hg hb h c y hc hy hm
  have:=h1 y hy
  omega
end Go.V.W
namespace Go.V.W
open Go.Proofs
theorem all_pr {n:Nat} {cf mv:List (List Int)} {ball:Int->List Int} {T:Tab}:allPrB n cf mv ball T=true ↔ ∀c x:Nat,c<cf.length->x<n->provB cf mv ball T c x=true:=by
 unfold allPrB
 simp only [List.all_eq_true,List.mem_range]
 exact ⟨fun h c x hc hx=>h c hc x hx,fun h c hc x hx=>h c x hc hx⟩
theorem times_proof {n:Nat} (hn:n<=8) {cf mv:List (List Int)} {ball:Int->List Int} (hg:gmB n cf mv=true) (hb:okBall n ball):proofB n cf mv ball (timesG cf mv ball n)=winB (timesG cf mv ball n):=by
 have hI:=gtimes_facts hn hg hb
 have hrc:=times_rc cf mv ball n
 have h1:tabOkB n cf (timesG cf mv ball n)=true:=by
  unfold tabOkB
  have h2:=hrc
  unfold rcB at h2
  simp only [Bool.and_eq_true,decide_eq_true_eq,List.all_eq_true] at h2 |-
  refine ⟨h2.1,fun r hr=>⟨h2.2 r hr,fun v hv => ?_⟩⟩
  obtain ⟨c,hc,rfl⟩:=List.getElem_of_mem hr
  obtain ⟨x,hx,rfl⟩:=List.getElem_of_mem hv
  have hlow:=hI.low c x (by omega) (by have:=h2.2 _ hr;omega)
  have e1:at_ K_Si (timesG cf mv ball n) c=(timesG cf mv ball n)[c]:=at_get (e:=K_Si) hc
  have e2:at_ I (timesG cf mv ball n)[c] x=(timesG cf mv ball n)[c][x]:=at_get (e:=I) hx
  have h3:=tab2_rc hrc (c:=c) (x:=x) (by omega) (by have:=h2.2 _ hr;omega)
  rw [e1,e2] at h3
  rw [h3]
  exact hlow
 have h2:allPrB n cf mv ball (timesG cf mv ball n)=true:=all_pr.2 fun c x hc hx=>by
  unfold provB
  by_cases h:tab2 (timesG cf mv ball n) (c:Int) (x:Int)<=0
  ·rw [if_pos h,Bool.or_eq_true,decide_eq_true_eq]
   rcases Int.lt_or_eq_of_le h with h' | h'
   ·exact .inl h'
   ·exact .inr ((hI.zero c x hc hx).1 h')
  ·rw [if_neg h]
   obtain ⟨d,hd,h3,h4⟩:=hI.ex c x hc hx (by omega)
   exact List.any_eq_true.2 ⟨d,hd,inB_iff.2 (by omega)⟩
 unfold proofB
 rw [h1,h2,Bool.and_self,Bool.true_and]
theorem tabOk_rc {n:Nat} {cf:List (List Int)} {T:Tab} (h:tabOkB n cf T=true):rcB cf.length n T=true:=by
 unfold tabOkB at h
 unfold rcB
 simp only [Bool.and_eq_true,decide_eq_true_eq,List.all_eq_true] at h |-
 exact ⟨h.1,fun r hr=>(h.2 r hr).1⟩
theorem proof_least {n:Nat} (hn:n<=8) {cf mv:List (List Int)} {ball:Int->List Int} (hg:gmB n cf mv=true) (hb:okBall n ball) {P:Tab} (hP:∀c x:Nat,c<cf.length->x<n->provB cf mv ball P c x=true) :
  ∀(v:Nat) (c x:Nat),c<cf.length->x<n->tab2 P (c:Int) (x:Int)=(v:Int)->0<=tab2 (timesG cf mv ball n) (c:Int) (x:Int)/\tab2 (timesG cf mv ball n) (c:Int) (x:Int)<=(v:Int):=by
 have hI:=gtimes_facts hn hg hb
 obtain ⟨g1,g2,g3,g4⟩:=gmB_parts hg
 intro v
 induction v using Nat.strongRecOn with
 | ind v ih=>
  intro c x hc hx hv
  have hp:=hP c x hc hx
  unfold provB at hp
  rw [hv] at hp
  by_cases h0:v=0
  ·subst h0
   simp at hp
   have:=(hI.zero c x hc hx).2 (by
    rw [List.getD_eq_getElem?_getD]
    exact hp)
   omega
  ·rw [if_neg (by omega)] at hp
   obtain ⟨d,hd,h1⟩:=List.any_eq_true.1 hp
   have h1:=inB_iff.1 h1
   obtain ⟨m1,m2,m3⟩:=g4 c hc
   have hd2:=hd
   rw [m2] at hd2
   obtain ⟨e,rfl,he⟩:=nodeX (m3 d hd2)
   have key:0<=afterG cf ball (timesG cf mv ball n) (e:Int) (x:Int)/\afterG cf ball (timesG cf mv ball n) (e:Int) (x:Int)<=(v:Int)-1:=by
    unfold afterG at h1 |-
    by_cases hh:hasL (cf.getD (e:Int).toNat []) (x:Int)=true
    ·rw [if_pos hh]
     omega
    ·rw [if_neg hh] at h1 |-
     rcases worst_spec (tab2 P (e:Int)) (ball (x:Int)) 0 with ⟨_,h2⟩ | ⟨hall,_,_⟩
     ·omega
     ·have hy:∀z∈ball (x:Int),0<=tab2 (timesG cf mv ball n) (e:Int) z/\tab2 (timesG cf mv ball n) (e:Int) z<=(v:Int)-1:=fun z hz=>by
       obtain ⟨y,hy,rfl⟩:=hb x hx z hz
       have h3:=hall (y:Int) hz
       have h4:=ih (tab2 P (e:Int) (y:Int)).toNat (by omega) e y he hy (by omega)
       omega
      rcases worst_spec (tab2 (timesG cf mv ball n) (e:Int)) (ball (x:Int)) 0 with ⟨⟨z,hz,h3⟩,_⟩ | ⟨_,h3,h4 | ⟨z,hz,h4⟩⟩
      ·have:=hy z hz;omega
      ·omega
      ·have:=hy z hz;omega
   rcases Int.lt_or_le (tab2 (timesG cf mv ball n) (c:Int) (x:Int)) 0 with h2 | h2
   ·have:=hI.none c x hc hx h2 (e:Int) hd
    omega
   ·refine ⟨h2,?_⟩
    rcases Int.lt_or_le (tab2 (timesG cf mv ball n) (c:Int) (x:Int)) 1 with h3 | h3
    ·omega
    ·have:=hI.least c x hc hx h3 (e:Int) hd key.1
     omega
theorem proof_parts {n:Nat} {cf mv:List (List Int)} {ball:Int->List Int} {P:Tab} (h:proofB n cf mv ball P=true):tabOkB n cf P=true/\(∀c x:Nat,c<cf.length->x<n->provB cf mv ball P c x=true)/\winB P=true:=by
 unfold proofB at h
 simp only [Bool.and_eq_true] at h
 exact ⟨h.1.1,all_pr.1 h.1.2,h.2⟩
theorem proof_times {n:Nat} (hn:n<=8) {cf mv:List (List Int)} {ball:Int->List Int} (hg:gmB n cf mv=true) (hb:okBall n ball) {P:Tab} (h:proofB n cf mv ball P=true) {c x:Nat} (hc:c<cf.length) (hx:x<n) (h0:0<=tab2 P (c:Int) (x:Int)):0<=tab2 (timesG cf mv ball n) (c:Int) (x:Int)/\tab2 (timesG cf mv ball n) (c:Int) (x:Int)<=tab2 P (c:Int) (x:Int):=by
 obtain ⟨h1,h2,h3⟩:=proof_parts h
 have:=proof_least hn hg hb h2 (tab2 P (c:Int) (x:Int)).toNat c x hc hx (by omega)
 omega
theorem proof_win {n:Nat} (hn:n<=8) {cf mv:List (List Int)} {ball:Int->List Int} (hg:gmB n cf mv=true) (hb:okBall n ball) {P:Tab} (h:proofB n cf mv ball P=true):winB (timesG cf mv ball n)=true:=by
 obtain ⟨h1,h2,h3⟩:=proof_parts h
 obtain ⟨c,hc,h4⟩:=(win_iff (tabOk_rc h1)).1 h3
 exact (win_iff (times_rc cf mv ball n)).2 ⟨c,hc,fun x hx=>(proof_times hn hg hb h hc hx (h4 x hx)).1⟩
theorem setF_risingB (p:Nat->Bool):∀(k x:Nat),risingB (setF p k x)=true /\ ∀z∈setF p k x,(x:Int)<=z:=by
 intro k
 induction k with
 | zero=>intro x;exact ⟨rfl,fun z hz=>by simp [setF] at hz⟩
 | succ k ih=>
  intro x
  obtain ⟨i1,i2⟩:=ih (x+1)
  unfold setF
  split
  ·refine ⟨?_,fun z hz => ?_⟩
   ·cases hs:setF p k (x+1) with
    | nil=>rfl
    | cons a l=>
     have:=i2 a (by rw [hs];simp)
     rw [hs] at i1
     unfold risingB
     rw [Bool.and_eq_true]
     exact ⟨decide_eq_true (by omega),i1⟩
   ·rcases List.mem_cons.1 hz with rfl | hz
    ·exact Int.le_refl _
    ·have:=i2 z hz;omega
  ·exact ⟨i1,fun z hz=>by have:=i2 z hz;omega⟩
theorem map_negL (T:Tab) (c:Nat):(T.map negL).getD c []=negL (T.getD c []):=by
 rw [List.getD_eq_getElem?_getD,List.getElem?_map,List.getD_eq_getElem?_getD]
 cases T[c]? with
 | none=>rfl
 | some r=>rfl
theorem has_mem {l:List Int} {x:Int}:hasL l x=true↔x∈l:=by
 unfold hasL
 rw [List.any_eq_true]
 constructor
 ·rintro ⟨z,hz,h⟩
  have:z=x:=by simpa using h
  rw [<- this]
  exact hz
 ·intro h
  exact ⟨x,h,by simp⟩
theorem safe_evas {n:Nat} (hn:n<=8) {cf mv:List (List Int)} {ball:Int->List Int} (hg:gmB n cf mv=true) (hb:okBall n ball):evasB (n:Int) cf mv ball ((timesG cf mv ball n).map negL) = !winB (timesG cf mv ball n):=by
 have hI:=gtimes_facts hn hg hb
 have hrc:=times_rc cf mv ball n
 obtain ⟨t1,t2⟩:=rcB_parts hrc
 obtain ⟨g1,g2,g3,g4⟩:=gmB_parts hg
 cases hw:winB (timesG cf mv ball n) with
 | true=>
  cases he:evasB (n:Int) cf mv ball ((timesG cf mv ball n).map negL) with
  | false=>rfl
  | true=>
   have:=evas_lose hn hg hb he
   rw [hw] at this
   cases this
 | false=>
  unfold evasB
  simp only [List.length_map,Bool.not_false,Bool.and_eq_true,decide_eq_true_eq,List.all_eq_true,List.mem_range,map_negL,Bool.not_eq_true']
  refine ⟨t1,fun c hc => ?_⟩
  have hc:c<cf.length:=by omega
  have hlen:=t2 c hc
  rw [at_getDS (show c<(timesG cf mv ball n).length by omega)] at hlen
  refine ⟨⟨?_,?_⟩,fun z hz => ?_⟩
  ·unfold nodeSetB
   rw [Bool.and_eq_true]
   refine ⟨List.all_eq_true.2 fun z hz => ?_,(setF_risingB _ _ _).1⟩
   obtain ⟨x,hx,rfl,_⟩:=(neg_mem hrc hc).1 hz
   exact inB_iff.2 (by omega)
  ·have:¬ ∀x:Nat,x<n->0<=tab2 (timesG cf mv ball n) (c:Int) (x:Int):=fun hall=>by
    have:=(win_iff hrc).2 ⟨c,hc,hall⟩
    rw [hw] at this
    cases this
   obtain ⟨x,hx⟩:=Classical.not_forall.1 this
   obtain ⟨hx,h⟩:=Classical.not_imp.1 hx
   exact List.length_pos_of_mem ((neg_mem hrc hc).2 ⟨x,hx,rfl,by omega⟩)
  ·obtain ⟨x,hx,rfl,h⟩:=(neg_mem hrc hc).1 hz
   refine ⟨?_,?_⟩
   ·cases hh:hasL (cf.getD c []) (x:Int) with
    | false=>rfl
    | true=>
     have:=(hI.zero c x hc hx).2 hh
     omega
   ·unfold evadeB
    refine List.all_eq_true.2 fun d hd => ?_
    have haf:=hI.none c x hc hx h d hd
    obtain ⟨m1,m2,m3⟩:=g4 c hc
    have hd2:=hd
    rw [m2] at hd2
    obtain ⟨e,rfl,he⟩:=nodeX (m3 d hd2)
    unfold afterG at haf
    rw [Int.toNat_natCast] at haf |-
    split at haf
    ·omega
    ·rename_i hh
     have hh:hasL (cf.getD e []) (x:Int)=false:=(Bool.not_eq_true _).mp hh
     rw [hh,Bool.not_false,Bool.true_and,List.any_eq_true]
     rcases worst_spec (tab2 (timesG cf mv ball n) (e:Int)) (ball (x:Int)) 0 with ⟨⟨z,hz,h2⟩,_⟩ | ⟨_,h2,_⟩
     ·obtain ⟨y,hy,rfl⟩:=hb x hx z hz
      refine ⟨(y:Int),hz,?_⟩
      rw [map_negL]
      exact has_mem.2 ((neg_mem hrc he).2 ⟨y,hy,rfl,h2⟩)
     ·omega
end Go.V.W
namespace Go.V.W
open Go.Proofs
theorem okL_mx {α:Type} {l:List α} (h:okL l=true):l.length<=maxLen:=lim_max (of_decide_eq_true h)
theorem rHas_lim (d) (r) (h:G_rHas d=some r):∃N,F_laws_rHas N d=some r:=by
 obtain ⟨l,x,_⟩:=d
 unfold G_rHas at h
 split at h
 ·rename_i hl
  have hl:okL l=true:=hl
  have hmx:=okL_mx hl
  have h:=Option.some.inj h
  subst h
  refine ⟨l.length+1,?_⟩
  unfold F_laws_rHas
  have:=loop_idx (L:=laws_rHas_l0 (l.length+1)) (r:=laws_rHas_l0_r (l.length+1)) (fun _ _=>rfl) (e:=I) l (mk:=fun i=>(l,x,(i:Int),())) (q:=fun z=>z==x) (o:=fun _=>.inl (true,())) (f:=.inr (.inl ()))
   (by
    intro back i hi
    unfold laws_rHas_l0_r
    simp only [lt_dec hi,if_true,idxIn_nat hi,Int.toNat_natCast,wrap_up hi hmx])
   (by intro back;unfold laws_rHas_l0_r;simp only [lt_not,Bool.false_eq_true,if_false]) l.length 0 (by omega) (by omega)
  simp only [Int.natCast_zero,List.drop_zero] at this
  have hge:=idxI_ge (fun z=>z==x) l 0
  simp only [this,Option.bind_some]
  unfold hasL
  cases hi:idxN (fun z=>z==x) l 0 with
  | none=>
   rw [hi] at hge
   have:(l.any fun z=>z==x)=false:=by rw [<- hge];rfl
   simp only [this]
  | some j=>
   rw [hi] at hge
   have:(l.any fun z=>z==x)=true:=by
    rw [<- hge]
    simp [idxI]
   simp only [this]
 ·cases h
theorem ri_l0 (N:Nat) (a b:List Int) (hl:a.length=b.length) (hmx:a.length<=maxLen):∀k i f,i+k=a.length->k<f -> ∃o,laws_rInts_l0 N f (a,b,(i:Int),())=some o/\((o=.inl (false,()) /\ ¬a.drop i=b.drop i)\/(o=.inr (.inl ())/\a.drop i=b.drop i)):=by
 intro k
 induction k with
 | zero=>
  intro i f h1 h2
  obtain ⟨f,rfl⟩:∃m,f=m+1:=⟨f-1,by omega⟩
  have e:i=a.length:=by omega
  refine ⟨.inr (.inl ()),?_,.inr ⟨rfl,by rw [List.drop_of_length_le (by omega),List.drop_of_length_le (by omega)]⟩⟩
  subst e
  show laws_rInts_l0_r _ _ _=_
  unfold laws_rInts_l0_r
  simp only [lt_not,Bool.false_eq_true,if_false]
 | succ k ih=>
  intro i f h1 h2
  obtain ⟨f,rfl⟩:∃m,f=m+1:=⟨f-1,by omega⟩
  have hi:i<a.length:=by omega
  have hi2:i<b.length:=by omega
  have ea:at_ I a i=a[i]:=at_get (e:=I) hi
  have eb:at_ I b i=b[i]:=at_get (e:=I) hi2
  obtain ⟨o,o1,o2⟩:=ih (i+1) f (by omega) (by omega)
  rw [List.drop_eq_getElem_cons hi,List.drop_eq_getElem_cons hi2]
  have step:laws_rInts_l0 N (f+1) (a,b,(i:Int),())=if (a[i] != b[i])=true then some (.inl (false,())) else laws_rInts_l0 N f (a,b,((i+1:Nat):Int),()):=by
   show laws_rInts_l0_r _ _ _=_
   unfold laws_rInts_l0_r
   simp only [lt_dec hi,if_true,idxIn_nat hi,idxIn_nat hi2,Int.toNat_natCast,ea,eb,wrap_up hi hmx]
  rw [step]
  by_cases e:a[i]=b[i]
  ·have:(a[i] != b[i])=false:=by simp [e]
   rw [this]
   simp only [Bool.false_eq_true,if_false]
   refine ⟨o,o1,?_⟩
   rcases o2 with ⟨p1,p2⟩ | ⟨p1,p2⟩
   ·exact .inl ⟨p1,fun h=>p2 (List.cons.inj h).2⟩
   ·exact .inr ⟨p1,by rw [e,p2]⟩
  ·have:(a[i] != b[i])=true:=by simp [e]
   rw [this]
   simp only [if_true]
   exact ⟨_,rfl,.inl ⟨rfl,fun h=>e (List.cons.inj h).1⟩⟩
theorem rInts_lim (d) (r) (h:G_rInts d=some r):∃N,F_laws_rInts N d=some r:=by
 obtain ⟨a,b,_⟩:=d
 unfold G_rInts at h
 split at h
 ·rename_i hl
  have hl:okL a=true:=hl
  have hmx:=okL_mx hl
  have h:=Option.some.inj h
  subst h
  refine ⟨a.length+1,?_⟩
  unfold F_laws_rInts
  by_cases hne:a.length=b.length
  ·have e:((a.length:Int) != (b.length:Int))=false:=by simp;omega
   obtain ⟨o,o1,o2⟩:=ri_l0 (a.length+1) a b hne hmx a.length 0 (a.length+1) (by omega) (by omega)
   simp only [Int.natCast_zero,List.drop_zero] at o1 o2
   simp only [e,Bool.false_eq_true,if_false,o1,Option.bind_some]
   rcases o2 with ⟨rfl,h2⟩ | ⟨rfl,h2⟩
   ·simp only [h2,decide_false]
   ·simp only [h2,decide_true]
  ·have e:((a.length:Int) != (b.length:Int))=true:=by simp;omega
   have h2:¬a=b:=fun h=>hne (by rw [h])
   simp only [e,if_true,h2,decide_false]
 ·cases h
theorem rt_l0 (N:Nat) (a b:List (List Int)) (hl:a.length=b.length) (hok:a.all okL=true) (hmx:a.length<=maxLen):∀k i f,i+k=a.length->k<f -> ∃o,q79q_l0 N f (a,b,(i:Int),())=some o/\((o=.inl (false,()) /\ ¬a.drop i=b.drop i)\/(o=.inr (.inl ())/\a.drop i=b.drop i)):=by
 intro k
 induction k with
 | zero=>
  intro i f h1 h2
  obtain ⟨f,rfl⟩:∃m,f=m+1:=⟨f-1,by omega⟩
  have e:i=a.length:=by omega
  refine ⟨.inr (.inl ()),?_,.inr ⟨rfl,by rw [List.drop_of_length_le (by omega),List.drop_of_length_le (by omega)]⟩⟩
  subst e
  show q79q_l0_r _ _ _=_
  unfold q79q_l0_r
  simp only [lt_not,Bool.false_eq_true,if_false]
 | succ k ih=>
  intro i f h1 h2
  obtain ⟨f,rfl⟩:∃m,f=m+1:=⟨f-1,by omega⟩
  have hi:i<a.length:=by omega
  have hi2:i<b.length:=by omega
  have ea:at_ K_Si a i=a[i]:=at_get (e:=K_Si) hi
  have eb:at_ K_Si b i=b[i]:=at_get (e:=K_Si) hi2
  have hoi:okL a[i]=true:=List.all_eq_true.1 hok _ (List.getElem_mem hi)
  obtain ⟨o,o1,o2⟩:=ih (i+1) f (by omega) (by omega)
  rw [List.drop_eq_getElem_cons hi,List.drop_eq_getElem_cons hi2]
  have step:q79q_l0 N (f+1) (a,b,(i:Int),())=if (!decide (a[i]=b[i]))=true then some (.inl (false,())) else q79q_l0 N f (a,b,((i+1:Nat):Int),()):=by
   show q79q_l0_r _ _ _=_
   unfold q79q_l0_r
   simp only [lt_dec hi,if_true,idxIn_nat hi,idxIn_nat hi2,Int.toNat_natCast,ea,eb,G_rInts,hoi,Option.bind_some,wrap_up hi hmx]
  rw [step]
  by_cases e:a[i]=b[i]
  ·have:(!decide (a[i]=b[i]))=false:=by simp [e]
   rw [this]
   simp only [Bool.false_eq_true,if_false]
   refine ⟨o,o1,?_⟩
   rcases o2 with ⟨p1,p2⟩ | ⟨p1,p2⟩
   ·exact .inl ⟨p1,fun h=>p2 (List.cons.inj h).2⟩
   ·exact .inr ⟨p1,by rw [e,p2]⟩
  ·have:(!decide (a[i]=b[i]))=true:=by simp [e]
   rw [this]
   simp only [if_true]
   exact ⟨_,rfl,.inl ⟨rfl,fun h=>e (List.cons.inj h).1⟩⟩
theorem rTable_lim (d) (r) (h:G_rTable d=some r):∃N,F_q79q N d=some r:=by
 obtain ⟨a,b,_⟩:=d
 unfold G_rTable at h
 split at h
 ·rename_i hl
  have hl:okLL a=true:=hl
  obtain ⟨hl1,hl2⟩:=okLL_of hl
  have hmx:=okL_mx hl1
  have h:=Option.some.inj h
  subst h
  refine ⟨a.length+1,?_⟩
  unfold F_q79q
  by_cases hne:a.length=b.length
  ·have e:((a.length:Int) != (b.length:Int))=false:=by simp;omega
   obtain ⟨o,o1,o2⟩:=rt_l0 (a.length+1) a b hne hl2 hmx a.length 0 (a.length+1) (by omega) (by omega)
   simp only [Int.natCast_zero,List.drop_zero] at o1 o2
   simp only [e,Bool.false_eq_true,if_false,o1,Option.bind_some]
   rcases o2 with ⟨rfl,h2⟩ | ⟨rfl,h2⟩
   ·simp only [h2,decide_false]
   ·simp only [h2,decide_true]
  ·have e:((a.length:Int) != (b.length:Int))=true:=by simp;omega
   have h2:¬a=b:=fun h=>hne (by rw [h])
   simp only [e,if_true,h2,decide_false]
 ·cases h
theorem lw_l0 (N:Nat) (T:Tab) (hT:T.length<=1000) (hr:∀r∈T,r.length<=1000):∀k i f,i+k=T.length->k<f -> ∃o,q84q_l0 N f (T,(i:Int),())=some o/\((o=.inl (true,())/\winB (T.drop i)=true)\/(o=.inr (.inl ())/\winB (T.drop i)=false)):=by
 intro k
 induction k with
 | zero=>
  intro i f h1 h2
  obtain ⟨f,rfl⟩:∃m,f=m+1:=⟨f-1,by omega⟩
  have e:i=T.length:=by omega
  refine ⟨.inr (.inl ()),?_,.inr ⟨rfl,by rw [List.drop_of_length_le (by omega)];rfl⟩⟩
  subst e
  show q84q_l0_r _ _ _=_
  unfold q84q_l0_r
  simp only [lt_not,Bool.false_eq_true,if_false]
 | succ k ih=>
  intro i f h1 h2
  obtain ⟨f,rfl⟩:∃m,f=m+1:=⟨f-1,by omega⟩
  have hi:i<T.length:=by omega
  have ea:at_ K_Si T i=T[i]:=at_get (e:=K_Si) hi
  obtain ⟨o,o1,o2⟩:=ih (i+1) f (by omega) (by omega)
  have hd:winB (T.drop i)=(decide (0<=worstR T[i])||winB (T.drop (i+1))):=by
   unfold winB
   rw [List.drop_eq_getElem_cons hi,List.any_cons]
  rw [hd]
  have step:q84q_l0 N (f+1) (T,(i:Int),())=if decide (worstR T[i]>=0)=true then some (.inl (true,())) else q84q_l0 N f (T,((i+1:Nat):Int),()):=by
   show q84q_l0_r _ _ _=_
   unfold q84q_l0_r
   simp only [lt_dec hi,if_true,idxIn_nat hi,Int.toNat_natCast,ea,worst_row8 (hr _ (List.getElem_mem hi)),Option.bind_some,small_wrap (show i<=100000 by omega)]
  rw [step]
  by_cases e:0<=worstR T[i]
  ·have e':decide (worstR T[i]>=0)=true:=decide_eq_true e
   rw [e']
   simp only [if_true]
   exact ⟨_,rfl,.inl ⟨rfl,by simp [e]⟩⟩
  ·have e':decide (worstR T[i]>=0)=false:=decide_eq_false e
   rw [e']
   simp only [Bool.false_eq_true,if_false]
   refine ⟨o,o1,?_⟩
   rw [Bool.false_or]
   exact o2
theorem l4Wins_lim (d) (r) (h:G_l4Wins d=some r):∃N,F_q84q N d=some r:=by
 obtain ⟨⟨n,es,v⟩,k,_⟩:=d
 unfold G_l4Wins at h
 split at h
 ·rename_i hc
  simp only [Bool.and_eq_true] at hc
  obtain ⟨⟨hg,ho⟩,hk⟩:=hc
  have hg:graphB (n,es,v)=true:=hg
  have ho:okL es=true:=ho
  have hk:=inB_iff.1 hk
  have h:=Option.some.inj h
  subst h
  obtain ⟨h0,h8⟩:=graphB_n hg
  obtain ⟨m,rfl⟩:=nat_of h0
  obtain ⟨q,rfl⟩:=nat_of hk.1
  obtain ⟨h1,h2,_⟩:=game_spec (v:=v) hg ho (show q<=3 by omega) () ()
  obtain ⟨s1,s2⟩:=tm_small (es:=es) (v:=v) (show m<=8 by omega) (show q<=3 by omega)
  obtain ⟨o,o1,o2⟩:=lw_l0 1010 (tmG ((m:Int),es,v) q) (by omega) (fun r hr=>by have:=s2 r hr;omega) (tmG ((m:Int),es,v) q).length 0 1010 (by omega) (by omega)
  simp only [Int.natCast_zero,List.drop_zero] at o1 o2
  refine ⟨1010,?_⟩
  unfold F_q84q
  simp only [h1,h2,Option.bind_some,o1,Int.toNat_natCast]
  rcases o2 with ⟨rfl,h3⟩ | ⟨rfl,h3⟩
  ·simp only [h3]
  ·simp only [h3]
 ·cases h
end Go.V.W
namespace Go.V.W
open Go.Proofs
def rowOk4 (n:Nat) (r:List Int):Bool:=decide (r.length=n)&&r.all fun v=>decide (-1<=v)
theorem lt_l2 (N:Nat) (T:Tab) (y:Gm) (c:Nat) (hc:c<T.length) (hr:(at_ K_Si T c).length<=1000):∀k x f,x+k=(at_ K_Si T c).length->k<f -> ∃o,q71q_l2 N f (T,y,(c:Int),(x:Int),())=some o /\
  ((o=.inl (false,())/\((at_ K_Si T c).drop x).all (fun v=>decide (-1<=v))=false)\/(o=.inr (.inl (T,y,(c:Int),()))/\((at_ K_Si T c).drop x).all (fun v=>decide (-1<=v))=true)):=by
 intro k
 induction k with
 | zero=>
  intro x f h1 h2
  obtain ⟨f,rfl⟩:∃m,f=m+1:=⟨f-1,by omega⟩
  have e:x=(at_ K_Si T c).length:=by omega
  refine ⟨.inr (.inl (T,y,(c:Int),())),?_,.inr ⟨rfl,by rw [List.drop_of_length_le (by omega)];rfl⟩⟩
  subst e
  show q71q_l2_r _ _ _=_
  unfold q71q_l2_r
  simp only [idxIn_nat hc,if_true,Int.toNat_natCast,lt_not,Bool.false_eq_true,if_false]
 | succ k ih=>
  intro x f h1 h2
  obtain ⟨f,rfl⟩:∃m,f=m+1:=⟨f-1,by omega⟩
  have hx:x<(at_ K_Si T c).length:=by omega
  have ex:at_ I (at_ K_Si T c) x=(at_ K_Si T c)[x]:=at_get (e:=I) hx
  obtain ⟨o,o1,o2⟩:=ih (x+1) f (by omega) (by omega)
  rw [List.drop_eq_getElem_cons hx,List.all_cons]
  have step:q71q_l2 N (f+1) (T,y,(c:Int),(x:Int),())=if (at_ K_Si T c)[x] < -1 then some (.inl (false,())) else q71q_l2 N f (T,y,(c:Int),((x+1:Nat):Int),()):=by
   show q71q_l2_r _ _ _=_
   unfold q71q_l2_r
   simp only [idxIn_nat hc,if_true,Int.toNat_natCast,lt_dec hx,idxIn_nat hx,ex,small_wrap (show x<=100000 by omega)]
   by_cases e:(at_ K_Si T c)[x] < -1
   ·simp only [e,decide_true,if_true]
   ·simp only [e,decide_false,Bool.false_eq_true,if_false]
  rw [step]
  by_cases e:(at_ K_Si T c)[x] < -1
  ·rw [if_pos e]
   have e2:decide (-1<=(at_ K_Si T c)[x])=false:=decide_eq_false (Int.not_le.2 e)
   rw [e2,Bool.false_and]
   exact ⟨_,rfl,.inl ⟨rfl,rfl⟩⟩
  ·rw [if_neg e]
   have e2:decide (-1<=(at_ K_Si T c)[x])=true:=decide_eq_true (Int.not_lt.1 e)
   rw [e2,Bool.true_and]
   exact ⟨o,o1,o2⟩
theorem lt_l0 (N:Nat) (hN:1010<=N) (T:Tab) (hT:T.length<=1000) (hr:∀r∈T,r.length<=1000) (y:Gm):∀k c f,c+k=T.length->k<f -> ∃o,q71q_l0 N f (T,y,(c:Int),())=some o /\
  ((o=.inl (false,())/\T.all (rowOk4 y.2.2.1.length)=false)\/(o=.inr (.inl (T,y,()))/\(T.length=y.1.length->(T.drop c).all (rowOk4 y.2.2.1.length)=true))):=by
 intro k
 induction k with
 | zero=>
  intro c f h1 h2
  obtain ⟨f,rfl⟩:∃m,f=m+1:=⟨f-1,by omega⟩
  have e:c=T.length:=by omega
  refine ⟨.inr (.inl (T,y,())),?_,.inr ⟨rfl,fun _=>by rw [List.drop_of_length_le (by omega)];rfl⟩⟩
  subst e
  show q71q_l0_r _ _ _=_
  unfold q71q_l0_r
  simp only [lt_not,Bool.false_eq_true,if_false]
 | succ k ih=>
  intro c f h1 h2
  obtain ⟨f,rfl⟩:∃m,f=m+1:=⟨f-1,by omega⟩
  have hc:c<T.length:=by omega
  have ec:at_ K_Si T c=T[c]:=at_get (e:=K_Si) hc
  have hrc:(at_ K_Si T c).length<=1000:=by rw [ec];exact hr _ (List.getElem_mem hc)
  obtain ⟨o,o1,o2⟩:=ih (c+1) f (by omega) (by omega)
  obtain ⟨q,q1,q2⟩:=lt_l2 N T y c hc hrc (at_ K_Si T c).length 0 N (by omega) (by omega)
  simp only [Int.natCast_zero,List.drop_zero] at q1 q2
  have bad:rowOk4 y.2.2.1.length T[c]=false->T.all (rowOk4 y.2.2.1.length)=false:=fun hb=>by
   cases ha:T.all (rowOk4 y.2.2.1.length) with
   | false=>rfl
   | true=>
    have:=List.all_eq_true.1 ha _ (List.getElem_mem hc)
    rw [hb] at this
    cases this
  by_cases hcf:c<y.1.length
  ·by_cases hlen:T[c].length=y.2.2.1.length
   ·have hb:((T[c].length:Int) != (y.2.2.1.length:Int))=false:=by simp;omega
    have step:q71q_l0 N (f+1) (T,y,(c:Int),())=match q with
      | .inl d=>some (.inl (d.1,()))
      | .inr (.inl d)=>q71q_l0 N f (d.1,d.2.1,IntKind.wrap .i64 (d.2.2.1+1),()):=by
     show q71q_l0_r _ _ _=_
     unfold q71q_l0_r
     simp only [lt_dec hc,if_true,lt_dec hcf,idxIn_nat hc,Int.toNat_natCast,ec,hb,Bool.false_eq_true,if_false,q1,Option.bind_some]
     rcases q2 with ⟨rfl,_⟩ | ⟨rfl,_⟩<;>rfl
    rw [step]
    rcases q2 with ⟨rfl,h3⟩ | ⟨rfl,h3⟩
    ·refine ⟨_,rfl,.inl ⟨rfl,bad ?_⟩⟩
     unfold rowOk4
     rw [ec] at h3
     rw [h3,Bool.and_false]
    ·simp only [small_wrap (show c<=100000 by omega)]
     refine ⟨o,o1,?_⟩
     rcases o2 with h4 | ⟨h4,h5⟩
     ·exact .inl h4
     ·refine .inr ⟨h4,fun he => ?_⟩
      rw [List.drop_eq_getElem_cons hc,List.all_cons,h5 he,Bool.and_true]
      unfold rowOk4
      rw [ec] at h3
      rw [h3,Bool.and_true]
      exact decide_eq_true hlen
   ·have hb:((T[c].length:Int) != (y.2.2.1.length:Int))=true:=by simp;omega
    refine ⟨.inl (false,()),?_,.inl ⟨rfl,bad ?_⟩⟩
    ·show q71q_l0_r _ _ _=_
     unfold q71q_l0_r
     simp only [lt_dec hc,if_true,lt_dec hcf,idxIn_nat hc,Int.toNat_natCast,ec,hb]
    ·unfold rowOk4
     rw [decide_eq_false hlen,Bool.false_and]
  ·have hb:decide ((c:Int)<(y.1.length:Int))=false:=decide_eq_false (by omega)
   refine ⟨.inr (.inl (T,y,())),?_,.inr ⟨rfl,fun he=>by omega⟩⟩
   show q71q_l0_r _ _ _=_
   unfold q71q_l0_r
   simp only [lt_dec hc,if_true,hb,Bool.false_eq_true,if_false]
theorem smT_parts {T:Tab} (h:smT T=true):T.length<=1000/\(∀r∈T,r.length<=1000) /\ ∀r∈T,∀v∈r,v<=9223372036854775807:=by
 unfold smT at h
 simp only [Bool.and_eq_true,decide_eq_true_eq,List.all_eq_true] at h
 exact ⟨h.1,fun r hr=>(h.2 r hr).1,fun r hr=>(h.2 r hr).2⟩
theorem l4Table_lim (d) (r) (h:G_l4Table d=some r):∃N,F_q71q N d=some r:=by
 obtain ⟨⟨cf,mv,bl,v⟩,T,_⟩:=d
 unfold G_l4Table at h
 split at h
 ·rename_i hs
  have hs:smT T=true:=hs
  obtain ⟨s1,s2,s3⟩:=smT_parts hs
  have h:=Option.some.inj h
  subst h
  obtain ⟨o,o1,o2⟩:=lt_l0 1010 (by omega) T s1 s2 (cf,mv,bl,v) T.length 0 1010 (by omega) (by omega)
  simp only [Int.natCast_zero,List.drop_zero] at o1 o2
  refine ⟨1010,?_⟩
  unfold F_q71q tabOkB
  simp only [o1,Option.bind_some]
  have er:(T.all fun r=>decide (r.length=bl.length)&&r.all fun v=>decide (-1<=v))=T.all (rowOk4 bl.length):=rfl
  rw [er]
  rcases o2 with ⟨rfl,h2⟩ | ⟨rfl,h2⟩
  ·simp only [h2,Bool.and_false]
  ·by_cases he:T.length=cf.length
   ·have e1:((T.length:Int)==(cf.length:Int))=true:=by simp;omega
    simp only [e1,h2 he,decide_eq_true he,Bool.and_self]
   ·have e1:((T.length:Int)==(cf.length:Int))=false:=by simp;omega
    simp only [e1,decide_eq_false he,Bool.false_and]
 ·cases h
theorem lp_l0 (N:Nat) (cf mv bl:List (List Int)) (hg:gmB bl.length cf mv=true) (hb:blB bl=true) (v:Unit) (T:Tab) (hT:rcB cf.length bl.length T=true) (t:Int) (ht:1<=t) (ht2:t<=9223372036854775807) (c:Nat) (hc:c<cf.length) (x:Nat) (hx:x<bl.length) :
  ∀(k i f:Nat),i+k=(at_ K_Si mv c).length->k<f -> ∃o,q59q_l0 N f (T,(c:Int),(x:Int),(cf,mv,bl,v),t,(i:Int),())=some o /\
   ((o=.inl (true,())/\((at_ K_Si mv c).drop i).any (fun d=>inB 0 (t-1) (afterG cf (ballA bl) T d (x:Int)))=true)\/(o=.inr (.inl ())/\((at_ K_Si mv c).drop i).any (fun d=>inB 0 (t-1) (afterG cf (ballA bl) T d (x:Int)))=false)):=by
 obtain ⟨g1,g2,g3,g4⟩:=gmB_parts hg
 obtain ⟨m1,m2,m3⟩:=g4 c hc
 have i1:idxIn (c:Int) mv.length=true:=idxIn_nat (by omega)
 have hxi:inB 0 ((bl.length:Int)-1) (x:Int)=true:=inB_iff.2 (by omega)
 have hw:IntKind.wrap .i64 (t-1)=t-1:=wrap_in _ (by omega) (by omega)
 intro k
 induction k with
 | zero=>
  intro i f h1 h2
  obtain ⟨f,rfl⟩:∃m,f=m+1:=⟨f-1,by omega⟩
  have e:i=(at_ K_Si mv c).length:=by omega
  refine ⟨.inr (.inl ()),?_,.inr ⟨rfl,by rw [List.drop_of_length_le (by omega)];rfl⟩⟩
  subst e
  show q59q_l0_r _ _ _=_
  unfold q59q_l0_r
  simp only [i1,if_true,Int.toNat_natCast,lt_not,Bool.false_eq_true,if_false]
 | succ k ih=>
  intro i f h1 h2
  obtain ⟨f,rfl⟩:∃m,f=m+1:=⟨f-1,by omega⟩
  have hi:i<(at_ K_Si mv c).length:=by omega
  have ei:at_ I (at_ K_Si mv c) i=(at_ K_Si mv c)[i]:=at_get (e:=I) hi
  have haf:=afterG_some hg hb hT (m3 _ (List.getElem_mem hi)) hxi v ()
  obtain ⟨o,o1,o2⟩:=ih (i+1) f (by omega) (by omega)
  rw [List.drop_eq_getElem_cons hi,List.any_cons]
  have step:q59q_l0 N (f+1) (T,(c:Int),(x:Int),(cf,mv,bl,v),t,(i:Int),())=if inB 0 (t-1) (afterG cf (ballA bl) T (at_ K_Si mv c)[i] (x:Int))=true then some (.inl (true,())) else q59q_l0 N f (T,(c:Int),(x:Int),(cf,mv,bl,v),t,((i+1:Nat):Int),()):=by
   show q59q_l0_r _ _ _=_
   unfold q59q_l0_r
   simp only [i1,if_true,Int.toNat_natCast,lt_dec hi,idxIn_nat hi,ei,haf,Option.bind_some,hw,l1In_eq,small_wrap (show i<=100000 by omega)]
  rw [step]
  by_cases e:inB 0 (t-1) (afterG cf (ballA bl) T (at_ K_Si mv c)[i] (x:Int))=true
  ·rw [if_pos e,e,Bool.true_or]
   exact ⟨_,rfl,.inl ⟨rfl,rfl⟩⟩
  ·rw [if_neg e,(Bool.not_eq_true _).mp e,Bool.false_or]
   exact ⟨o,o1,o2⟩
theorem l4Proves_lim (d) (r) (h:G_l4Proves d=some r):∃N,F_q59q N d=some r:=by
 obtain ⟨⟨cf,mv,bl,v⟩,T,c,x,_⟩:=d
 unfold G_l4Proves at h
 split at h
 ·rename_i hc
  simp only [Bool.and_eq_true] at hc
  obtain ⟨⟨⟨⟨⟨hg,hb⟩,hT⟩,hs⟩,hc'⟩,hx'⟩:=hc
  have hT:rcB cf.length bl.length T=true:=hT
  have hs:smT T=true:=hs
  obtain ⟨g1,g2,g3,g4⟩:=gmB_parts hg
  obtain ⟨t1,t2⟩:=rcB_parts hT
  obtain ⟨s1,s2,s3⟩:=smT_parts hs
  obtain ⟨c,rfl,hc⟩:=nodeX hc'
  obtain ⟨x,rfl,hx⟩:=nodeX hx'
  have h:=Option.some.inj h
  subst h
  obtain ⟨m1,m2,m3⟩:=g4 c hc
  obtain ⟨y1,y2,y3⟩:=g3 c hc
  have hlt:c<T.length:=by omega
  have i1:idxIn (c:Int) T.length=true:=idxIn_nat hlt
  have i2:idxIn (x:Int) (at_ K_Si T c).length=true:=idxIn_nat (by rw [t2 c hc];exact hx)
  have hv:=tab2_rc hT hc hx
  have hmax:tab2 T (c:Int) (x:Int)<=9223372036854775807:=by
   have ec:at_ K_Si T c=T[c]:=at_get (e:=K_Si) hlt
   have hl:=t2 c hc
   rw [ec] at hl
   have ex:at_ I T[c] x=T[c][x]:=at_get (e:=I) (by omega)
   rw [<- hv,ec,ex]
   exact s3 _ (List.getElem_mem hlt) _ (List.getElem_mem (by omega))
  refine ⟨1010,?_⟩
  unfold F_q59q provB
  simp only [i1,i2,if_true,Int.toNat_natCast,hv,idxIn_nat hc,has1 (okL_of (show (at_ K_Si cf c).length<=1048576 by omega)),Option.bind_some]
  by_cases h0:tab2 T (c:Int) (x:Int)<=0
  ·by_cases h1:tab2 T (c:Int) (x:Int)<0
   ·simp only [h0,h1,decide_true,if_true,Bool.true_or]
   ·simp only [h0,h1,decide_true,decide_false,Bool.false_eq_true,if_true,if_false,Bool.false_or,y2]
  ·obtain ⟨o,o1,o2⟩:=lp_l0 1010 cf mv bl hg hb v T hT (tab2 T (c:Int) (x:Int)) (by omega) hmax c hc x hx (at_ K_Si mv c).length 0 1010 (by omega) (by omega)
   simp only [Int.natCast_zero,List.drop_zero] at o1 o2
   simp only [h0,decide_false,Bool.false_eq_true,if_false,o1,Option.bind_some,m2]
   rcases o2 with ⟨rfl,h2⟩ | ⟨rfl,h2⟩
   ·simp only [h2]
   ·simp only [h2]
 ·cases h
end Go.V.W
namespace Go.V.W
open Go.Proofs
theorem prov_congr {cf mv:List (List Int)} {b1 b2:Int->List Int} {T:Tab} {c x:Nat} (h:b1 (x:Int)=b2 (x:Int)):provB cf mv b1 T c x=provB cf mv b2 T c x:=by
 unfold provB
 simp only [after_congr (cf:=cf) (T:=T) h]
theorem proof_congr {n:Nat} {cf mv:List (List Int)} {b1 b2:Int->List Int} (h:∀x:Nat,x<n->b1 (x:Int)=b2 (x:Int)) (T:Tab):proofB n cf mv b1 T=proofB n cf mv b2 T:=by
 have:allPrB n cf mv b1 T=allPrB n cf mv b2 T:=bool_eq_iff (by
  rw [all_pr,all_pr]
  exact ⟨fun hh c x hc hx=>by rw [<- prov_congr (h x hx)];exact hh c x hc hx,fun hh c x hc hx=>by rw [prov_congr (h x hx)];exact hh c x hc hx⟩)
 unfold proofB
 rw [this]
theorem sp_l2 (N:Nat) (cf mv bl:List (List Int)) (hg:gmB bl.length cf mv=true) (hb:blB bl=true) (v:Unit) (T:Tab) (hT:rcB cf.length bl.length T=true) (hs:smT T=true) (w:Bool) (c:Nat) (hc:c<cf.length):∀k x f,x+k=bl.length->k<f -> ∃o,q23q_l2 N f (T,(cf,mv,bl,v),w,(c:Int),(x:Int),())=some o /\
  ((o=.inl (false,true,())/\(List.range' x k).all (fun x=>provB cf mv (ballA bl) T c x)=false)\/(o=.inr (.inl (T,(cf,mv,bl,v),w,(c:Int),()))/\(List.range' x k).all (fun x=>provB cf mv (ballA bl) T c x)=true)):=by
 obtain ⟨t1,t2⟩:=rcB_parts hT
 have i1:idxIn (c:Int) T.length=true:=idxIn_nat (by omega)
 have hci:inB 0 ((cf.length:Int)-1) (c:Int)=true:=inB_iff.2 (by omega)
 obtain ⟨b1,_⟩:=blB_parts hb
 intro k
 induction k with
 | zero=>
  intro x f h1 h2
  obtain ⟨f,rfl⟩:∃m,f=m+1:=⟨f-1,by omega⟩
  have e:x=bl.length:=by omega
  subst e
  refine ⟨.inr (.inl (T,(cf,mv,bl,v),w,(c:Int),())),?_,.inr ⟨rfl,rfl⟩⟩
  show q23q_l2_r _ _ _=_
  unfold q23q_l2_r
  simp only [i1,if_true,Int.toNat_natCast,t2 c hc,lt_not,Bool.false_eq_true,if_false]
 | succ k ih=>
  intro x f h1 h2
  obtain ⟨f,rfl⟩:∃m,f=m+1:=⟨f-1,by omega⟩
  have hx:x<bl.length:=by omega
  have hxi:inB 0 ((bl.length:Int)-1) (x:Int)=true:=inB_iff.2 (by omega)
  obtain ⟨o,o1,o2⟩:=ih (x+1) f (by omega) (by omega)
  rw [List.range'_succ,List.all_cons]
  have step:q23q_l2 N (f+1) (T,(cf,mv,bl,v),w,(c:Int),(x:Int),())=if (!provB cf mv (ballA bl) T c x)=true then some (.inl (false,true,())) else q23q_l2 N f (T,(cf,mv,bl,v),w,(c:Int),((x+1:Nat):Int),()):=by
   show q23q_l2_r _ _ _=_
   unfold q23q_l2_r G_l4Proves
   simp only [i1,if_true,Int.toNat_natCast,t2 c hc,lt_dec hx,hg,hb,hT,hs,hci,hxi,Bool.and_self,Option.bind_some,small_wrap (show x<=100000 by omega)]
  rw [step]
  cases e:provB cf mv (ballA bl) T c x with
  | false=>
   simp only [Bool.not_false,if_true,Bool.false_and]
   exact ⟨_,rfl,.inl ⟨rfl,trivial⟩⟩
  | true=>
   simp only [Bool.not_true,Bool.false_eq_true,if_false,Bool.true_and]
   exact ⟨o,o1,o2⟩
theorem sp_l0 (N:Nat) (hN:1010<=N) (cf mv bl:List (List Int)) (hg:gmB bl.length cf mv=true) (hb:blB bl=true) (v:Unit) (T:Tab) (hT:rcB cf.length bl.length T=true) (hs:smT T=true):∀k c f (w:Bool),c+k=cf.length->k<f -> ∃o,q23q_l0 N f (T,(cf,mv,bl,v),w,(c:Int),())=some o /\
  ((o=.inl (false,true,())/\(List.range' c k).all (fun c=>(List.range bl.length).all fun x=>provB cf mv (ballA bl) T c x)=false)\/(o=.inr (.inl ((w||winB (T.drop c)),()))/\(List.range' c k).all (fun c=>(List.range bl.length).all fun x=>provB cf mv (ballA bl) T c x)=true)):=by
 obtain ⟨t1,t2⟩:=rcB_parts hT
 obtain ⟨b1,_⟩:=blB_parts hb
 obtain ⟨g1,_⟩:=gmB_parts hg
 intro k
 induction k with
 | zero=>
  intro c f w h1 h2
  obtain ⟨f,rfl⟩:∃m,f=m+1:=⟨f-1,by omega⟩
  have e:c=T.length:=by omega
  have ed:winB (T.drop c)=false:=by rw [List.drop_of_length_le (by omega)];rfl
  rw [ed,Bool.or_false]
  refine ⟨.inr (.inl (w,())),?_,.inr ⟨rfl,rfl⟩⟩
  subst e
  show q23q_l0_r _ _ _=_
  unfold q23q_l0_r
  simp only [lt_not,Bool.false_eq_true,if_false]
 | succ k ih=>
  intro c f w h1 h2
  obtain ⟨f,rfl⟩:∃m,f=m+1:=⟨f-1,by omega⟩
  have hc:c<cf.length:=by omega
  have hct:c<T.length:=by omega
  have ec:at_ K_Si T c=T[c]:=at_get (e:=K_Si) hct
  have hrc:T[c].length<=1000:=by
   have:=t2 c hc
   rw [ec] at this
   omega
  obtain ⟨q,q1,q2⟩:=sp_l2 N cf mv bl hg hb v T hT hs w c hc bl.length 0 N (by omega) (by omega)
  simp only [Int.natCast_zero,<- List.range_eq_range'] at q1 q2
  have hd:winB (T.drop c)=(decide (0<=worstR T[c])||winB (T.drop (c+1))):=by
   unfold winB
   rw [List.drop_eq_getElem_cons hct,List.any_cons]
  rw [List.range'_succ,List.all_cons,hd]
  rcases q2 with ⟨rfl,h3⟩ | ⟨rfl,h3⟩
  ·refine ⟨.inl (false,true,()),?_,.inl ⟨rfl,by rw [h3,Bool.false_and]⟩⟩
   show q23q_l0_r _ _ _=_
   unfold q23q_l0_r
   simp only [lt_dec hct,if_true,q1,Option.bind_some]
  ·obtain ⟨o,o1,o2⟩:=ih (c+1) f (w||decide (0<=worstR T[c])) (by omega) (by omega)
   have step:q23q_l0 N (f+1) (T,(cf,mv,bl,v),w,(c:Int),())=q23q_l0 N f (T,(cf,mv,bl,v),(w||decide (0<=worstR T[c])),((c+1:Nat):Int),()):=by
    show q23q_l0_r _ _ _=_
    unfold q23q_l0_r
    simp only [lt_dec hct,if_true,q1,Option.bind_some,idxIn_nat hct,Int.toNat_natCast,ec,worst_row8 hrc,small_wrap (show c<=100000 by omega)]
    cases w with
    | true=>simp only [if_true,Bool.true_or]
    | false=>simp only [Bool.false_eq_true,if_false,Bool.false_or,ge_iff_le]
   rw [step,h3,Bool.true_and,<- Bool.or_assoc]
   exact ⟨o,o1,o2⟩
theorem specPr_lim (d) (r) (h:G_specPr d=some r):∃N,F_q23q N d=some r:=by
 obtain ⟨⟨n,es,v⟩,k,T,_⟩:=d
 unfold G_specPr at h
 split at h
 ·rename_i hc
  rw [Bool.and_eq_true] at hc
  have ho:okL es=true:=hc.1
  have hs:smT T=true:=hc.2
  have h:=Option.some.inj h
  subst h
  refine ⟨1010,?_⟩
  unfold F_q23q proofO
  simp only [specField (g:=(n,es,v)) ho,Option.bind_some]
  cases hf:fieldB (n,es,v) k with
  | false=>simp only [Bool.not_false,if_true,Bool.false_eq_true,if_false]
  | true=>
   obtain ⟨hg,m,q,rfl,rfl,m1,m8,q1,q3⟩:=field_parts hf
   obtain ⟨h1,h2,h3,h4⟩:=game_spec (v:=v) hg ho q3 () ()
   have hlt:G_l4Table ((cfG ((m:Int),es,v) q,mvG ((m:Int),es,v) q,ballsL m es,()),T,())=some (tabOkB m (cfG ((m:Int),es,v) q) T,()):=by
    unfold G_l4Table
    simp only [hs,if_true,ballsL_len]
   simp only [Bool.not_true,Bool.false_eq_true,if_false,h1,Option.bind_some,hlt,if_true,Int.toNat_natCast]
   rw [proof_congr (fun x hx=>(ballA_L es hx).symm) T]
   unfold proofB
   cases ht:tabOkB m (cfG ((m:Int),es,v) q) T with
   | false=>simp only [Bool.not_false,if_true,Bool.false_and]
   | true=>
    have hrc:=tabOk_rc ht
    have hrc2:rcB (cfG ((m:Int),es,v) q).length (ballsL m es).length T=true:=by rw [ballsL_len];exact hrc
    obtain ⟨o,o1,o2⟩:=sp_l0 1010 (by omega) (cfG ((m:Int),es,v) q) (mvG ((m:Int),es,v) q) (ballsL m es) h3 h4 () T hrc2 hs (cfG ((m:Int),es,v) q).length 0 1010 false (by omega) (by have:=(gmB_parts h3).1;omega)
    simp only [Int.natCast_zero,List.drop_zero,Bool.false_or,<- List.range_eq_range',ballsL_len] at o1 o2
    have ea:allPrB m (cfG ((m:Int),es,v) q) (mvG ((m:Int),es,v) q) (ballA (ballsL m es)) T=(List.range (cfG ((m:Int),es,v) q).length).all (fun c=>(List.range m).all fun x=>provB (cfG ((m:Int),es,v) q) (mvG ((m:Int),es,v) q) (ballA (ballsL m es)) T c x):=rfl
    rw [ea]
    simp only [Bool.not_true,Bool.false_eq_true,if_false,o1,Option.bind_some,Bool.true_and]
    rcases o2 with ⟨rfl,h5⟩ | ⟨rfl,h5⟩
    ·simp only [h5,Bool.false_and]
    ·simp only [h5,Bool.true_and]
 ·cases h
end Go.V.W
namespace Go.V.W
open Go.Proofs
theorem cbB_parts {l:List Int} {v u:Unit} {cf mv:List (List Int)} {T:Tab} (h:cbB ((l,v),cf,mv,T,u)=true):netB l=true/\1<=l.length/\gmB l.length cf mv=true:=by
 unfold cbB at h
 simp only [Bool.and_eq_true,decide_eq_true_eq] at h
 exact ⟨h.1.1,h.1.2,h.2⟩
theorem pr1_some {l:List Int} {v u:Unit} {cf mv:List (List Int)} {T0 T:Tab} (h:cbB ((l,v),cf,mv,T0,u)=true) (hT:rcB cf.length l.length T=true) {d x:Nat} (hd:d<cf.length) (hx:x<l.length) {num:Int} (hn:0<num) (a b e:Unit):FV_q15q ((d:Int),(a,((l,v),cf,mv,T0,u),(x:Int),T,num,b),e)=some (decide (0<=afterG cf (ballM l) T (d:Int) (x:Int))&&decide (afterG cf (ballM l) T (d:Int) (x:Int)<num),()):=by
 obtain ⟨h1,h2,h3⟩:=cbB_parts h
 obtain ⟨g1,g2,g3,g4⟩:=gmB_parts h3
 obtain ⟨y1,y2,y3⟩:=g3 d hd
 obtain ⟨t1,t2⟩:=rcB_parts hT
 have i1:idxIn (d:Int) T.length=true:=idxIn_nat (by omega)
 unfold FV_q15q F_q15q afterG
 simp only [idxIn_nat hd,if_true,Int.toNat_natCast,has2 (okL_of (show (at_ K_Si cf d).length<=1048576 by omega)),Option.bind_some,y2,i1,timeAfter_some h1 hT hd hx]
 by_cases hh:hasL (at_ K_Si cf d) (x:Int)=true
 ·simp only [hh,if_true,hn,Int.le_refl,decide_true,Bool.and_self]
 ·simp only [hh,Bool.false_eq_true,if_false]
  by_cases h0:0<=worstL (tab2 T (d:Int)) (ballM l (x:Int)) 0
  ·have h0':decide (worstL (tab2 T (d:Int)) (ballM l (x:Int)) 0>=0)=true:=decide_eq_true h0
   simp only [h0',h0,if_true,decide_true,Bool.true_and]
  ·have h0':decide (worstL (tab2 T (d:Int)) (ballM l (x:Int)) 0>=0)=false:=decide_eq_false h0
   simp only [h0',h0,Bool.false_eq_true,if_false,decide_false,Bool.false_and]
theorem proves1_lim (d) (r) (h:G_proves1 d=some r):∃N,F_q7q N d=some r:=by
 obtain ⟨xs,⟨a,⟨⟨l,v⟩,cf,mv,T0,u⟩,q,T,num,b⟩,_⟩:=d
 unfold G_proves1 at h
 split at h
 ·rename_i hc
  simp only [Bool.and_eq_true,decide_eq_true_eq] at hc
  obtain ⟨⟨⟨⟨⟨hg,hT⟩,hq'⟩,hlen⟩,hxs⟩,hn⟩:=hc
  have hT:rcB cf.length l.length T=true:=hT
  have hn:0<num:=hn
  obtain ⟨q,rfl,hq⟩:=nodeX hq'
  have h:=Option.some.inj h
  subst h
  have hlen:xs.length<=1000:=hlen
  have hmx:xs.length<=maxLen:=by unfold maxLen;omega
  refine ⟨xs.length+1,?_⟩
  unfold F_q7q
  have:=loop_idx (L:=q7q_l0 (xs.length+1)) (r:=q7q_l0_r (xs.length+1)) (fun _ _=>rfl) (e:=I) xs (mk:=fun i=>(xs,(a,((l,v),cf,mv,T0,u),(q:Int),T,num,b),(xs.length:Int),(i:Int),())) (q:=fun b=>decide (0<=afterG cf (ballM l) T b (q:Int))&&decide (afterG cf (ballM l) T b (q:Int)<num)) (o:=fun i=>.inl ((i:Int),())) (f:=.inr (.inl ()))
   (by
    intro back i hi
    have hx:at_ I xs i=xs[i]:=at_get (e:=I) hi
    obtain ⟨y,b1,b2⟩:=nodeX (List.all_eq_true.1 hxs xs[i] (List.getElem_mem hi))
    have hcan:=pr1_some hg hT b2 hq hn a b ()
    rw [<- b1] at hcan
    unfold q7q_l0_r
    simp only [lt_dec hi,if_true,idxIn_nat hi,Int.toNat_natCast,wrap_up hi hmx,hx,hcan,Option.bind_some])
   (by intro back;unfold q7q_l0_r;simp only [lt_not,Bool.false_eq_true,if_false]) xs.length 0 (by omega) (by omega)
  simp only [Int.natCast_zero,List.drop_zero] at this
  simp only [this,Option.bind_some]
  cases idxN (fun b=>decide (0<=afterG cf (ballM l) T b (q:Int))&&decide (afterG cf (ballM l) T b (q:Int)<num)) xs 0<;>rfl
 ·cases h
theorem isProof1_lim (d) (r) (h:G_index144 d=some r):∃N,F_q5q N d=some r:=by
 obtain ⟨xs,⟨a,b⟩,_⟩:=d
 unfold G_index144 at h
 split at h
 ·rename_i hc
  have hmx:=okL_mx (l:=xs) hc
  have h:=Option.some.inj h
  subst h
  refine ⟨xs.length+1,?_⟩
  unfold F_q5q
  have:=loop_idx (L:=q5q_l0 (xs.length+1)) (r:=q5q_l0_r (xs.length+1)) (fun _ _=>rfl) (e:=I) xs (mk:=fun i=>(xs,(a,b),(xs.length:Int),(i:Int),())) (q:=fun x=>decide (x < -1)) (o:=fun i=>.inl ((i:Int),())) (f:=.inr (.inl ()))
   (by
    intro back i hi
    unfold q5q_l0_r FV_q13q g_q13q
    simp only [lt_dec hi,if_true,idxIn_nat hi,Int.toNat_natCast,wrap_up hi hmx,Option.bind_some])
   (by intro back;unfold q5q_l0_r;simp only [lt_not,Bool.false_eq_true,if_false]) xs.length 0 (by omega) (by omega)
  simp only [Int.natCast_zero,List.drop_zero] at this
  simp only [this,Option.bind_some]
  cases idxN (fun x=>decide (x < -1)) xs 0<;>rfl
 ·cases h
theorem prov_some {l:List Int} {v u:Unit} {cf mv:List (List Int)} {T0 T:Tab} (h:cbB ((l,v),cf,mv,T0,u)=true) (hT:rcB cf.length l.length T=true) {c x:Nat} (hc:c<cf.length) (hx:x<l.length) (hn:0<=tab2 T (c:Int) (x:Int)) (b:Unit):F_q22q 0 (((l,v),cf,mv,T0,u),T,(c:Int),(x:Int),tab2 T (c:Int) (x:Int),b)=some (provB cf mv (ballM l) T c x,()):=by
 obtain ⟨h1,h2,h3⟩:=cbB_parts h
 obtain ⟨g1,g2,g3,g4⟩:=gmB_parts h3
 obtain ⟨y1,y2,y3⟩:=g3 c hc
 obtain ⟨m1,m2,m3⟩:=g4 c hc
 have i1:idxIn (c:Int) mv.length=true:=idxIn_nat (by omega)
 have i2:inB 0 ((l.length:Int)-1) (x:Int)=true:=inB_iff.2 (by omega)
 have hall:(at_ K_Si mv c).all (inB 0 ((cf.length:Int)-1))=true:=List.all_eq_true.2 m3
 have hlen:decide ((at_ K_Si mv c).length<=1000)=true:=decide_eq_true m1
 unfold F_q22q F_q4q provB
 by_cases h0:tab2 T (c:Int) (x:Int)=0
 ·have e1:(tab2 T (c:Int) (x:Int)==0)=true:=by simp [h0]
  have e2:tab2 T (c:Int) (x:Int)<=0:=by omega
  have e3:decide (tab2 T (c:Int) (x:Int)<0)=false:=decide_eq_false (by omega)
  rw [if_pos e2,e3,Bool.false_or]
  simp only [e1,if_true,idxIn_nat hc,Int.toNat_natCast,has2 (okL_of (show (at_ K_Si cf c).length<=1048576 by omega)),Option.bind_some,y2]
 ·have e1:(tab2 T (c:Int) (x:Int)==0)=false:=by simp [h0]
  have e2:¬tab2 T (c:Int) (x:Int)<=0:=by omega
  have e3:decide (0<tab2 T (c:Int) (x:Int))=true:=decide_eq_true (by omega)
  rw [if_neg e2]
  simp only [e1,Bool.false_eq_true,if_false,i1,if_true,Int.toNat_natCast,G_proves1,h,hT,i2,hlen,hall,e3,Bool.and_self,Option.bind_some,idxI_ge,m2]
  congr 3
  funext d
  apply bool_eq_iff
  rw [Bool.and_eq_true,decide_eq_true_eq,decide_eq_true_eq,inB_iff]
  constructor
  ·rintro ⟨a1,a2⟩;exact ⟨a1,by omega⟩
  ·rintro ⟨a1,a2⟩;exact ⟨a1,by omega⟩
theorem ip_l4' (N:Nat) {l:List Int} {v u:Unit} {cf mv:List (List Int)} {T0 T:Tab} (h:cbB ((l,v),cf,mv,T0,u)=true) (hT:rcB cf.length l.length T=true) (w:Bool) (c:Nat) (hc:c<cf.length) (a:List (List Int)) (b e:Int):∀k x f,x+k=l.length->k<f -> ∃o,q20q_l4 N f (((l,v),cf,mv,T0,u),T,w,(c:Int),a,b,e,at_ K_Si T c,(l.length:Int),(x:Int),())=some o /\
  ((o=.inl (false,())/\(List.range' x k).all (fun x=>provB cf mv (ballM l) T c x)=false)\/(o=.inr (.inl (((l,v),cf,mv,T0,u),T,w,a,b,e,()))/\(List.range' x k).all (fun x=>provB cf mv (ballM l) T c x)=true)):=by
 obtain ⟨h1,h2,h3⟩:=cbB_parts h
 obtain ⟨t1,t2⟩:=rcB_parts hT
 obtain ⟨p1,p2,p3,p4⟩:=netB_parts h1
 intro k
 induction k with
 | zero=>
  intro x f e1 e2
  obtain ⟨f,rfl⟩:∃m,f=m+1:=⟨f-1,by omega⟩
  have ex:x=l.length:=by omega
  subst ex
  refine ⟨.inr (.inl (((l,v),cf,mv,T0,u),T,w,a,b,e,())),?_,.inr ⟨rfl,rfl⟩⟩
  show q20q_l4_r _ _ _=_
  unfold q20q_l4_r
  simp only [lt_not,Bool.false_eq_true,if_false]
 | succ k ih=>
  intro x f e1 e2
  obtain ⟨f,rfl⟩:∃m,f=m+1:=⟨f-1,by omega⟩
  have hx:x<l.length:=by omega
  have i2:idxIn (x:Int) (at_ K_Si T c).length=true:=idxIn_nat (by rw [t2 c hc];exact hx)
  have hv:=tab2_rc hT hc hx
  obtain ⟨o,o1,o2⟩:=ih (x+1) f (by omega) (by omega)
  rw [List.range'_succ,List.all_cons]
  have step:q20q_l4 N (f+1) (((l,v),cf,mv,T0,u),T,w,(c:Int),a,b,e,at_ K_Si T c,(l.length:Int),(x:Int),())=if (!provB cf mv (ballM l) T c x)=true then some (.inl (false,())) else q20q_l4 N f (((l,v),cf,mv,T0,u),T,w,(c:Int),a,b,e,at_ K_Si T c,(l.length:Int),((x+1:Nat):Int),()):=by
   show q20q_l4_r _ _ _=_
   unfold q20q_l4_r
   by_cases h0:0<=tab2 T (c:Int) (x:Int)
   ·have h0':decide (tab2 T (c:Int) (x:Int)>=0)=true:=decide_eq_true h0
    simp only [lt_dec hx,if_true,i2,Int.toNat_natCast,hv,h0',prov_some h hT hc hx h0,Option.bind_some,small_wrap (show x<=100000 by omega)]
   ·have h0':decide (tab2 T (c:Int) (x:Int)>=0)=false:=decide_eq_false h0
    have hp:provB cf mv (ballM l) T c x=true:=by
     unfold provB
     rw [if_pos (by omega),decide_eq_true (show tab2 T (c:Int) (x:Int)<0 by omega),Bool.true_or]
    simp only [lt_dec hx,if_true,i2,Int.toNat_natCast,hv,h0',hp,Bool.not_true,Bool.false_eq_true,if_false,small_wrap (show x<=100000 by omega)]
  rw [step]
  cases e:provB cf mv (ballM l) T c x with
  | false=>
   simp only [Bool.not_false,if_true,Bool.false_and]
   exact ⟨_,rfl,.inl ⟨rfl,trivial⟩⟩
  | true=>
   simp only [Bool.not_true,Bool.false_eq_true,if_false,Bool.true_and]
   exact ⟨o,o1,o2⟩
theorem ip_l2' (N:Nat) (hN:10<=N) {l:List Int} {v u:Unit} {cf mv:List (List Int)} {T0 T:Tab} (h:cbB ((l,v),cf,mv,T0,u)=true) (hT:rcB cf.length l.length T=true) (w:Bool):∀k c f,c+k=cf.length->k<f -> ∃o,q20q_l2 N f (((l,v),cf,mv,T0,u),T,w,T,(cf.length:Int),(c:Int),())=some o /\
  ((o=.inl (false,())/\(List.range' c k).all (fun c=>(List.range l.length).all fun x=>provB cf mv (ballM l) T c x)=false)\/(o=.inr (.inl (w,()))/\(List.range' c k).all (fun c=>(List.range l.length).all fun x=>provB cf mv (ballM l) T c x)=true)):=by
 obtain ⟨h1,h2,h3⟩:=cbB_parts h
 obtain ⟨g1,_⟩:=gmB_parts h3
 obtain ⟨t1,t2⟩:=rcB_parts hT
 obtain ⟨p1,p2,p3,p4⟩:=netB_parts h1
 intro k
 induction k with
 | zero=>
  intro c f e1 e2
  obtain ⟨f,rfl⟩:∃m,f=m+1:=⟨f-1,by omega⟩
  have ec:c=cf.length:=by omega
  subst ec
  refine ⟨.inr (.inl (w,())),?_,.inr ⟨rfl,rfl⟩⟩
  show q20q_l2_r _ _ _=_
  unfold q20q_l2_r
  simp only [lt_not,Bool.false_eq_true,if_false]
 | succ k ih=>
  intro c f e1 e2
  obtain ⟨f,rfl⟩:∃m,f=m+1:=⟨f-1,by omega⟩
  have hc:c<cf.length:=by omega
  have i1:idxIn (c:Int) T.length=true:=idxIn_nat (by omega)
  obtain ⟨q,q1,q2⟩:=ip_l4' N h hT w c hc T (cf.length:Int) (c:Int) l.length 0 N (by omega) (by omega)
  simp only [Int.natCast_zero,<- List.range_eq_range'] at q1 q2
  rw [List.range'_succ,List.all_cons]
  rcases q2 with ⟨rfl,h4⟩ | ⟨rfl,h4⟩
  ·refine ⟨.inl (false,()),?_,.inl ⟨rfl,by rw [h4,Bool.false_and]⟩⟩
   show q20q_l2_r _ _ _=_
   unfold q20q_l2_r
   simp only [lt_dec hc,if_true,i1,Int.toNat_natCast,t2 c hc,q1,Option.bind_some]
  ·obtain ⟨o,o1,o2⟩:=ih (c+1) f (by omega) (by omega)
   have step:q20q_l2 N (f+1) (((l,v),cf,mv,T0,u),T,w,T,(cf.length:Int),(c:Int),())=q20q_l2 N f (((l,v),cf,mv,T0,u),T,w,T,(cf.length:Int),((c+1:Nat):Int),()):=by
    show q20q_l2_r _ _ _=_
    unfold q20q_l2_r
    simp only [lt_dec hc,if_true,i1,Int.toNat_natCast,t2 c hc,q1,Option.bind_some,small_wrap (show c<=100000 by omega)]
   rw [step,h4,Bool.true_and]
   exact ⟨o,o1,o2⟩
end Go.V.W
namespace Go.V.W
open Go.Proofs
theorem low_any {l:List Int}:(l.any fun x=>decide (x < -1)) = !(l.all fun v=>decide (-1<=v)):=by
 induction l with
 | nil=>rfl
 | cons a l ih=>
  rw [List.any_cons,List.all_cons,ih]
  by_cases h:a < -1
  ·have h2:¬ -1<=a:=by omega
   simp [h,h2]
  ·have h2 : -1<=a:=by omega
   simp [h,h2]
theorem gp_l0 (N:Nat) (l:List Int) (v u:Unit) (cf mv:List (List Int)) (T0 T:Tab) (hl:l.length<=8) (hT:T.length<=1000) (hr:∀r∈T,r.length<=1000):∀k c f (w:Bool),c+k=T.length->k<f -> ∃o,q20q_l0 N f (((l,v),cf,mv,T0,u),T,w,T,(T.length:Int),(c:Int),())=some o /\
  ((o=.inl (false,())/\(T.drop c).all (rowOk4 l.length)=false)\/(o=.inr (.inl (((l,v),cf,mv,T0,u),T,(w||winB (T.drop c)),()))/\(T.drop c).all (rowOk4 l.length)=true)):=by
 intro k
 induction k with
 | zero=>
  intro c f w h1 h2
  obtain ⟨f,rfl⟩:∃m,f=m+1:=⟨f-1,by omega⟩
  have e:c=T.length:=by omega
  have ed:winB (T.drop c)=false:=by rw [List.drop_of_length_le (by omega)];rfl
  rw [ed,Bool.or_false]
  refine ⟨.inr (.inl (((l,v),cf,mv,T0,u),T,w,())),?_,.inr ⟨rfl,by rw [List.drop_of_length_le (by omega)];rfl⟩⟩
  subst e
  show q20q_l0_r _ _ _=_
  unfold q20q_l0_r
  simp only [lt_not,Bool.false_eq_true,if_false]
 | succ k ih=>
  intro c f w h1 h2
  obtain ⟨f,rfl⟩:∃m,f=m+1:=⟨f-1,by omega⟩
  have hc:c<T.length:=by omega
  have ec:at_ K_Si T c=T[c]:=at_get (e:=K_Si) hc
  have hrc:T[c].length<=1000:=hr _ (List.getElem_mem hc)
  have hok:okL T[c]=true:=okL_of (by omega)
  have hcon:F_q2q 0 (T[c],((),()),())=some (T[c].any (fun x=>decide (x < -1)),()):=by
   unfold F_q2q
   simp only [G_index144,hok,if_true,Option.bind_some,idxI_ge]
  have hd:winB (T.drop c)=(decide (0<=worstR T[c])||winB (T.drop (c+1))):=by
   unfold winB
   rw [List.drop_eq_getElem_cons hc,List.any_cons]
  have ha:(T.drop c).all (rowOk4 l.length)=(rowOk4 l.length T[c]&&(T.drop (c+1)).all (rowOk4 l.length)):=by
   rw [List.drop_eq_getElem_cons hc,List.all_cons]
  rw [hd,ha]
  by_cases hlen:T[c].length=l.length
  ·have hb:((T[c].length:Int) != (l.length:Int))=false:=by simp;omega
   cases hlow:T[c].all fun v=>decide (-1<=v) with
   | false=>
    refine ⟨.inl (false,()),?_,.inl ⟨rfl,?_⟩⟩
    ·show q20q_l0_r _ _ _=_
     unfold q20q_l0_r g_q53q
     simp only [lt_dec hc,if_true,idxIn_nat hc,Int.toNat_natCast,ec,hb,Bool.false_eq_true,if_false,hcon,Option.bind_some,low_any,hlow,Bool.not_false]
    ·unfold rowOk4
     rw [hlow,Bool.and_false,Bool.false_and]
   | true=>
    have hrow:rowOk4 l.length T[c]=true:=by
     unfold rowOk4
     rw [hlow,Bool.and_true]
     exact decide_eq_true hlen
    rw [hrow,Bool.true_and]
    obtain ⟨n1,n2⟩:=has_neg (l:=T[c]) fun x hx=>of_decide_eq_true (List.all_eq_true.1 hlow x hx)
    have hw:(!hasL T[c] (-1))=decide (0<=worstR T[c]):=by
     cases hh:hasL T[c] (-1) with
     | true=>
      have:=n1 hh
      exact (decide_eq_false (by omega)).symm
     | false=>exact (decide_eq_true (n2 hh).1).symm
    obtain ⟨o,o1,o2⟩:=ih (c+1) f (w||decide (0<=worstR T[c])) (by omega) (by omega)
    have step:q20q_l0 N (f+1) (((l,v),cf,mv,T0,u),T,w,T,(T.length:Int),(c:Int),())=q20q_l0 N f (((l,v),cf,mv,T0,u),T,(w||decide (0<=worstR T[c])),T,(T.length:Int),((c+1:Nat):Int),()):=by
     show q20q_l0_r _ _ _=_
     unfold q20q_l0_r g_q53q
     simp only [lt_dec hc,if_true,idxIn_nat hc,Int.toNat_natCast,ec,hb,Bool.false_eq_true,if_false,hcon,Option.bind_some,low_any,hlow,Bool.not_true,has2 hok,hw,small_wrap (show c<=100000 by omega)]
     cases w with
     | true=>simp only [if_true,Bool.true_or]
     | false=>simp only [Bool.false_eq_true,if_false,Bool.false_or]
    rw [step,<- Bool.or_assoc]
    exact ⟨o,o1,o2⟩
  ·have hb:((T[c].length:Int) != (l.length:Int))=true:=by simp;omega
   refine ⟨.inl (false,()),?_,.inl ⟨rfl,?_⟩⟩
   ·show q20q_l0_r _ _ _=_
    unfold q20q_l0_r g_q53q
    simp only [lt_dec hc,if_true,idxIn_nat hc,Int.toNat_natCast,ec,hb]
   ·unfold rowOk4
    rw [decide_eq_false hlen,Bool.false_and,Bool.false_and]
theorem gameProof_lim (d) (r) (h:G_isProof d=some r):∃N,F_q20q N d=some r:=by
 obtain ⟨⟨⟨l,v⟩,cf,mv,T0,u⟩,T,_⟩:=d
 unfold G_isProof at h
 split at h
 ·rename_i hc
  rw [Bool.and_eq_true] at hc
  obtain ⟨hg,hs⟩:=hc
  have hg:cbB ((l,v),cf,mv,T0,u)=true:=hg
  have hs:smT T=true:=hs
  obtain ⟨h1,h2,h3⟩:=cbB_parts hg
  obtain ⟨g1,_⟩:=gmB_parts h3
  obtain ⟨p1,p2,p3,p4⟩:=netB_parts h1
  obtain ⟨s1,s2,s3⟩:=smT_parts hs
  have h:=Option.some.inj h
  subst h
  refine ⟨1010,?_⟩
  unfold F_q20q
  show _=some (proofB l.length cf mv (ballM l) T,())
  have et:tabOkB l.length cf T=(decide (T.length=cf.length)&&T.all (rowOk4 l.length)):=rfl
  by_cases hlen:T.length=cf.length
  ·have hb:((T.length:Int) != (cf.length:Int))=false:=by simp;omega
   obtain ⟨o,o1,o2⟩:=gp_l0 1010 l v u cf mv T0 T p3 s1 s2 T.length 0 1010 false (by omega) (by omega)
   simp only [Int.natCast_zero,List.drop_zero,Bool.false_or] at o1 o2
   simp only [hb,Bool.false_eq_true,if_false,o1,Option.bind_some]
   rcases o2 with ⟨rfl,h4⟩ | ⟨rfl,h4⟩
   ·have:proofB l.length cf mv (ballM l) T=false:=by
     unfold proofB
     rw [et,h4,Bool.and_false,Bool.false_and,Bool.false_and]
    rw [this]
   ·have hok:tabOkB l.length cf T=true:=by rw [et,h4,decide_eq_true hlen];rfl
    have hrc:=tabOk_rc hok
    obtain ⟨q,q1,q2⟩:=ip_l2' 1010 (by omega) hg hrc (winB T) cf.length 0 1010 (by omega) (by omega)
    simp only [Int.natCast_zero,<- List.range_eq_range'] at q1 q2
    have eT:(T.length:Int)=(cf.length:Int):=by omega
    simp only [eT,q1,Option.bind_some]
    have ea:allPrB l.length cf mv (ballM l) T=(List.range cf.length).all (fun c=>(List.range l.length).all fun x=>provB cf mv (ballM l) T c x):=rfl
    unfold proofB
    rw [hok,ea]
    rcases q2 with ⟨rfl,h5⟩ | ⟨rfl,h5⟩
    ·simp only [h5,Bool.and_false,Bool.false_and]
    ·simp only [h5,Bool.true_and]
  ·have hb:((T.length:Int) != (cf.length:Int))=true:=by simp;omega
   have:proofB l.length cf mv (ballM l) T=false:=by
    unfold proofB
    rw [et,decide_eq_false hlen,Bool.false_and,Bool.false_and,Bool.false_and]
   simp only [hb,if_true,this]
 ·cases h
end Go.V.W
namespace Go.V.W
open Go.Proofs
theorem and_zero {a b:Nat} (ha:a<256):a&&&b=0 ↔ ∀y,y<8 -> ¬(a.testBit y=true/\b.testBit y=true):=by
 constructor
 ·rintro h y _ ⟨h1,h2⟩
  have:(a&&&b).testBit y=true:=by rw [Nat.testBit_and,h1,h2];rfl
  rw [h,Nat.zero_testBit] at this
  cases this
 ·intro h
  refine Nat.eq_of_testBit_eq fun y => ?_
  rw [Nat.zero_testBit,Nat.testBit_and]
  by_cases hy:y<8
  ·cases h1:a.testBit y with
   | false=>rfl
   | true=>
    cases h2:b.testBit y with
    | false=>rfl
    | true=>exact absurd ⟨h1,h2⟩ (h y hy)
  ·have:a.testBit y=false:=Nat.testBit_lt_two_pow (Nat.lt_of_lt_of_le ha (by
    have:2 ^ 8<=2 ^ y:=Nat.pow_le_pow_right (by omega) (by omega)
    omega))
   rw [this,Bool.false_and]
theorem nodes_mask {n:Nat} (hn:n<=8) {s:List Int} (hs:s.all (inB 0 ((n:Int)-1))=true) (ho:okL s=true) (u:Unit):G_maskOf (s,u)=some ((maskN s:Int),())/\maskN s<256 /\ ∀y,(maskN s).testBit y=(decide (y<n)&&hasL s (y:Int)):=by
 have h7:s.all (inB 0 7)=true:=List.all_eq_true.2 fun z hz=>by
  have:=inB_iff.1 (List.all_eq_true.1 hs z hz)
  exact inB_iff.2 (by omega)
 obtain ⟨m1,m2⟩:=maskN_isM hn (l:=s) fun y hy=>by
  have:=inB_iff.1 (List.all_eq_true.1 hs y hy)
  omega
 refine ⟨?_,m1,m2⟩
 unfold G_maskOf
 simp only [ho,h7,Bool.and_self,if_true]
def setOk (n:Nat) (cf sets:List (List Int)) (c:Nat):Bool:=nodeSetB (n:Int) (sets.getD c [])&&decide (0<(sets.getD c []).length)&&(sets.getD c []).all fun x => !hasL (cf.getD c []) x
theorem masks_free {n:Nat} (hn:n<=8) {s t:List Int} (hs:s.all (inB 0 ((n:Int)-1))=true) (ho:okL s=true) (ht:t.all (inB 0 ((n:Int)-1))=true) (ho2:okL t=true):(maskN s&&&maskN t=0)↔(s.all fun x => !hasL t x)=true:=by
 obtain ⟨_,a1,a2⟩:=nodes_mask hn hs ho ()
 obtain ⟨_,b1,b2⟩:=nodes_mask hn ht ho2 ()
 rw [and_zero a1,List.all_eq_true]
 constructor
 ·intro h x hx
  obtain ⟨y,rfl,hy⟩:=nodeX (List.all_eq_true.1 hs x hx)
  have:=h y (by omega)
  rw [a2,b2,decide_eq_true hy,Bool.true_and,Bool.true_and] at this
  cases hh:hasL t (y:Int) with
  | false=>rfl
  | true=>exact absurd ⟨has_mem.2 hx,hh⟩ this
 ·rintro h y _ ⟨h1,h2⟩
  rw [a2,Bool.and_eq_true] at h1
  rw [b2,Bool.and_eq_true] at h2
  have:=h (y:Int) (has_mem.1 h1.2)
  rw [h2.2] at this
  cases this
theorem ev_l0 (N:Nat) {l:List Int} {v u:Unit} {cf mv:List (List Int)} {T0:Tab} (h:cbB ((l,v),cf,mv,T0,u)=true) {es:List E} {w:Unit} (hgr:graphB ((l.length:Int),es,w)=true) (ho:okL es=true) (sets:List (List Int)) (hlen:sets.length=cf.length) (hr:∀r∈sets,r.length<=1000):∀k c f,c+k=cf.length->k<f -> ∃o,q14q_l0 N f (((l,v),cf,mv,T0,u),sets,((l.length:Int),es,w),rowU cf.length (fun _=>0) (fun j=>(maskN (sets.getD j []):Int)) c,sets,(cf.length:Int),(c:Int),())=some o /\
  ((o=.inl (false,())/\(List.range' c k).all (setOk l.length cf sets)=false)\/(o=.inr (.inl (((l,v),cf,mv,T0,u),sets,rowU cf.length (fun _=>0) (fun j=>(maskN (sets.getD j []):Int)) cf.length,()))/\(List.range' c k).all (setOk l.length cf sets)=true)):=by
 obtain ⟨h1,h2,h3⟩:=cbB_parts h
 obtain ⟨g1,g2,g3,g4⟩:=gmB_parts h3
 obtain ⟨p1,p2,p3,p4⟩:=netB_parts h1
 intro k
 induction k with
 | zero=>
  intro c f e1 e2
  obtain ⟨f,rfl⟩:∃m,f=m+1:=⟨f-1,by omega⟩
  have e:c=cf.length:=by omega
  subst e
  refine ⟨.inr (.inl (((l,v),cf,mv,T0,u),sets,rowU cf.length (fun _=>0) (fun j=>(maskN (sets.getD j []):Int)) cf.length,())),?_,.inr ⟨rfl,rfl⟩⟩
  show q14q_l0_r _ _ _=_
  unfold q14q_l0_r
  simp only [lt_not,Bool.false_eq_true,if_false]
 | succ k ih=>
  intro c f e1 e2
  obtain ⟨f,rfl⟩:∃m,f=m+1:=⟨f-1,by omega⟩
  have hc:c<cf.length:=by omega
  have hcs:c<sets.length:=by omega
  have ec:at_ K_Si sets c=sets.getD c []:=at_getDS hcs
  have hrc:(sets.getD c []).length<=1000:=by
   have e:sets.getD c []=sets[c]:=by
    rw [List.getD_eq_getElem?_getD,List.getElem?_eq_getElem hcs]
    rfl
   rw [e]
   exact hr _ (List.getElem_mem hcs)
  have hok:okL (sets.getD c [])=true:=okL_of (by omega)
  obtain ⟨y1,y2,y3⟩:=g3 c hc
  have hcok:okL (at_ K_Si cf c)=true:=okL_of (by omega)
  have hcall:(at_ K_Si cf c).all (inB 0 ((l.length:Int)-1))=true:=List.all_eq_true.2 y3
  have hset:F_impl_isSet 0 (((l.length:Int),es,w),sets.getD c [],())=some (nodeSetB (l.length:Int) (sets.getD c []),()):=by
   unfold F_impl_isSet nodeSetB
   simp only [has_nodes (l.length:Int) es w () (sets.getD c []) ho hok,hgr,Bool.true_and,Option.bind_some,G_increasing,hok,if_true]
   cases (sets.getD c []).all (inB 0 ((l.length:Int)-1)) with
   | false=>simp only [Bool.false_eq_true,if_false,Bool.false_and]
   | true=>simp only [if_true,Bool.true_and]
  rw [List.range'_succ,List.all_cons]
  have stop:setOk l.length cf sets c=false->q14q_l0_r N (q14q_l0 N f) (((l,v),cf,mv,T0,u),sets,((l.length:Int),es,w),rowU cf.length (fun _=>0) (fun j=>(maskN (sets.getD j []):Int)) c,sets,(cf.length:Int),(c:Int),())=some (.inl (false,())) -> ∃o,q14q_l0 N (f+1) (((l,v),cf,mv,T0,u),sets,((l.length:Int),es,w),rowU cf.length (fun _=>0) (fun j=>(maskN (sets.getD j []):Int)) c,sets,(cf.length:Int),(c:Int),())=some o /\
    ((o=.inl (false,())/\(setOk l.length cf sets c&&(List.range' (c+1) k).all (setOk l.length cf sets))=false)\/(o=.inr (.inl (((l,v),cf,mv,T0,u),sets,rowU cf.length (fun _=>0) (fun j=>(maskN (sets.getD j []):Int)) cf.length,()))/\(setOk l.length cf sets c&&(List.range' (c+1) k).all (setOk l.length cf sets))=true)):=fun hf he=>⟨_,he,.inl ⟨rfl,by rw [hf,Bool.false_and]⟩⟩
  by_cases hpos:0<(sets.getD c []).length
  ·have hb:(((sets.getD c []).length:Int)==0)=false:=beq_eq_false_iff_ne.2 (by omega)
   cases hns:nodeSetB (l.length:Int) (sets.getD c []) with
   | false=>
    refine stop (by unfold setOk;rw [hns,Bool.false_and,Bool.false_and]) ?_
    unfold q14q_l0_r
    simp only [lt_dec hc,if_true,idxIn_nat hcs,Int.toNat_natCast,ec,hb,Bool.false_eq_true,if_false,hset,hns,Option.bind_some,Bool.not_false]
   | true=>
    have hall:(sets.getD c []).all (inB 0 ((l.length:Int)-1))=true:=by
     unfold nodeSetB at hns
     rw [Bool.and_eq_true] at hns
     exact hns.1
    obtain ⟨q1,q2,q3⟩:=nodes_mask p3 hall hok ()
    obtain ⟨r1,r2,r3⟩:=nodes_mask p3 hcall hcok ()
    have hfree:=masks_free p3 hall hok hcall hcok
    by_cases hz:maskN (sets.getD c [])&&&maskN (at_ K_Si cf c)=0
    ·have hso:setOk l.length cf sets c=true:=by
      unfold setOk
      rw [hns,decide_eq_true hpos,y2,hfree.1 hz]
      rfl
     have hbz:(bits .and .i64 ((maskN (sets.getD c []):Nat):Int) ((maskN (at_ K_Si cf c):Nat):Int) != 0)=false:=by
      rw [bits_and q2 r2,hz]
      rfl
     have i1:∀g h:Nat->Int,idxIn (c:Int) (rowU cf.length g h c).length=true:=fun g h=>by rw [rowU_len];exact idxIn_nat hc
     have hsetU:=rowU_set (n:=cf.length) (f:=fun _=>(0:Int)) (g:=fun j=>(maskN (sets.getD j []):Int)) (v:=(maskN (sets.getD c []):Int)) hc rfl
     obtain ⟨o,o1,o2⟩:=ih (c+1) f (by omega) (by omega)
     rw [hso,Bool.true_and]
     refine ⟨o,?_,o2⟩
     rw [<- o1]
     show q14q_l0_r _ _ _=_
     unfold q14q_l0_r
     simp only [lt_dec hc,if_true,idxIn_nat hcs,Int.toNat_natCast,ec,hb,Bool.false_eq_true,if_false,hset,hns,Option.bind_some,Bool.not_true,q1,idxIn_nat hc,r1,hbz,i1,hsetU,small_wrap (show c<=100000 by omega)]
    ·have hso:setOk l.length cf sets c=false:=by
      unfold setOk
      rw [y2]
      cases ha:(sets.getD c []).all fun x => !hasL (at_ K_Si cf c) x with
      | false=>rw [Bool.and_false]
      | true=>exact absurd (hfree.2 ha) hz
     refine stop hso ?_
     have hbz:(bits .and .i64 ((maskN (sets.getD c []):Nat):Int) ((maskN (at_ K_Si cf c):Nat):Int) != 0)=true:=by
      rw [bits_and q2 r2]
      simp only [bne_iff_ne,ne_eq]
      omega
     unfold q14q_l0_r
     simp only [lt_dec hc,if_true,idxIn_nat hcs,Int.toNat_natCast,ec,hb,Bool.false_eq_true,if_false,hset,hns,Option.bind_some,Bool.not_true,q1,idxIn_nat hc,r1,hbz]
  ·refine stop (by unfold setOk;rw [decide_eq_false hpos,Bool.and_false,Bool.false_and]) ?_
   have hb:(((sets.getD c []).length:Int)==0)=true:=beq_iff_eq.2 (by omega)
   unfold q14q_l0_r
   simp only [lt_dec hc,if_true,idxIn_nat hcs,Int.toNat_natCast,ec,hb]
end Go.V.W
namespace Go.V.W
open Go.Proofs
def evE (cf:List (List Int)) (ball:Int->List Int) (sets:List (List Int)) (x d:Int):Bool := !hasL (cf.getD d.toNat []) x&&(ball x).any fun y=>hasL (sets.getD d.toNat []) y
theorem meet_zero {l:List Int} (hl:netB l=true) {x:Nat} (hx:x<l.length) {s:List Int} (hs:s.all (inB 0 ((l.length:Int)-1))=true) (ho:okL s=true):((fromI l).getD x 0|||2 ^ x)<256/\(((fromI l).getD x 0|||2 ^ x)&&&maskN s=0↔((ballM l (x:Int)).any fun y=>hasL s y)=false):=by
 obtain ⟨p1,p2,p3,p4⟩:=netB_parts hl
 obtain ⟨c1,_⟩:=maskM hl (x:=x) (by omega)
 obtain ⟨_,b1,b2⟩:=nodes_mask p3 hs ho ()
 refine ⟨c1,?_⟩
 rw [and_zero c1]
 constructor
 ·intro h
  cases ha:(ballM l (x:Int)).any fun y=>hasL s y with
  | false=>rfl
  | true=>
   obtain ⟨z,hz,h2⟩:=List.any_eq_true.1 ha
   obtain ⟨y,hy,rfl⟩:=ballM_ok hl x hx z hz
   unfold ballM at hz
   obtain ⟨w,_,w2,w3,w4⟩:=setF_mem.1 hz
   have ew:w=y:=by omega
   subst ew
   rw [Int.toNat_natCast] at w3
   refine absurd ⟨w3,?_⟩ (h w (by omega))
   rw [b2,h2,decide_eq_true hy]
   rfl
 ·rintro h y hy ⟨h1,h2⟩
  rw [b2,Bool.and_eq_true] at h2
  have hm:(y:Int)∈ballM l (x:Int):=by
   unfold ballM
   exact setF_mem.2 ⟨y,Nat.zero_le _,by omega,by rw [Int.toNat_natCast];exact h1,rfl⟩
  have:((ballM l (x:Int)).any fun y=>hasL s y)=true:=List.any_eq_true.2 ⟨_,hm,h2.2⟩
  rw [h] at this
  cases this
def SetsI (n:Nat) (cf sets:List (List Int)):Prop:=sets.length=cf.length /\ ∀c,c<cf.length->(sets.getD c []).length<=1000/\(sets.getD c []).all (inB 0 ((n:Int)-1))=true
theorem ev_l6 (N:Nat) {l:List Int} {v u:Unit} {cf mv:List (List Int)} {T0:Tab} (h:cbB ((l,v),cf,mv,T0,u)=true) (sets:List (List Int)) (hS:SetsI l.length cf sets) (c:Int) (x:Nat) (hx:x<l.length) (a b e g k2:Int) (s1 S:List (List Int)) (set:List Int) (L:List Int) (hL:L.length<=1000) (hLm:∀d∈L,inB 0 ((cf.length:Int)-1) d=true) :
  ∀k i f,i+k=L.length->k<f -> ∃o,q14q_l6 N f (((l,v),cf,mv,T0,u),(List.range cf.length).map (fun j=>(maskN (sets.getD j []):Int)),c,(x:Int),S,a,b,set,e,g,L,(L.length:Int),(i:Int),())=some o /\
   ((o=.inl (false,())/\(L.drop i).all (evE cf (ballM l) sets (x:Int))=false)\/(o=.inr (.inl (((l,v),cf,mv,T0,u),(List.range cf.length).map (fun j=>(maskN (sets.getD j []):Int)),c,S,a,b,set,e,g,()))/\(L.drop i).all (evE cf (ballM l) sets (x:Int))=true)):=by
 obtain ⟨h1,h2,h3⟩:=cbB_parts h
 obtain ⟨g1,g2,g3,g4⟩:=gmB_parts h3
 intro k
 induction k with
 | zero=>
  intro i f e1 e2
  obtain ⟨f,rfl⟩:∃m,f=m+1:=⟨f-1,by omega⟩
  have ei:i=L.length:=by omega
  refine ⟨_,?_,.inr ⟨rfl,by rw [List.drop_of_length_le (by omega)];rfl⟩⟩
  subst ei
  show q14q_l6_r _ _ _=_
  unfold q14q_l6_r
  simp only [lt_not,Bool.false_eq_true,if_false]
 | succ k ih=>
  intro i f e1 e2
  obtain ⟨f,rfl⟩:∃m,f=m+1:=⟨f-1,by omega⟩
  have hi:i<L.length:=by omega
  obtain ⟨d,ed,hd⟩:=nodeX (hLm _ (List.getElem_mem hi))
  have ei:at_ I L i=(d:Int):=(at_get (e:=I) hi).trans ed
  obtain ⟨y1,y2,y3⟩:=g3 d hd
  obtain ⟨q1,q2⟩:=hS.2 d hd
  obtain ⟨c1,c2⟩:=meet_zero h1 hx q2 (okL_of (by omega))
  obtain ⟨_,b1,_⟩:=nodes_mask (netB_parts h1).2.2.1 q2 (okL_of (by omega)) ()
  have hlenM:idxIn (d:Int) ((List.range cf.length).map (fun j=>(maskN (sets.getD j []):Int))).length=true:=idxIn_nat (by simpa using hd)
  have hM:at_ I ((List.range cf.length).map (fun j=>(maskN (sets.getD j []):Int))) d=(maskN (sets.getD d []):Int):=(at_some (rowR_get (fun j=>(maskN (sets.getD j []):Int)) hd)).1
  have hcl:=closedM h1 v hx
  obtain ⟨o,o1,o2⟩:=ih (i+1) f (by omega) (by omega)
  rw [List.drop_eq_getElem_cons hi,List.all_cons,ed]
  by_cases hh:hasL (at_ K_Si cf d) (x:Int)=true
  ·have he:evE cf (ballM l) sets (x:Int) (d:Int)=false:=by
    unfold evE
    rw [Int.toNat_natCast,y2,hh]
    rfl
   refine ⟨.inl (false,()),?_,.inl ⟨rfl,by rw [he,Bool.false_and]⟩⟩
   show q14q_l6_r _ _ _=_
   unfold q14q_l6_r
   simp only [lt_dec hi,if_true,idxIn_nat hi,Int.toNat_natCast,ei,idxIn_nat hd,has2 (okL_of (show (at_ K_Si cf d).length<=1048576 by omega)),Option.bind_some,hh]
  ·have hh':hasL (at_ K_Si cf d) (x:Int)=false:=(Bool.not_eq_true _).mp hh
   have he:evE cf (ballM l) sets (x:Int) (d:Int)=(ballM l (x:Int)).any fun y=>hasL (sets.getD d []) y:=by
    unfold evE
    rw [Int.toNat_natCast,y2,hh',Bool.not_false,Bool.true_and]
   rw [he]
   cases ha:(ballM l (x:Int)).any fun y=>hasL (sets.getD d []) y with
   | false=>
    have hz:=c2.2 ha
    refine ⟨.inl (false,()),?_,.inl ⟨rfl,by rw [Bool.false_and]⟩⟩
    show q14q_l6_r _ _ _=_
    unfold q14q_l6_r
    simp only [lt_dec hi,if_true,idxIn_nat hi,Int.toNat_natCast,ei,idxIn_nat hd,has2 (okL_of (show (at_ K_Si cf d).length<=1048576 by omega)),Option.bind_some,hh',Bool.false_eq_true,if_false,hcl,hlenM,hM,bits_and c1 b1,hz,Int.natCast_zero,beq_self_eq_true]
   | true=>
    have hz:¬((fromI l).getD x 0|||2 ^ x)&&&maskN (sets.getD d [])=0:=fun hz=>by
     have:=c2.1 hz
     rw [ha] at this
     cases this
    have hz2:(((((fromI l).getD x 0|||2 ^ x)&&&maskN (sets.getD d []):Nat):Int)==0)=false:=beq_eq_false_iff_ne.2 (by omega)
    rw [Bool.true_and]
    refine ⟨o,?_,o2⟩
    rw [<- o1]
    show q14q_l6_r _ _ _=_
    unfold q14q_l6_r
    simp only [lt_dec hi,if_true,idxIn_nat hi,Int.toNat_natCast,ei,idxIn_nat hd,has2 (okL_of (show (at_ K_Si cf d).length<=1048576 by omega)),Option.bind_some,hh',Bool.false_eq_true,if_false,hcl,hlenM,hM,bits_and c1 b1,hz2,small_wrap (show i<=100000 by omega)]
theorem ev_l4 (N:Nat) (hN:1010<=N) {l:List Int} {v u:Unit} {cf mv:List (List Int)} {T0:Tab} (h:cbB ((l,v),cf,mv,T0,u)=true) (sets:List (List Int)) (hS:SetsI l.length cf sets) (c:Nat) (hc:c<cf.length) (a b:Int) (S:List (List Int)) (set:List Int) (hset:set.length<=1000) (hall:set.all (inB 0 ((l.length:Int)-1))=true) :
  ∀k j f,j+k=set.length->k<f -> ∃o,q14q_l4 N f (((l,v),cf,mv,T0,u),(List.range cf.length).map (fun j=>(maskN (sets.getD j []):Int)),(c:Int),S,a,b,set,(set.length:Int),(j:Int),())=some o /\
   ((o=.inl (false,())/\(set.drop j).all (evadeB cf mv (ballM l) sets c)=false)\/(o=.inr (.inl (((l,v),cf,mv,T0,u),(List.range cf.length).map (fun j=>(maskN (sets.getD j []):Int)),S,a,b,()))/\(set.drop j).all (evadeB cf mv (ballM l) sets c)=true)):=by
 obtain ⟨h1,h2,h3⟩:=cbB_parts h
 obtain ⟨g1,g2,g3,g4⟩:=gmB_parts h3
 obtain ⟨m1,m2,m3⟩:=g4 c hc
 have i1:idxIn (c:Int) mv.length=true:=idxIn_nat (by omega)
 intro k
 induction k with
 | zero=>
  intro j f e1 e2
  obtain ⟨f,rfl⟩:∃m,f=m+1:=⟨f-1,by omega⟩
  have ei:j=set.length:=by omega
  refine ⟨_,?_,.inr ⟨rfl,by rw [List.drop_of_length_le (by omega)];rfl⟩⟩
  subst ei
  show q14q_l4_r _ _ _=_
  unfold q14q_l4_r
  simp only [lt_not,Bool.false_eq_true,if_false]
 | succ k ih=>
  intro j f e1 e2
  obtain ⟨f,rfl⟩:∃m,f=m+1:=⟨f-1,by omega⟩
  have hj:j<set.length:=by omega
  obtain ⟨x,ex,hx⟩:=nodeX (List.all_eq_true.1 hall _ (List.getElem_mem hj))
  have ej:at_ I set j=(x:Int):=(at_get (e:=I) hj).trans ex
  obtain ⟨q,q1,q2⟩:=ev_l6 N h sets hS (c:Int) x hx a b (set.length:Int) (j:Int) 0 S S set (at_ K_Si mv c) m1 m3 (at_ K_Si mv c).length 0 N (by omega) (by omega)
  simp only [Int.natCast_zero,List.drop_zero] at q1 q2
  have he:evadeB cf mv (ballM l) sets c (x:Int)=(at_ K_Si mv c).all (evE cf (ballM l) sets (x:Int)):=by
   unfold evadeB
   rw [m2]
   rfl
  rw [List.drop_eq_getElem_cons hj,List.all_cons,ex,he]
  rcases q2 with ⟨rfl,h4⟩ | ⟨rfl,h4⟩
  ·refine ⟨.inl (false,()),?_,.inl ⟨rfl,by rw [h4,Bool.false_and]⟩⟩
   show q14q_l4_r _ _ _=_
   unfold q14q_l4_r
   simp only [lt_dec hj,if_true,idxIn_nat hj,Int.toNat_natCast,i1,ej,q1,Option.bind_some]
  ·obtain ⟨o,o1,o2⟩:=ih (j+1) f (by omega) (by omega)
   rw [h4,Bool.true_and]
   refine ⟨o,?_,o2⟩
   rw [<- o1]
   show q14q_l4_r _ _ _=_
   unfold q14q_l4_r
   simp only [lt_dec hj,if_true,idxIn_nat hj,Int.toNat_natCast,i1,ej,q1,Option.bind_some,small_wrap (show j<=100000 by omega)]
theorem ev_l2 (N:Nat) (hN:1010<=N) {l:List Int} {v u:Unit} {cf mv:List (List Int)} {T0:Tab} (h:cbB ((l,v),cf,mv,T0,u)=true) (sets:List (List Int)) (hS:SetsI l.length cf sets):∀k c f,c+k=cf.length->k<f -> ∃o,q14q_l2 N f (((l,v),cf,mv,T0,u),(List.range cf.length).map (fun j=>(maskN (sets.getD j []):Int)),sets,(cf.length:Int),(c:Int),())=some o /\
   ((o=.inl (false,())/\(List.range' c k).all (fun c=>(sets.getD c []).all (evadeB cf mv (ballM l) sets c))=false)\/(o=.inr (.inl ())/\(List.range' c k).all (fun c=>(sets.getD c []).all (evadeB cf mv (ballM l) sets c))=true)):=by
 obtain ⟨h1,h2,h3⟩:=cbB_parts h
 obtain ⟨g1,g2,g3,g4⟩:=gmB_parts h3
 intro k
 induction k with
 | zero=>
  intro c f e1 e2
  obtain ⟨f,rfl⟩:∃m,f=m+1:=⟨f-1,by omega⟩
  have ei:c=cf.length:=by omega
  subst ei
  refine ⟨.inr (.inl ()),?_,.inr ⟨rfl,rfl⟩⟩
  show q14q_l2_r _ _ _=_
  unfold q14q_l2_r
  simp only [lt_not,Bool.false_eq_true,if_false]
 | succ k ih=>
  intro c f e1 e2
  obtain ⟨f,rfl⟩:∃m,f=m+1:=⟨f-1,by omega⟩
  have hc:c<cf.length:=by omega
  have hcs:c<sets.length:=by have:=hS.1;omega
  have ec:at_ K_Si sets c=sets.getD c []:=at_getDS hcs
  obtain ⟨r1,r2⟩:=hS.2 c hc
  obtain ⟨q,q1,q2⟩:=ev_l4 N hN h sets hS c hc (cf.length:Int) (c:Int) sets (sets.getD c []) r1 r2 (sets.getD c []).length 0 N (by omega) (by omega)
  simp only [Int.natCast_zero,List.drop_zero] at q1 q2
  rw [List.range'_succ,List.all_cons]
  rcases q2 with ⟨rfl,h4⟩ | ⟨rfl,h4⟩
  ·refine ⟨.inl (false,()),?_,.inl ⟨rfl,by rw [h4,Bool.false_and]⟩⟩
   show q14q_l2_r _ _ _=_
   unfold q14q_l2_r
   simp only [lt_dec hc,if_true,idxIn_nat hcs,Int.toNat_natCast,ec,q1,Option.bind_some]
  ·obtain ⟨o,o1,o2⟩:=ih (c+1) f (by omega) (by omega)
   rw [h4,Bool.true_and]
   refine ⟨o,?_,o2⟩
   rw [<- o1]
   show q14q_l2_r _ _ _=_
   unfold q14q_l2_r
   simp only [lt_dec hc,if_true,idxIn_nat hcs,Int.toNat_natCast,ec,q1,Option.bind_some,small_wrap (show c<=100000 by omega)]
theorem evas_split {n:Nat} {cf mv:List (List Int)} {ball:Int->List Int} {sets:List (List Int)} (hl:sets.length=cf.length):evasB (n:Int) cf mv ball sets=((List.range cf.length).all (setOk n cf sets)&&(List.range cf.length).all (fun c=>(sets.getD c []).all (evadeB cf mv ball sets c))):=by
 unfold evasB
 rw [hl]
 apply bool_eq_iff
 simp only [decide_true,Bool.true_and,Bool.and_eq_true,List.all_eq_true,List.mem_range,setOk,decide_eq_true_eq]
 constructor
 ·intro h
  exact ⟨fun c hc=>⟨(h c hc).1,fun x hx=>((h c hc).2 x hx).1⟩,fun c hc x hx=>((h c hc).2 x hx).2⟩
 ·rintro ⟨h1,h2⟩ c hc
  exact ⟨(h1 c hc).1,fun x hx=>⟨(h1 c hc).2 x hx,h2 c hc x hx⟩⟩
theorem gameEvas_lim (d) (r) (h:G_isEvas d=some r):∃N,F_q14q N d=some r:=by
 obtain ⟨⟨⟨l,v⟩,cf,mv,T0,u⟩,⟨n,es,w⟩,sets,_⟩:=d
 unfold G_isEvas at h
 split at h
 ·rename_i hc
  simp only [Bool.and_eq_true,decide_eq_true_eq] at hc
  obtain ⟨⟨⟨⟨hg,hgr⟩,ho⟩,hn⟩,hs⟩:=hc
  have hn:n=(l.length:Int):=hn
  subst hn
  have hs:smT sets=true:=hs
  obtain ⟨h1,h2,h3⟩:=cbB_parts hg
  obtain ⟨g1,_⟩:=gmB_parts h3
  obtain ⟨s1,s2,s3⟩:=smT_parts hs
  have h:=Option.some.inj h
  subst h
  refine ⟨1010,?_⟩
  unfold F_q14q
  show _=some (evasB (l.length:Int) cf mv (ballM l) sets,())
  by_cases hlen:sets.length=cf.length
  ·have hb:((sets.length:Int) != (cf.length:Int))=false:=by simp;omega
   have hl:(decide (0<=(sets.length:Int))&&decide ((sets.length:Int)<=(sets.length:Int))&&decide ((sets.length:Int)<=(lim:Int)))=true:=by
    have a1:(sets.length:Int)<=(lim:Int):=by unfold lim;omega
    simp only [a1,nonneg_dec,decide_true,Bool.and_self,Int.le_refl]
   obtain ⟨o,o1,o2⟩:=ev_l0 1010 hg hgr ho sets hlen s2 cf.length 0 1010 (by omega) (by omega)
   rw [rowU_zero] at o1
   have er:List.replicate sets.length (0:Int)=(List.range cf.length).map (fun _=>(0:Int)):=by
    rw [hlen]
    apply List.ext_getElem
    ·simp
    ·intro i i1 i2;simp
   rw [evas_split hlen]
   simp only [Int.natCast_zero,<- List.range_eq_range',rowU_full] at o1 o2
   have eT:(sets.length:Int)=(cf.length:Int):=by omega
   simp only [hb,Bool.false_eq_true,if_false,hl,if_true,Int.toNat_natCast,er]
   rw [eT,o1]
   rcases o2 with ⟨rfl,h4⟩ | ⟨rfl,h4⟩
   ·simp only [Option.bind_some,h4,Bool.false_and]
   ·have hS:SetsI l.length cf sets:=⟨hlen,fun c hc=>by
     have hcs:c<sets.length:=by omega
     have e:sets.getD c []=sets[c]:=by
      rw [List.getD_eq_getElem?_getD,List.getElem?_eq_getElem hcs]
      rfl
     have h6:=List.all_eq_true.1 h4 c (List.mem_range.2 hc)
     unfold setOk nodeSetB at h6
     simp only [Bool.and_eq_true] at h6
     refine ⟨?_,h6.1.1.1⟩
     rw [e]
     exact s2 _ (List.getElem_mem hcs)⟩
    obtain ⟨q,q1,q2⟩:=ev_l2 1010 (by omega) hg sets hS cf.length 0 1010 (by omega) (by omega)
    simp only [Int.natCast_zero,<- List.range_eq_range'] at q1 q2
    simp only [Option.bind_some,h4,Bool.true_and,eT,q1]
    rcases q2 with ⟨rfl,h5⟩ | ⟨rfl,h5⟩
    ·simp only [h5]
    ·simp only [h5]
  ·have hb:((sets.length:Int) != (cf.length:Int))=true:=by simp;omega
   have:evasB (l.length:Int) cf mv (ballM l) sets=false:=by
    unfold evasB
    rw [decide_eq_false hlen,Bool.false_and]
   simp only [hb,if_true,this]
 ·cases h
end Go.V.W
namespace Go.V.W
open Go.Proofs
theorem board_impl {m q:Nat} {es:List E} {v:Unit} (hg:graphB ((m:Int),es,v)=true) (ho:okL es=true) (h1:1<=m) (hq:q<=3) (u:Unit) :
  G_copBoard ((toI (netN m es),()),(q:Int),u)=some (((toI (netN m es),()),cfG ((m:Int),es,v) q,mvG ((m:Int),es,v) q,[],()),())/\cbB ((toI (netN m es),()),cfG ((m:Int),es,v) q,mvG ((m:Int),es,v) q,[],())=true:=by
 obtain ⟨h0,h8⟩:=graphB_n hg
 have hm:m<=8:=by omega
 obtain ⟨g1,_⟩:=graphB_edges hg
 obtain ⟨n1,n2⟩:=netB_net hm g1
 have hk:inB 0 3 (q:Int)=true:=inB_iff.2 (by omega)
 have e1:movesI (ballM (toI (netN m es))) (confL m q)=movesI (ballF m es) (confL m q):=by
  unfold movesI
  refine List.map_congr_left fun c hc => ?_
  rw [moves_congr fun x hx => ?_]
  have:=copsB_in (confL_mem.1 hc).2 x hx
  obtain ⟨y,rfl,hy⟩:=nodeX this
  exact ball_same hm g1 hy
 constructor
 ·unfold G_copBoard
  simp only [n1,n2,hk,Bool.and_self,if_true,Int.toNat_natCast,e1]
  rfl
 ·unfold cbB
  have h1':decide (1<=m)=true:=decide_eq_true h1
  have h3:=board_fits (v:=v) (es:=es) hm hq
  simp only [n1,n2,h1',h3,Bool.and_self]
theorem implICP {n:Int} {es:List E} {v:Unit} (ho:okL es=true) (k:Int) {T:Tab} (hs:smT T=true) (u:Unit):F_q24q 0 ((n,es,v),k,T,u)=some (proofO (n,es,v) k T):=by
 unfold F_q24q proofO
 simp only [implField (g:=(n,es,v)) ho]
 cases h:fieldB (n,es,v) k with
 | false=>simp only [Option.bind_some,Bool.not_false,if_true,Bool.false_eq_true,if_false]
 | true=>
  obtain ⟨hg,m,q,rfl,rfl,m1,m8,q1,q3⟩:=field_parts h
  obtain ⟨h1,h2⟩:=board_impl (v:=v) hg ho m1 q3 ()
  obtain ⟨g1,_⟩:=graphB_edges hg
  obtain ⟨n1,n2⟩:=netB_net m8 g1
  have h3:G_isProof (((toI (netN m es),()),cfG ((m:Int),es,v) q,mvG ((m:Int),es,v) q,[],()),T,())=some (proofB m (cfG ((m:Int),es,v) q) (mvG ((m:Int),es,v) q) (ballF m es) T,()):=by
   unfold G_isProof
   simp only [h2,hs,Bool.and_self,if_true,n2]
   rw [proof_congr (fun x hx=>ball_same m8 g1 hx) T]
  simp only [Option.bind_some,Bool.not_true,Bool.false_eq_true,if_false,net_some hg ho,h1,h3,if_true,Int.toNat_natCast]
theorem evade_congr {cf mv:List (List Int)} {b1 b2:Int->List Int} {sets:List (List Int)} {c:Nat} {x:Int} (h:b1 x=b2 x):evadeB cf mv b1 sets c x=evadeB cf mv b2 sets c x:=by
 unfold evadeB
 rw [h]
theorem evas_congr {n:Nat} {cf mv:List (List Int)} {b1 b2:Int->List Int} (h:∀x:Nat,x<n->b1 (x:Int)=b2 (x:Int)) (sets:List (List Int)):evasB (n:Int) cf mv b1 sets=evasB (n:Int) cf mv b2 sets:=by
 by_cases hl:sets.length=cf.length
 ·apply bool_eq_iff
  have key:∀b1 b2:Int->List Int,(∀x:Nat,x<n->b1 (x:Int)=b2 (x:Int))->evasB (n:Int) cf mv b1 sets=true->evasB (n:Int) cf mv b2 sets=true:=fun b1 b2 h hh=>by
   rw [evas_split hl,Bool.and_eq_true] at hh |-
   refine ⟨hh.1,List.all_eq_true.2 fun c hc=>List.all_eq_true.2 fun x hx => ?_⟩
   have h1:=List.all_eq_true.1 hh.1 c hc
   unfold setOk at h1
   simp only [Bool.and_eq_true] at h1
   obtain ⟨y,rfl,hy⟩:=set_in h1.1.1 x hx
   rw [<- evade_congr (h y hy)]
   exact List.all_eq_true.1 (List.all_eq_true.1 hh.2 c hc) _ hx
  exact ⟨key b1 b2 h,key b2 b1 fun x hx=>(h x hx).symm⟩
 ·unfold evasB
  rw [decide_eq_false hl,Bool.false_and,Bool.false_and]
theorem implIE {n:Int} {es:List E} {v:Unit} (ho:okL es=true) (k:Int) {sets:List (List Int)} (hs:smT sets=true) (u:Unit):F_q48q 0 ((n,es,v),k,sets,u)=some (evO (n,es,v) k sets):=by
 unfold F_q48q evO
 simp only [implField (g:=(n,es,v)) ho]
 cases h:fieldB (n,es,v) k with
 | false=>simp only [Option.bind_some,Bool.not_false,if_true,Bool.false_eq_true,if_false]
 | true=>
  obtain ⟨hg,m,q,rfl,rfl,m1,m8,q1,q3⟩:=field_parts h
  obtain ⟨h1,h2⟩:=board_impl (v:=v) hg ho m1 q3 ()
  obtain ⟨g1,_⟩:=graphB_edges hg
  obtain ⟨n1,n2⟩:=netB_net m8 g1
  have h3:G_isEvas (((toI (netN m es),()),cfG ((m:Int),es,v) q,mvG ((m:Int),es,v) q,[],()),((m:Int),es,v),sets,())=some (evasB (m:Int) (cfG ((m:Int),es,v) q) (mvG ((m:Int),es,v) q) (ballF m es) sets,()):=by
   unfold G_isEvas
   simp only [h2,hs,hg,ho,n2,decide_true,Bool.and_self,if_true]
   rw [evas_congr (fun x hx=>ball_same m8 g1 hx) sets]
  simp only [Option.bind_some,Bool.not_true,Bool.false_eq_true,if_false,net_some hg ho,h1,h3,if_true,Int.toNat_natCast]
theorem bestRow_win:∀(T:Tab) (i b l:Int),0<=i->(0<=(bestRow T i b l).1↔0<=b\/winB T=true):=by
 intro T
 induction T with
 | nil=>intro i b l _;simp [bestRow,winB]
 | cons r T ih=>
  intro i b l hi
  have hw:winB (r::T)=(decide (0<=worstR r)||winB T):=rfl
  rw [hw,Bool.or_eq_true,decide_eq_true_eq]
  unfold bestRow
  split
  ·rename_i hh
   rw [ih _ _ _ (by omega)]
   constructor
   ·intro _;exact .inr (.inl hh.1)
   ·intro _;exact .inl hi
  ·rename_i hh
   rw [ih _ _ _ (by omega)]
   constructor
   ·rintro (h | h)
    ·exact .inl h
    ·exact .inr (.inr h)
   ·rintro (h | h | h)
    ·exact .inl h
    ·exact .inl (Int.not_lt.1 fun hb=>hh ⟨h,.inl hb⟩)
    ·exact .inr h
theorem best_win (cf:List (List Int)) (T:Tab):(bestOut cf (bestRow T 0 (-1) 0)).2.2.1=winB T:=by
 have h:=bestRow_win T 0 (-1) 0 (by omega)
 unfold bestOut
 split
 ·rename_i hn
  cases hw:winB T with
  | false=>rfl
  | true=>
   have:=h.2 (.inr hw)
   omega
 ·rename_i hn
  rcases h.1 (by omega) with h2 | h2
  ·omega
  ·exact h2.symm
theorem specCC {n:Int} {es:List E} {v:Unit} (ho:okL es=true) (k:Int) (u:Unit):F_q58q 0 ((n,es,v),k,u)=some (canO (n,es,v) k):=by
 unfold F_q58q canO
 simp only [specField (g:=(n,es,v)) ho]
 cases h:fieldB (n,es,v) k with
 | false=>simp only [Option.bind_some,Bool.not_false,if_true,Bool.false_eq_true,if_false]
 | true=>
  obtain ⟨hg,m,q,rfl,rfl,m1,m8,q1,q3⟩:=field_parts h
  have hk:inB 0 3 (q:Int)=true:=inB_iff.2 (by omega)
  have h3:G_l4Wins (((m:Int),es,v),(q:Int),())=some (winB (tmG ((m:Int),es,v) q),()):=by
   unfold G_l4Wins
   simp only [hg,ho,hk,Bool.and_self,if_true,Int.toNat_natCast]
  simp only [Option.bind_some,Bool.not_true,Bool.false_eq_true,if_false,h3,if_true,Int.toNat_natCast]
theorem implCC {n:Int} {es:List E} {v:Unit} (ho:okL es=true) (k:Int) (u:Unit):F_q61q 0 ((n,es,v),k,u)=some (canO (n,es,v) k):=by
 unfold F_q61q canO
 simp only [implField (g:=(n,es,v)) ho]
 cases h:fieldB (n,es,v) k with
 | false=>simp only [Option.bind_some,Bool.not_false,if_true,Bool.false_eq_true,if_false]
 | true=>
  obtain ⟨hg,m,q,rfl,rfl,m1,m8,q1,q3⟩:=field_parts h
  obtain ⟨h1,h2⟩:=game_impl (v:=v) hg ho m1 q3 ()
  have h3:G_copBest (((toI (netN m es),()),cfG ((m:Int),es,v) q,mvG ((m:Int),es,v) q,tmG ((m:Int),es,v) q,()),())=some (bestOut (cfG ((m:Int),es,v) q) (bestRow (tmG ((m:Int),es,v) q) 0 (-1) 0)):=by
   unfold G_copBest
   simp only [h2,tm_low,Bool.and_self,if_true]
  simp only [Option.bind_some,Bool.not_true,Bool.false_eq_true,if_false,net_some hg ho,h1,h3,if_true,Int.toNat_natCast,best_win]
end Go.V.W
namespace Go.V.W
open Go.Proofs
theorem lc_l2 (N m n:Nat) (hn:n<=8) (P T S:Tab) (hP:rcB m n P=true) (hT:rcB m n T=true) (w:Bool) (c:Nat) (hc:c<m) (hle:∀x:Nat,x<n->0<=tab2 P (c:Int) (x:Int)->0<=tab2 T (c:Int) (x:Int)/\tab2 T (c:Int) (x:Int)<=tab2 P (c:Int) (x:Int)):∀k x f,x+k=n->k<f ->
  laws_FnCapture_l2 N f (P,w,T,S,(c:Int),(x:Int),())=some (.inr (.inl (P,w,T,S,(c:Int),()))):=by
 obtain ⟨p1,p2⟩:=rcB_parts hP
 obtain ⟨t1,t2⟩:=rcB_parts hT
 have i1:idxIn (c:Int) P.length=true:=idxIn_nat (by omega)
 have i2:idxIn (c:Int) T.length=true:=idxIn_nat (by omega)
 intro k
 induction k with
 | zero=>
  intro x f h1 h2
  obtain ⟨f,rfl⟩:∃m,f=m+1:=⟨f-1,by omega⟩
  have e:x=n:=by omega
  subst e
  show laws_FnCapture_l2_r _ _ _=_
  unfold laws_FnCapture_l2_r
  simp only [i1,if_true,Int.toNat_natCast,p2 c hc,lt_not,Bool.false_eq_true,if_false]
 | succ k ih=>
  intro x f h1 h2
  obtain ⟨f,rfl⟩:∃m,f=m+1:=⟨f-1,by omega⟩
  have hx:x<n:=by omega
  have j1:idxIn (x:Int) (at_ K_Si P c).length=true:=idxIn_nat (by rw [p2 c hc];exact hx)
  have j2:idxIn (x:Int) (at_ K_Si T c).length=true:=idxIn_nat (by rw [t2 c hc];exact hx)
  have hv:=tab2_rc hP hc hx
  have hw:=tab2_rc hT hc hx
  have hlt:decide ((x:Int)<((at_ K_Si P c).length:Int))=true:=by rw [p2 c hc];exact lt_dec hx
  show laws_FnCapture_l2_r _ _ _=_
  unfold laws_FnCapture_l2_r
  by_cases h0:0<=tab2 P (c:Int) (x:Int)
  ·obtain ⟨a1,a2⟩:=hle x hx h0
   have b0:decide (tab2 P (c:Int) (x:Int)>=0)=true:=decide_eq_true h0
   have b1:decide (tab2 T (c:Int) (x:Int)<0)=false:=decide_eq_false (by omega)
   have b2:decide (tab2 T (c:Int) (x:Int)>tab2 P (c:Int) (x:Int))=false:=decide_eq_false (by omega)
   simp only [i1,i2,j1,j2,if_true,Int.toNat_natCast,hlt,hv,hw,b0,b1,b2,Bool.false_eq_true,if_false,small_wrap (show x<=100000 by omega)]
   exact ih (x+1) f (by omega) (by omega)
  ·have b0:decide (tab2 P (c:Int) (x:Int)>=0)=false:=decide_eq_false h0
   simp only [i1,i2,j1,j2,if_true,Int.toNat_natCast,hlt,hv,b0,Bool.false_eq_true,if_false,small_wrap (show x<=100000 by omega)]
   exact ih (x+1) f (by omega) (by omega)
theorem lc_l0 (N m n:Nat) (hN:10<=N) (hn:n<=8) (hm:m<=1000) (P T S:Tab) (hP:rcB m n P=true) (hT:rcB m n T=true) (hle:∀c x:Nat,c<m->x<n->0<=tab2 P (c:Int) (x:Int)->0<=tab2 T (c:Int) (x:Int)/\tab2 T (c:Int) (x:Int)<=tab2 P (c:Int) (x:Int)):∀k c f,c+k=m->k<f ->
  laws_FnCapture_l0 N f (P,true,T,S,(c:Int),())=some (.inr (.inl (T,S,()))):=by
 obtain ⟨p1,p2⟩:=rcB_parts hP
 intro k
 induction k with
 | zero=>
  intro c f h1 h2
  obtain ⟨f,rfl⟩:∃m,f=m+1:=⟨f-1,by omega⟩
  have hlt:decide ((c:Int)<(P.length:Int))=false:=decide_eq_false (by omega)
  show laws_FnCapture_l0_r _ _ _=_
  unfold laws_FnCapture_l0_r
  simp only [if_true,hlt,Bool.false_eq_true,if_false]
 | succ k ih=>
  intro c f h1 h2
  obtain ⟨f,rfl⟩:∃m,f=m+1:=⟨f-1,by omega⟩
  have hlt:decide ((c:Int)<(P.length:Int))=true:=decide_eq_true (by omega)
  have hin:=lc_l2 N m n hn P T S hP hT true c (by omega) (fun x hx=>hle c x (by omega) hx) n 0 N (by omega) (by omega)
  simp only [Int.natCast_zero] at hin
  show laws_FnCapture_l0_r _ _ _=_
  unfold laws_FnCapture_l0_r
  simp only [if_true,hlt,hin,Option.bind_some,small_wrap (show c<=100000 by omega)]
  exact ih (c+1) f (by omega) (by omega)
theorem lc_l0f (N f:Nat) (P T S:Tab) (c:Int):laws_FnCapture_l0 N (f+1) (P,false,T,S,c,())=some (.inr (.inl (T,S,()))):=by
 show laws_FnCapture_l0_r _ _ _=_
 unfold laws_FnCapture_l0_r
 simp only [Bool.false_eq_true,if_false]
theorem lc_l6 (N m n:Nat) (hn:n<=8) (T:Tab) (hT:rcB m n T=true) (c:Nat) (hc:c<m):∀k x f,x+k=n->k<f ->
  laws_FnCapture_l6 N f (T,T.map negL,(c:Int),(x:Int),())=some (.inr (.inl (T,T.map negL,(c:Int),()))):=by
 obtain ⟨t1,t2⟩:=rcB_parts hT
 have i2:idxIn (c:Int) T.length=true:=idxIn_nat (by omega)
 have i3:idxIn (c:Int) (T.map negL).length=true:=idxIn_nat (by rw [List.length_map];omega)
 have hlt:c<T.length:=by omega
 have es:at_ K_Si (T.map negL) c=negL (T.getD c []):=by
  rw [at_getDS (by rw [List.length_map];exact hlt),map_negL]
 have hlenN:(negL (T.getD c [])).length<=n:=by
  have h1:(negL (T.getD c [])).length<=(T.getD c []).length:=setF_len
  have h2:=t2 c hc
  rw [at_getDS hlt] at h2
  omega
 intro k
 induction k with
 | zero=>
  intro x f h1 h2
  obtain ⟨f,rfl⟩:∃m,f=m+1:=⟨f-1,by omega⟩
  have e:x=n:=by omega
  subst e
  show laws_FnCapture_l6_r _ _ _=_
  unfold laws_FnCapture_l6_r
  simp only [i2,if_true,Int.toNat_natCast,t2 c hc,lt_not,Bool.false_eq_true,if_false]
 | succ k ih=>
  intro x f h1 h2
  obtain ⟨f,rfl⟩:∃m,f=m+1:=⟨f-1,by omega⟩
  have hx:x<n:=by omega
  have j2:idxIn (x:Int) (at_ K_Si T c).length=true:=idxIn_nat (by rw [t2 c hc];exact hx)
  have hw:=tab2_rc hT hc hx
  have hl:decide ((x:Int)<((at_ K_Si T c).length:Int))=true:=by rw [t2 c hc];exact lt_dec hx
  have hok:okL (negL (T.getD c []))=true:=okL_of (by omega)
  have hh:hasL (negL (T.getD c [])) (x:Int)=decide (tab2 T (c:Int) (x:Int)<0):=bool_eq_iff (by
   rw [has_mem,neg_mem hT hc,decide_eq_true_eq]
   constructor
   ·rintro ⟨y,hy,e,h⟩
    have:x=y:=by omega
    subst this
    exact h
   ·intro h
    exact ⟨x,hx,rfl,h⟩)
  show laws_FnCapture_l6_r _ _ _=_
  unfold laws_FnCapture_l6_r G_rHas
  simp only [i2,i3,j2,if_true,Int.toNat_natCast,hl,es,hok,Option.bind_some,hw,hh,beq_self_eq_true,Bool.not_true,Bool.false_eq_true,if_false,small_wrap (show x<=100000 by omega)]
  exact ih (x+1) f (by omega) (by omega)
theorem lc_l4 (N m n:Nat) (hN:10<=N) (hn:n<=8) (hm:m<=1000) (T:Tab) (hT:rcB m n T=true):∀k c f,c+k=m->k<f ->
  laws_FnCapture_l4 N f (T,T.map negL,(c:Int),())=some (.inr (.inl ())):=by
 obtain ⟨t1,t2⟩:=rcB_parts hT
 intro k
 induction k with
 | zero=>
  intro c f h1 h2
  obtain ⟨f,rfl⟩:∃m,f=m+1:=⟨f-1,by omega⟩
  have hlt:decide ((c:Int)<(T.length:Int))=false:=decide_eq_false (by omega)
  show laws_FnCapture_l4_r _ _ _=_
  unfold laws_FnCapture_l4_r
  simp only [hlt,Bool.false_eq_true,if_false]
 | succ k ih=>
  intro c f h1 h2
  obtain ⟨f,rfl⟩:∃m,f=m+1:=⟨f-1,by omega⟩
  have hlt:decide ((c:Int)<(T.length:Int))=true:=decide_eq_true (by omega)
  have hin:=lc_l6 N m n hn T hT c (by omega) n 0 N (by omega) (by omega)
  simp only [Int.natCast_zero] at hin
  show laws_FnCapture_l4_r _ _ _=_
  unfold laws_FnCapture_l4_r
  simp only [hlt,if_true,hin,Option.bind_some,small_wrap (show c<=100000 by omega)]
  exact ih (c+1) f (by omega) (by omega)
end Go.V.W
namespace Go.V.W
open Go.Proofs
theorem smT_8 {T:Tab} (h1:T.length<=120) (h2:∀r∈T,r.length<=8 /\ ∀v∈r,v<=9223372036854775807):smT T=true:=by
 unfold smT
 simp only [Bool.and_eq_true,decide_eq_true_eq,List.all_eq_true]
 exact ⟨by omega,fun r hr=>⟨by have:=(h2 r hr).1;omega,(h2 r hr).2⟩⟩
theorem lawCap_of {code:List Int} {u:Unit} (hbig:(g_laws_rBig (code,())).1=false) {n:Int} {es:List E} {v:Unit} {k:Int} {P:Tab} {w:Unit} (hd:pickF F_q11q P_drawCap (code,())=some ((n,es,v),k,P,w)) (ho:okL es=true) (hs:smT P=true)
  (hmax:∀m q:Nat,m<=8->q<=3->smT (tmG ((m:Int),es,v) q)=true/\smT ((tmG ((m:Int),es,v) q).map negL)=true):F_laws_FnCapture 1010 (code,u)=some (true,()):=by
 unfold F_laws_FnCapture
 have hp:G_specPr ((n,es,v),k,P,())=some (proofO (n,es,v) k P):=by
  unfold G_specPr
  simp only [ho,hs,Bool.and_self,if_true]
 have hsf:G_safe ((n,es,v),k,())=some (safeB (n,es,v) k):=by
  unfold G_safe
  simp only [ho,if_true]
 obtain ⟨u1,u2⟩:=cap_small (g:=(n,es,v)) (k:=k)
 obtain ⟨w1,w2⟩:=safe_small (g:=(n,es,v)) (k:=k)
 have hr1:G_rTable ((capB (n,es,v) k).1,(capB (n,es,v) k).1,())=some (true,()):=by
  unfold G_rTable
  simp only [okLL_8 u1 u2,if_true,decide_true]
 have hr2:G_rTable ((safeB (n,es,v) k).1,(safeB (n,es,v) k).1,())=some (true,()):=by
  unfold G_rTable
  simp only [okLL_8 w1 w2,if_true,decide_true]
 simp only [hbig,Bool.false_eq_true,if_false,hd,Option.bind_some,implICP ho k hs,hp,beq_self_eq_true,Bool.not_true,specCT ho,implCT ho,hr1,hsf,specSS ho,hr2,specCC ho,implCC ho]
 cases hf:fieldB (n,es,v) k with
 | false=>
  simp only [capB,safeB,canO,proofO,hf,Bool.false_eq_true,if_false,beq_self_eq_true,Bool.not_true,Bool.not_false,if_true]
 | true=>
  obtain ⟨hg,m,q,rfl,rfl,m1,m8,q1,q3⟩:=field_parts hf
  obtain ⟨hx1,hx2⟩:=hmax m q m8 q3
  have hfit:=board_fits (v:=v) (es:=es) m8 q3
  have hbf:okBall m (ballF m es):=ballF_ok m es
  have etm:tmG ((m:Int),es,v) q=timesG (cfG ((m:Int),es,v) q) (mvG ((m:Int),es,v) q) (ballF m es) m:=by
   unfold tmG
   simp only [Int.toNat_natCast]
  have h1:=times_proof m8 hfit hbf
  have h2:=safe_evas m8 hfit hbf
  rw [<- etm] at h1 h2
  have hrc:=tm_rc ((m:Int),es,v) q
  simp only [Int.toNat_natCast] at hrc
  have hml:(cfG ((m:Int),es,v) q).length<=120:=confL_120 m8 q3
  have h4:=lc_l4 1010 (cfG ((m:Int),es,v) q).length m (by omega) m8 (by omega) (tmG ((m:Int),es,v) q) hrc (cfG ((m:Int),es,v) q).length 0 1010 (by omega) (by omega)
  simp only [Int.natCast_zero] at h4
  simp only [capB,safeB,canO,hf,if_true,Int.toNat_natCast,implICP ho _ hx1,implIE ho _ hx2,Option.bind_some]
  simp only [proofO,evO,hf,if_true,Int.toNat_natCast,h1,h2,beq_self_eq_true,Bool.not_true,Bool.false_eq_true,if_false]
  have hne:((!winB (tmG ((m:Int),es,v) q))==winB (tmG ((m:Int),es,v) q))=false:=by cases winB (tmG ((m:Int),es,v) q)<;>rfl
  simp only [hne,Bool.false_eq_true,if_false]
  cases hpr:proofB m (cfG ((m:Int),es,v) q) (mvG ((m:Int),es,v) q) (ballF m es) P with
  | true=>
   have hwin:=proof_win m8 hfit hbf hpr
   rw [<- etm] at hwin
   obtain ⟨t1,t2,t3⟩:=proof_parts hpr
   have h0:=lc_l0 1010 (cfG ((m:Int),es,v) q).length m (by omega) m8 (by omega) P (tmG ((m:Int),es,v) q) ((tmG ((m:Int),es,v) q).map negL) (tabOk_rc t1) hrc (fun c x hc hx h=>by
    have:=proof_times m8 hfit hbf hpr hc hx h
    rw [<- etm] at this
    exact this) (cfG ((m:Int),es,v) q).length 0 1010 (by omega) (by omega)
   simp only [Int.natCast_zero] at h0
   simp only [hwin,if_true,Bool.not_true,Bool.false_eq_true,if_false,h0,Option.bind_some,h4]
  | false=>
   have h0:=lc_l0f 1010 1009 P (tmG ((m:Int),es,v) q) ((tmG ((m:Int),es,v) q).map negL) 0
   simp only [Bool.false_eq_true,if_false,h0,Option.bind_some,h4]
end Go.V.W
namespace Go.V.W
open Go.Proofs
def highB (T:Tab):Bool:=T.all fun row=>row.all fun v=>decide (v<=5000)
theorem high_tabM {m n:Nat} {f:Nat->Nat->Int} (h:∀c x,c<m->x<n->f c x<=5000):highB (tabM m n f)=true:=by
 unfold highB tabM
 simp only [List.all_map,List.all_eq_true,Function.comp,List.mem_range,decide_eq_true_eq]
 intro c hc x hx
 exact h c x hc hx
theorem high_tab2 {m n:Nat} {T:Tab} (hT:rcB m n T=true) (h:highB T=true) {c x:Nat} (hc:c<m) (hx:x<n):tab2 T (c:Int) (x:Int)<=5000:=by
 obtain ⟨t1,t2⟩:=rcB_parts hT
 have hlt:c<T.length:=by omega
 have ec:at_ K_Si T c=T[c]:=at_get (e:=K_Si) hlt
 have hl:=t2 c hc
 rw [ec] at hl
 have ex:at_ I T[c] x=T[c][x]:=at_get (e:=I) (by omega)
 rw [<- tab2_rc hT hc hx,ec,ex]
 unfold highB at h
 exact of_decide_eq_true (List.all_eq_true.1 (List.all_eq_true.1 h _ (List.getElem_mem hlt)) _ (List.getElem_mem (by omega)))
theorem gameT_high {cf mv:List (List Int)} {ball:Int->List Int} {n:Nat}:∀(k:Nat) (t:Int) (T:Tab),t+(k:Int)<=5000->rcB cf.length n T=true->highB T=true->highB (gameT cf mv ball n k t T)=true:=by
 intro k
 induction k with
 | zero=>intro t T _ _ h;exact h
 | succ k ih=>
  intro t T ht h h2
  unfold gameT
  split
  ·refine ih _ _ (by omega) (rc_tabM _ _ _) (high_tabM fun c x hc hx => ?_)
   split
   ·omega
   ·exact high_tab2 h h2 hc hx
  ·exact h2
theorem tm_high (g:Gr) (k:Nat):highB (tmG g k)=true:=gameT_high _ _ _ (by omega) (rc_tabM _ _ _) (high_tabM fun c x _ _=>by split<;>omega)
theorem tm_smT {m q:Nat} {es:List E} {v:Unit} (hm:m<=8) (hq:q<=3):smT (tmG ((m:Int),es,v) q)=true/\smT ((tmG ((m:Int),es,v) q).map negL)=true:=by
 obtain ⟨s1,s2⟩:=tm_small (es:=es) (v:=v) hm hq
 have hh:=tm_high ((m:Int),es,v) q
 unfold highB at hh
 refine ⟨smT_8 s1 fun r hr=>⟨s2 r hr,fun z hz => ?_⟩,smT_8 (by rw [List.length_map];exact s1) fun r hr => ?_⟩
 ·have:=of_decide_eq_true (List.all_eq_true.1 (List.all_eq_true.1 hh r hr) z hz)
  omega
 ·obtain ⟨r0,h0,rfl⟩:=List.mem_map.1 hr
  have h1:=s2 r0 h0
  have h2:(negL r0).length<=r0.length:=setF_len
  refine ⟨by omega,fun z hz => ?_⟩
  unfold negL at hz
  obtain ⟨y,_,h3,_,rfl⟩:=setF_mem.1 hz
  omega
end Go.V.W
namespace Go.V.W
open Go.Proofs
theorem at_l {e:Kd} {l:List e.den} {i:Nat} (h:i<l.length):at_ e l i=l[i]:=at_get h
end Go.V.W
namespace Go.V.W
structure Inv3 (p n:Nat) (ball:Nat->Int->List Int) (f:Nat->Nat->Nat->Int):Prop where
 low:∀r c q,-1<=f r c q
 home:∀r c,f r c c=0
 away:∀r c q,c≠q->f r c q≠0
 why:∀r c q,r<p->c<n->q<n->0<=f r c q->c=q \/ ∃b∈ball r (c:Int),0<=afterT (ball r) (tabL n (f ((r+1) % p))) b (q:Int)
theorem Inv3.start (p n:Nat) (ball:Nat->Int->List Int):Inv3 p n ball start3:=by
 refine ⟨fun r c q => ?_,fun r c => ?_,fun r c q h => ?_,fun r c q _ _ _ h => ?_⟩
 ·unfold start3 startF;split<;>omega
 ·unfold start3 startF;simp
 ·unfold start3 startF;rw [if_neg h];omega
 ·unfold start3 startF at h
  by_cases e:c=q
  ·exact .inl e
  ·rw [if_neg e] at h;omega
def okBalls (p n:Nat) (ball:Nat->Int->List Int):Prop := ∀r,r<p->okBall n (ball r)
theorem after_mono {n:Nat} {ball:Int->List Int} (hb:okBall n ball) {f g:Nat->Nat->Int} (h:∀c q,0<=f c q->0<=g c q) {b q:Nat} (hbn:b<n) (hq:q<n) (h0:0<=afterT ball (tabL n f) (b:Int) (q:Int)):0<=afterT ball (tabL n g) (b:Int) (q:Int):=by
 unfold afterT at h0 |-
 by_cases e:(b:Int)=(q:Int)
 ·rw [if_pos e];exact Int.le_refl _
 ·rw [if_neg e] at h0 |-
  rcases worst_spec (tab2 (tabL n f) (b:Int)) (ball (q:Int)) 0 with ⟨_,h1⟩ | ⟨h1,_,_⟩
  ·omega
  ·rcases worst_spec (tab2 (tabL n g) (b:Int)) (ball (q:Int)) 0 with ⟨⟨x,hx,h2⟩,_⟩ | ⟨_,h2,_⟩
   ·exfalso
    obtain ⟨y,hy,rfl⟩:=hb q hq x hx
    have:=(h1 _ hx).1
    rw [tab2_tabL _ hbn hy] at this h2
    have:=h _ _ this
    omega
   ·exact h2
theorem Inv3.next {p n:Nat} {ball:Nat->Int->List Int} (hb:okBalls p n ball) {t:Int} (ht:1<=t) {f:Nat->Nat->Nat->Int} (hI:Inv3 p n ball f):Inv3 p n ball (step3 p n ball t f):=by
 have hkeep:∀r c q,0<=f r c q->step3 p n ball t f r c q=f r c q:=fun r c q h=>by
  unfold step3 can3
  have:decide (f r c q<0)=false:=by simp;omega
  simp [this]
 have hge:∀r c q,0<=f r c q->0<=step3 p n ball t f r c q:=fun r c q h=>by rw [hkeep r c q h];exact h
 refine ⟨fun r c q => ?_,fun r c => ?_,fun r c q h => ?_,fun r c q hr hc hq h => ?_⟩
 ·unfold step3;split
  ·omega
  ·exact hI.low r c q
 ·rw [hkeep r c c (by rw [hI.home];exact Int.le_refl _)];exact hI.home r c
 ·unfold step3;split
  ·omega
  ·exact hI.away r c q h
 ·have key:(∃b∈ball r (c:Int),0<=afterT (ball r) (tabL n (f ((r+1) % p))) b (q:Int)) -> ∃b∈ball r (c:Int),0<=afterT (ball r) (tabL n (step3 p n ball t f ((r+1) % p))) b (q:Int):=by
   rintro ⟨b,hbm,h1⟩
   obtain ⟨y,hy,rfl⟩:=hb r hr c hc b hbm
   exact ⟨_,hbm,after_mono (hb r hr) (hge _) hy hq h1⟩
  by_cases hf:0<=f r c q
  ·exact (hI.why r c q hr hc hq hf).imp _root_.id key
  ·right
   have hcan:can3 p n ball f r c q=true:=by
    cases hcan:can3 p n ball f r c q with
    | true=>rfl
    | false=>unfold step3 at h;rw [if_neg (by rw [hcan];simp)] at h;exact absurd h hf
   unfold can3 at hcan
   simp only [Bool.and_eq_true,List.any_eq_true,decide_eq_true_eq] at hcan
   exact key hcan.2
end Go.V.W
namespace Go.V.W
open Go.Proofs
structure TT (nets:List Nt) (p n:Nat):Prop where
 ok:netsB n nets=true
 len:nets.length=p
 n8:n<=8
end Go.V.W
namespace Go.V.W
open Go.Proofs
theorem l4Worst_lim (d) (r) (h:G_l4Worst d=some r):∃N,F_q66q N d=some r:=by
 obtain ⟨l,_⟩:=d
 unfold G_l4Worst at h
 split at h
 ·rename_i hl
  have hmx:=lim_max (okL_lim hl)
  have h:=Option.some.inj h
  subst h
  have key:∀(k i f:Nat) (m:Int),i+k=l.length->k<f->q66q_l0 (l.length+1) f (l,m,(i:Int),())=some (.inl (worstL (fun z=>z) (l.drop i) m,()))\/q66q_l0 (l.length+1) f (l,m,(i:Int),())=some (.inr (.inl (worstL (fun z=>z) (l.drop i) m,()))):=by
   intro k
   induction k with
   | zero=>
    intro i f m h1 h2
    obtain ⟨f,rfl⟩:∃z,f=z+1:=⟨f-1,by omega⟩
    have e:i=l.length:=by omega
    subst e
    rw [List.drop_of_length_le (Nat.le_refl _)]
    right
    simp [q66q_l0,q66q_l0_r,worstL]
   | succ k ih=>
    intro i f m h1 h2
    obtain ⟨f,rfl⟩:∃z,f=z+1:=⟨f-1,by omega⟩
    have hi:i<l.length:=by omega
    have step:q66q_l0 (l.length+1) (f+1) (l,m,(i:Int),())=if l[i]<0 then some (.inl (-1,())) else q66q_l0 (l.length+1) f (l,(if m<l[i] then l[i] else m),((i+1:Nat):Int),()):=by
     show q66q_l0_r (l.length+1) (q66q_l0 (l.length+1) f) _=_
     unfold q66q_l0_r
     simp only [lt_dec hi,if_true,idxIn_nat hi,Int.toNat_natCast,at_l (e:=I) hi,most_eq,wrap_up hi hmx]
     by_cases h:l[i]<0
     ·simp only [h,decide_true,if_true]
     ·simp only [h,decide_false,Bool.false_eq_true,if_false]
    rw [step,List.drop_eq_getElem_cons hi]
    simp only [worstL]
    by_cases h:l[i]<0
    ·rw [if_pos h,if_pos h]
     exact .inl rfl
    ·rw [if_neg h,if_neg h]
     exact ih (i+1) f _ (by omega) (by omega)
  refine ⟨l.length+1,?_⟩
  unfold F_q66q
  have:=key l.length 0 (l.length+1) 0 (by omega) (by omega)
  simp only [Int.natCast_zero,List.drop_zero] at this
  rcases this with h | h<;>simp only [h,Option.bind_some]
 ·cases h
theorem max_lim (d) (r) (h:G_max d=some r):∃N,F_q25q N d=some r:=by
 obtain ⟨l,_⟩:=d
 unfold G_max at h
 split at h
 ·rename_i hc
  simp only [Bool.and_eq_true,decide_eq_true_eq] at hc
  obtain ⟨hl,h0⟩:=hc
  have h0:0<l.length:=h0
  have hmx:=lim_max (okL_lim hl)
  have h:=Option.some.inj h
  subst h
  have key:∀(k i f:Nat) (m:Int),i+k=l.length->k<f->q25q_l0 (l.length+1) f (l,m,(i:Int),())=some (.inl ((l.drop i).foldl (fun a b=>if a<b then b else a) m,())):=by
   intro k
   induction k with
   | zero=>
    intro i f m h1 h2
    obtain ⟨f,rfl⟩:∃z,f=z+1:=⟨f-1,by omega⟩
    have e:i=l.length:=by omega
    subst e
    rw [List.drop_of_length_le (Nat.le_refl _)]
    simp [q25q_l0,q25q_l0_r]
   | succ k ih=>
    intro i f m h1 h2
    obtain ⟨f,rfl⟩:∃z,f=z+1:=⟨f-1,by omega⟩
    have hi:i<l.length:=by omega
    show q25q_l0_r (l.length+1) (q25q_l0 (l.length+1) f) _=_
    unfold q25q_l0_r
    rw [List.drop_eq_getElem_cons hi]
    simp only [lt_dec hi,if_true,idxIn_nat hi,Int.toNat_natCast,at_l (e:=I) hi,wrap_up hi hmx,List.foldl_cons]
    exact ih (i+1) f _ (by omega) (by omega)
  refine ⟨l.length+1,?_⟩
  unfold F_q25q
  have h1:decide ((l.length:Int)<1)=false:=by simp;omega
  have i0:idxIn (0:Int) l.length=true:=idxIn_nat h0
  have z0:(0:Int).toNat=0:=rfl
  have:=key (l.length-1) 1 (l.length+1) l[0] (by omega) (by omega)
  simp only [Int.natCast_one] at this
  simp only [h1,Bool.false_eq_true,if_false,i0,if_true,z0,at_l (e:=I) h0,this,Option.bind_some]
  cases l with
  | nil=>simp at h0
  | cons a l=>simp
 ·cases h
end Go.V.W
namespace Go.V.W
open Go.Proofs
theorem and255 (x:Int):0<=bits .and .u64 x 255/\bits .and .u64 x 255<=255:=by
 have h:bits .and .u64 x 255=IntKind.wrap .u64 ((BitVec.ofInt 64 x&&&BitVec.ofInt 64 255).toNat:Int):=rfl
 have e:(BitVec.ofInt 64 x&&&BitVec.ofInt 64 255).toNat<=255:=by
  rw [BitVec.toNat_and]
  have:(BitVec.ofInt 64 255).toNat=255:=by decide
  rw [this]
  exact Nat.and_le_right
 rw [h]
 generalize (BitVec.ofInt 64 x&&&BitVec.ofInt 64 255).toNat=m at e
 unfold IntKind.wrap
 simp [IntKind.bits,IntKind.signed]
 omega
theorem next_ok {c:Cur} {u:Unit} (h:CurB c) (hf:c.2.1<=far_):Ok (F_q41q 0 (c,u)) fun r=>0<=r.1/\r.1<=255/\Adv 1 c r.2.1:=by
 obtain ⟨l,a,s,_⟩:=c
 obtain ⟨hb,ha⟩:=h
 simp only at hb ha hf
 unfold far_ at hf
 have w1:IntKind.wrap .i64 (a+1)=a+1:=wrap_in _ (by omega) (by omega)
 have hx:=and255
 have w2:∀x:Int,IntKind.wrap .i64 (bits .and .u64 x 255)=bits .and .u64 x 255:=fun x=>wrap_in _ (by have:=(hx x).1;omega) (by have:=(hx x).2;omega)
 have adv:∀s',Adv 1 (l,a,s,()) (l,a+1,s',()):=fun s'=>⟨⟨hb,by simp only;omega⟩,by simp only;omega⟩
 unfold F_q41q
 simp only [w1,w2]
 refine Ok.ite (fun h1 => ?_) (fun h1 => ?_)
 ·have h1:a<l.length:=of_decide_eq_true h1
  refine Ok.pos (by unfold idxIn;simp;omega) ?_
  obtain ⟨v,hv⟩:∃v:Int,at_ (.int .u8) l a.toNat=v:=⟨_,rfl⟩
  have hv':0<=v/\v<=255:=by
   have hlt:a.toNat<l.length:=by omega
   rw [at_get (e:=.int .u8) hlt] at hv
   rw [<- hv]
   exact hb _ (List.getElem_mem hlt)
  rw [hv]
  have w3:IntKind.wrap .i64 v=v:=wrap_in _ (by omega) (by omega)
  simp only [w3]
  refine Ok.ite (fun _=>Ok.some ⟨hv'.1,hv'.2,adv _⟩) (fun _=>Ok.pos rfl (Ok.some ⟨(hx _).1,(hx _).2,adv _⟩))
 ·refine Ok.ite (fun _=>Ok.some ⟨by simp,by simp,adv _⟩) (fun _=>Ok.pos rfl (Ok.some ⟨(hx _).1,(hx _).2,adv _⟩))
theorem tmod_in {x n:Int} (h:0<=x) (hn:0<n):0<=x.tmod n/\x.tmod n<n:=by
 rw [Int.tmod_eq_emod_of_nonneg h]
 exact ⟨Int.emod_nonneg _ (by omega),Int.emod_lt_of_pos _ hn⟩
theorem pick_ok {c:Cur} {n:Int} {u:Unit} (h:CurB c) (hf:c.2.1+2<=far_):Ok (F_q40q 0 (c,n,u)) fun r=>0<=r.1/\(r.1<n\/r.1=0)/\Adv 2 c r.2.1:=by
 unfold F_q40q
 simp only
 refine Ok.ite (fun h1=>Ok.some ⟨Int.le_refl _,.inr rfl,h,by simp only;omega⟩) (fun h1 => ?_)
 have h1:¬n<=1:=of_decide_eq_false h1
 have hn:(n != 0)=true:=by simp;omega
 refine Ok.bind (next_ok h (by omega)) fun r hr => ?_
 obtain ⟨r1,r2,r3⟩:=hr
 refine Ok.ite (fun h2 => ?_) (fun h2 => ?_)
 ·have w1:IntKind.wrap .i64 (r.1*256)=r.1*256:=wrap_in _ (by omega) (by omega)
  refine Ok.bind (next_ok r3.1 (by have:=r3.2;omega)) fun q hq => ?_
  obtain ⟨q1,q2,q3⟩:=hq
  have w2:IntKind.wrap .i64 (r.1*256+q.1)=r.1*256+q.1:=wrap_in _ (by omega) (by omega)
  refine Ok.pos hn (Ok.some ?_)
  rw [w1,w2]
  have:=tmod_in (x:=r.1*256+q.1) (n:=n) (by omega) (by omega)
  exact ⟨this.1,.inl this.2,(r3.trans q3).le (by omega)⟩
 ·refine Ok.pos hn (Ok.some ?_)
  have:=tmod_in (x:=r.1) (n:=n) (by omega) (by omega)
  exact ⟨this.1,.inl this.2,r3.le (by omega)⟩
theorem one_ok {c:Cur} {n:Int} {u:Unit} (h:CurB c) (hf:c.2.1+2<=far_):Ok (F_q50q 0 (c,n,u)) fun r=>Adv 2 c r.2.1:=by
 unfold F_q50q
 simp only
 exact Ok.bind (pick_ok h hf) fun r hr=>Ok.some hr.2.2
theorem among_ok {c:Cur} {l:List Int} {u:Unit} (h:CurB c) (hf:c.2.1+2<=far_) (hl:0<l.length):Ok (F_q36q 0 (c,l,u)) fun r=>r.1∈l/\Adv 2 c r.2.1:=by
 unfold F_q36q
 simp only
 refine Ok.bind (pick_ok h hf) fun r hr => ?_
 obtain ⟨r1,r2,r3⟩:=hr
 have hlt:r.1.toNat<l.length:=by omega
 refine Ok.pos (by unfold idxIn;simp;omega) (Ok.some ⟨?_,r3⟩)
 rw [at_get (e:=I) hlt]
 exact List.getElem_mem hlt
end Go.V.W
namespace Go.V.W
open Go.Proofs
theorem pa_l0 (N:Nat) (n:Nat) (hn:n<=8) (z:Gr) (a:Int):∀k x f (es:List E),x+k=n->k<f->es.length<=x -> ∃es',q74q_l0 N f ((n:Int),z,(a,es,()),(x:Int),())=some (.inl (z,(a,es',()),()))/\es'.length<=100:=by
 intro k
 induction k with
 | zero=>
  intro x f es h1 h2 h3
  obtain ⟨f,rfl⟩:∃m,f=m+1:=⟨f-1,by omega⟩
  refine ⟨es,?_,by omega⟩
  have hlt:decide (((x+1:Nat):Int)<(n:Int))=false:=decide_eq_false (by omega)
  show q74q_l0_r _ _ _=_
  unfold q74q_l0_r
  simp only [small_wrap (show x<=100000 by omega),hlt,Bool.false_eq_true,if_false]
 | succ k ih=>
  intro x f es h1 h2 h3
  obtain ⟨f,rfl⟩:∃m,f=m+1:=⟨f-1,by omega⟩
  by_cases hx:x+1<n
  ·have hlt:decide (((x+1:Nat):Int)<(n:Int))=true:=decide_eq_true (by omega)
   have hle:∀e:E,decide (es.length+List.length [e]<=lim)=true:=fun e=>by unfold lim;simp;omega
   obtain ⟨es',e1,e2⟩:=ih (x+1) f (es++[((x:Int),((x+1:Nat):Int),())]) (by omega) (by omega) (by simp;omega)
   refine ⟨es',?_,e2⟩
   rw [<- e1]
   show q74q_l0_r _ _ _=_
   unfold q74q_l0_r
   simp only [small_wrap (show x<=100000 by omega),hlt,if_true,hle]
  ·refine ⟨es,?_,by omega⟩
   have hlt:decide (((x+1:Nat):Int)<(n:Int))=false:=decide_eq_false (by omega)
   show q74q_l0_r _ _ _=_
   unfold q74q_l0_r
   simp only [small_wrap (show x<=100000 by omega),hlt,Bool.false_eq_true,if_false]
theorem path_ok (n:Nat) (hn:n<=8):Ok (pickF F_q74q P_path ((n:Int),())) (P_path ((n:Int),())):=by
 refine Ok.pick 20 ?_
 obtain ⟨es,e1,e2⟩:=pa_l0 20 n hn (0,[],()) (n:Int) n 0 20 [] (by omega) (by omega) (by simp)
 refine ⟨(((n:Int),es,()),()),?_,e2⟩
 unfold F_q74q
 simp only [Int.natCast_zero] at e1
 simp only [e1,Option.bind_some]
theorem wh_l2 (N:Nat) (n:Nat) (hn:n<=8) (z:Gr) (a:Int) (x:Int):∀k y f (es:List E),y+k=n->k<f->es.length+k<=1000 -> ∃es',q46q_l2 N f ((n:Int),z,(a,es,()),x,(y:Int),())=some (.inl ((n:Int),z,(a,es',()),x,()))/\es'.length=es.length+k:=by
 intro k
 induction k with
 | zero=>
  intro y f es h1 h2 h3
  obtain ⟨f,rfl⟩:∃m,f=m+1:=⟨f-1,by omega⟩
  refine ⟨es,?_,by omega⟩
  have hlt:decide ((y:Int)<(n:Int))=false:=decide_eq_false (by omega)
  show q46q_l2_r _ _ _=_
  unfold q46q_l2_r
  simp only [hlt,Bool.false_eq_true,if_false]
 | succ k ih=>
  intro y f es h1 h2 h3
  obtain ⟨f,rfl⟩:∃m,f=m+1:=⟨f-1,by omega⟩
  have hlt:decide ((y:Int)<(n:Int))=true:=decide_eq_true (by omega)
  have hle:∀e:E,decide (es.length+List.length [e]<=lim)=true:=fun e=>by unfold lim;simp;omega
  obtain ⟨es',e1,e2⟩:=ih (y+1) f (es++[(x,(y:Int),())]) (by omega) (by omega) (by simp;omega)
  refine ⟨es',?_,by rw [e2];simp;omega⟩
  rw [<- e1]
  show q46q_l2_r _ _ _=_
  unfold q46q_l2_r
  simp only [hlt,if_true,hle,small_wrap (show y<=100000 by omega)]
theorem wh_l0 (N:Nat) (hN:20<=N) (n:Nat) (hn:n<=8) (z:Gr) (a:Int):∀k x f (es:List E),x+k=n->k<f->es.length<=8*x -> ∃es',q46q_l0 N f ((n:Int),z,(a,es,()),(x:Int),())=some (.inl (z,(a,es',()),()))/\es'.length<=100:=by
 intro k
 induction k with
 | zero=>
  intro x f es h1 h2 h3
  obtain ⟨f,rfl⟩:∃m,f=m+1:=⟨f-1,by omega⟩
  refine ⟨es,?_,by omega⟩
  have hlt:decide ((x:Int)<(n:Int))=false:=decide_eq_false (by omega)
  show q46q_l0_r _ _ _=_
  unfold q46q_l0_r
  simp only [hlt,Bool.false_eq_true,if_false]
 | succ k ih=>
  intro x f es h1 h2 h3
  obtain ⟨f,rfl⟩:∃m,f=m+1:=⟨f-1,by omega⟩
  have hlt:decide ((x:Int)<(n:Int))=true:=decide_eq_true (by omega)
  obtain ⟨e1,q1,q2⟩:=wh_l2 N n hn z a (x:Int) (n-(x+1)) (x+1) N es (by omega) (by omega) (by omega)
  obtain ⟨es',r1,r2⟩:=ih (x+1) f e1 (by omega) (by omega) (by omega)
  refine ⟨es',?_,r2⟩
  rw [<- r1]
  show q46q_l0_r _ _ _=_
  unfold q46q_l0_r
  simp only [hlt,if_true,small_wrap (show x<=100000 by omega),q1,Option.bind_some]
theorem whole_ok (n:Nat) (hn:n<=8):Ok (pickF F_q46q P_path ((n:Int),())) (P_path ((n:Int),())):=by
 refine Ok.pick 20 ?_
 obtain ⟨es,e1,e2⟩:=wh_l0 20 (by omega) n hn (0,[],()) (n:Int) n 0 20 [] (by omega) (by omega) (by simp)
 refine ⟨(((n:Int),es,()),()),?_,e2⟩
 unfold F_q46q
 simp only [Int.natCast_zero] at e1
 simp only [e1,Option.bind_some]
end Go.V.W
namespace Go.V.W
open Go.Proofs
theorem marred_ok {c:Cur} {n:Int} {es:List E} {v u:Unit} (h:CurB c) (hf:c.2.1+20<=far_) (hl:es.length<=150):Ok (F_q29q 0 (c,(n,es,v),u)) fun r=>r.1.2.1.length<=es.length+1/\Adv 10 c r.2.1:=by
 unfold F_q29q
 simp only
 have hle:∀e:E,decide (es.length+List.length [e]<=lim)=true:=fun e=>by unfold lim;simp;omega
 refine Ok.bind (pick_ok h (by omega)) fun r hr => ?_
 obtain ⟨r1,r2,r3⟩:=hr
 have q3:=r3.2
 refine Ok.ite (fun _ => ?_) fun _=>Ok.ite (fun _ => ?_) fun _=>Ok.ite (fun _ => ?_) fun _ => ?_
 ·refine Ok.bind (among_ok r3.1 (by omega) (by simp)) fun s hs=>Ok.some ⟨by simp,(r3.trans hs.2).le (by omega)⟩
 ·refine Ok.bind (pick_ok r3.1 (by omega)) fun s hs => ?_
  have s3:=hs.2.2.2
  refine Ok.bind (pick_ok hs.2.2.1 (by omega)) fun t ht => ?_
  refine Ok.pos (hle _) (Ok.some ⟨by simp,((r3.trans hs.2.2).trans ht.2.2).le (by omega)⟩)
 ·refine Ok.ite (fun hp => ?_) fun _=>Ok.some ⟨by simp,r3.le (by omega)⟩
  have hp:=of_decide_eq_true hp
  refine Ok.bind (pick_ok r3.1 (by omega)) fun s hs => ?_
  obtain ⟨s1,s2,s3⟩:=hs
  refine Ok.pos (by unfold idxIn;simp;omega) (Ok.pos (hle _) (Ok.some ⟨by simp,(r3.trans s3).le (by omega)⟩))
 ·exact Ok.some ⟨by simp,r3.le (by omega)⟩
end Go.V.W
