/- What the law FnCopNumbers leans on, part 8: an interpreter of the model as plain data, its soundness, the functions as it tells them, and their laws. -/
import Derived.Shelf.Lays
import Derived.Shelf.LaysM
import Derived.Shelf.SortM.Plain
import Derived.Shelf.SortM.SortNone
import Derived.Shelf.SlSortCmp.NoneTotal
import Derived.Test.YtjniohefdfbeoaaGreatVG
set_option linter.unusedVariables false
set_option linter.unusedSimpArgs false
set_option maxRecDepth 100000
namespace Go.V.W
open Go.Proofs
theorem low_bits:∀s:Nat,s<256->s≠0->bits .and .i64 (s:Int) (IntKind.wrap .i64 (0-(s:Int)))=((lowN2 s:Nat):Int)/\lowN2 s&&&s=lowN2 s/\lowN2 s≠0/\lowN2 s<256:=by decide +kernel
def stepN (ms:List Nat) (s p:Nat):Nat:=arN ms p ms.length 0 p&&&s
theorem stepN_bit {n:Nat} {ms:List Nat} (hm:okN n ms) {s p:Nat} (hp:p<256) (y:Nat):(stepN ms s p).testBit y=((p.testBit y||(List.range n).any fun u=>p.testBit u&&(ms.getD u 0).testBit y)&&s.testBit y):=by
 unfold stepN
 rw [Nat.testBit_and,(arN_bit hm p ms.length 0 p hp).2 y,hm.1,List.range_eq_range']
theorem bits_eq {a b:Nat} (ha:a<256) (hb:b<256) (h:∀y,y<8->a.testBit y=b.testBit y):a=b:=by
 apply Nat.eq_of_testBit_eq
 intro y
 by_cases hy:y<8
 ·exact h y hy
 ·rw [Nat.testBit_lt_two_pow (Nat.lt_of_lt_of_le ha (show 2 ^ 8<=2 ^ y from Nat.pow_le_pow_right (by omega) (by omega))),Nat.testBit_lt_two_pow (Nat.lt_of_lt_of_le hb (show 2 ^ 8<=2 ^ y from Nat.pow_le_pow_right (by omega) (by omega)))]
theorem sub_bits {p s:Nat} (h:p&&&s=p) {y:Nat} (hy:p.testBit y=true):s.testBit y=true:=by
 rw [<- h,Nat.testBit_and,Bool.and_eq_true] at hy
 exact hy.2
theorem stepN_facts {n:Nat} {ms:List Nat} (hm:okN n ms) {s p:Nat} (hs:s<256) (hp:p<256) (hsub:p&&&s=p):stepN ms s p<256/\stepN ms s p&&&s=stepN ms s p/\(∀y,p.testBit y=true->(stepN ms s p).testBit y=true)/\(stepN ms s p≠p->onesP 8 p.testBit<onesP 8 (stepN ms s p).testBit):=by
 have h1:stepN ms s p<256:=Nat.lt_of_le_of_lt Nat.and_le_right hs
 have h2:∀y,p.testBit y=true->(stepN ms s p).testBit y=true:=fun y hy=>by
  rw [stepN_bit hm hp,hy,sub_bits hsub hy]
  rfl
 refine ⟨h1,by unfold stepN;rw [Nat.and_assoc,Nat.and_self],h2,fun hne => ?_⟩
 apply Classical.byContradiction
 intro hle
 refine hne (bits_eq h1 hp fun y hy => ?_)
 cases hq:(stepN ms s p).testBit y with
 | true=>exact (ones_same (n:=8) (fun x _ h=>h2 x h) (by omega) ⟨hy,hq⟩).symm
 | false=>
  cases hpy:p.testBit y with
  | false=>rfl
  | true=>
   rw [h2 y hpy] at hq
   cases hq
theorem reachF_succ (ms:List Nat) (s k p:Nat):reachF ms s (k+1) p=if stepN ms s p=p then p else reachF ms s k (stepN ms s p):=rfl
theorem reachF_facts {n:Nat} {ms:List Nat} (hm:okN n ms) {s:Nat} (hs:s<256):∀(k p:Nat),p<256->p&&&s=p->reachF ms s k p<256/\reachF ms s k p&&&s=reachF ms s k p /\ ∀y,p.testBit y=true->(reachF ms s k p).testBit y=true:=by
 intro k
 induction k with
 | zero=>intro p hp hsub;exact ⟨hp,hsub,fun y h=>h⟩
 | succ k ih=>
  intro p hp hsub
  obtain ⟨h1,h2,h3,_⟩:=stepN_facts hm hs hp hsub
  rw [reachF_succ]
  by_cases he:stepN ms s p=p
  ·rw [if_pos he];exact ⟨hp,hsub,fun y h=>h⟩
  ·rw [if_neg he]
   obtain ⟨i1,i2,i3⟩:=ih _ h1 h2
   exact ⟨i1,i2,fun y h=>i3 y (h3 y h)⟩
theorem pr_l2 (N:Nat) {l:List Int} (hn:netB l=true) (u:Unit) {s:Nat} (hs:s<256) (acc:List Int):∀(k f p:Nat),p<256->p&&&s=p->8<onesP 8 p.testBit+k->k<f ->
  q42q_l2 N f ((s:Int),(l,u),acc,(p:Int),())=some (.inl ((s:Int),(l,u),acc,((reachF (fromI l) s k p:Nat):Int),())):=by
 obtain ⟨e,hk,h8,hb⟩:=netB_parts hn
 intro k
 induction k with
 | zero=>
  intro f p hp _ h
  have:=ones_le (n:=8) (m:=p)
  omega
 | succ k ih=>
  intro f p hp hsub h hf
  obtain ⟨f,rfl⟩:∃m,f=m+1:=⟨f-1,by omega⟩
  obtain ⟨h1,h2,h3,h4⟩:=stepN_facts hk hs hp hsub
  have hl:(fromI l).length=l.length:=hk.1
  have har:arN (fromI l) p l.length 0 p<256:=(arN_bit hk p l.length 0 p hp).1
  have hand:bits .and .i64 ((arN (fromI l) p l.length 0 p:Nat):Int) (s:Int)=((stepN (fromI l) s p:Nat):Int):=by
   rw [bits_and har hs]
   unfold stepN
   rw [hl]
  rw [reachF_succ]
  show q42q_l2_r _ _ _=_
  unfold q42q_l2_r
  simp only [around_some hn u () hp,Option.bind_some,hand]
  by_cases he:stepN (fromI l) s p=p
  ·have e1:(((stepN (fromI l) s p:Nat):Int)==(p:Int))=true:=by simp [he]
   rw [if_pos e1,if_pos he]
  ·have e1:¬(((stepN (fromI l) s p:Nat):Int)==(p:Int))=true:=by simp;omega
   rw [if_neg e1,if_neg he]
   have:=h4 he
   exact ih f _ h1 h2 (by omega) (by omega)
theorem pr_l0 (N:Nat) (hN:30<=N) {l:List Int} (hn:netB l=true) (u:Unit):∀(k f s:Nat) (acc:List Int),s<256->onesP 8 s.testBit<k->k<f->acc.length+k<=100 ->
  q42q_l0 N f ((s:Int),(l,u),acc,())=some (.inl (acc++toI (partsF (fromI l) k s),())):=by
 obtain ⟨e,hk,h8,hb⟩:=netB_parts hn
 intro k
 induction k with
 | zero=>intro f s acc _ h;omega
 | succ k ih=>
  intro f s acc hs ho hf hacc
  obtain ⟨f,rfl⟩:∃m,f=m+1:=⟨f-1,by omega⟩
  show q42q_l0_r _ _ _=_
  unfold q42q_l0_r
  by_cases h0:s=0
  ·subst h0
   have e0:((((0:Nat):Int)) != 0)=false:=rfl
   simp only [e0,Bool.false_eq_true,if_false]
   simp [partsF,toI]
  ·obtain ⟨b1,b2,b3,b4⟩:=low_bits s hs h0
   have e0:(((s:Int)) != 0)=true:=by simp;omega
   have hones:1<=onesP 8 (lowN2 s).testBit:=by
    apply Classical.byContradiction
    intro hno
    refine b3 (bits_eq b4 (by omega) fun y hy => ?_)
    rw [Nat.zero_testBit]
    cases hq:(lowN2 s).testBit y with
    | false=>rfl
    | true=>
     have:0<onesP 8 (lowN2 s).testBit:=ones_pos.2 ⟨y,hy,hq⟩
     omega
   have h2:=pr_l2 N hn u hs acc 9 N (lowN2 s) b4 b2 (by omega) (by omega)
   obtain ⟨r1,r2,r3⟩:=reachF_facts hk hs 9 (lowN2 s) b4 b2
   have hp:partsF (fromI l) (k+1) s=reachF (fromI l) s 9 (lowN2 s)::partsF (fromI l) k (andN s (reachF (fromI l) s 9 (lowN2 s))):=by
    show (if s=0 then _ else _)=_
    rw [if_neg h0]
   rw [hp]
   generalize reachF (fromI l) s 9 (lowN2 s)=r at h2 r1 r2 r3
   have hand:bits .andNot .i64 (s:Int) (r:Int)=((andN s r:Nat):Int):=bits_andNot hs r1
   have hal:andN s r<256:=andN_lt hs
   have hlt:onesP 8 (andN s r).testBit<onesP 8 s.testBit:=by
    obtain ⟨y,hy⟩:=ones_pos.1 (show 0<onesP 8 (lowN2 s).testBit by omega)
    have hsy:=sub_bits b2 hy.2
    have e1:=ones_out (n:=8) (p:=s.testBit) (x:=y) ⟨hy.1,hsy⟩
    have e2:onesP 8 (andN s r).testBit<=onesP 8 (outP s.testBit y):=ones_mono fun z _ hz=>by
     rw [andN_bit s r z hs,Bool.and_eq_true] at hz
     unfold outP
     rw [hz.1,Bool.true_and,Bool.not_eq_true',decide_eq_false_iff_not]
     intro e
     subst e
     rw [r3 z hy.2] at hz
     cases hz.2
    omega
   have hl:decide (acc.length+List.length [((r:Nat):Int)]<=lim)=true:=decide_eq_true (by unfold lim;simp;omega)
   simp only [e0,if_true,b1,h2,Option.bind_some,hl,hand]
   have:=ih f (andN s r) (acc++[((r:Nat):Int)]) hal (by omega) (by omega) (by simp;omega)
   rw [this]
   simp [toI]
theorem netParts_lim (d) (r) (h:G_parts d=some r):∃N,F_q42q N d=some r:=by
 obtain ⟨⟨l,u⟩,s,v⟩:=d
 unfold G_parts at h
 split at h
 ·rename_i hc
  simp only [Bool.and_eq_true,decide_eq_true_eq] at hc
  obtain ⟨⟨hn,h0⟩,hlt⟩:=hc
  cases h
  obtain ⟨m,rfl⟩:=nat_of h0
  obtain ⟨e,hk,h8,hb⟩:=netB_parts hn
  have h256:=pow8 h8
  refine ⟨30,?_⟩
  have ho:=ones_le (n:=8) (m:=m)
  have key:=pr_l0 30 (by omega) hn u 9 30 m [] (by omega) (by omega) (by omega) (by simp)
  unfold F_q42q
  simp only [key,Option.bind_some,Int.toNat_natCast,List.nil_append]
 ·cases h
theorem reach_in {n:Nat} {es:List E} (hn:n<=8) (h:es.all (edgeB (n:Int))=true) {s:Nat} (hs:s<256) {A:Nat->Prop} (hcl:∀x,x<n->A x -> ∀z,z<n->BN es x z->A z):∀(k p:Nat),p<256->p&&&s=p->(∀y,p.testBit y=true->y<n/\A y) -> ∀y,(reachF (netN n es) s k p).testBit y=true->y<n/\A y:=by
 have hm:=netN_ok hn h
 intro k
 induction k with
 | zero=>intro p _ _ hp;exact hp
 | succ k ih=>
  intro p hp hsub hA
  obtain ⟨h1,h2,_,_⟩:=stepN_facts hm hs hp hsub
  rw [reachF_succ]
  by_cases he:stepN (netN n es) s p=p
  ·rw [if_pos he];exact hA
  ·rw [if_neg he]
   refine ih _ h1 h2 fun y hy => ?_
   rw [stepN_bit hm hp,Bool.and_eq_true,Bool.or_eq_true] at hy
   rcases hy.1 with hy | hy
   ·exact hA y hy
   ·obtain ⟨z,hz,hzy⟩:=List.any_eq_true.1 hy
    rw [Bool.and_eq_true] at hzy
    have hb:=netN_bit hn h z y
    unfold hasN at hb
    rw [hzy.2,isE_near es h] at hb
    have hyn:y<n:=near_lt h hb.symm
    have hz':=hA z hzy.1
    exact ⟨hyn,hcl z hz'.1 hz'.2 y hyn (by unfold BN ballP;rw [<- hb];rfl)⟩
theorem low_full:∀n:Nat,n<9->0<n->lowN2 (2 ^ n-1)=1:=by decide +kernel
theorem one_sub:∀n:Nat,n<9->0<n->1&&&(2 ^ n-1)=1:=by decide +kernel
theorem parts_con {n:Nat} (hn:n<=8) (h0:0<n) {es:List E} (h:es.all (edgeB (n:Int))=true) (hl:(partsF (netN n es) 9 (2 ^ n-1)).length<=1):ConS (BN es) (fun x=>x<n):=by
 have h256:=pow8 hn
 have hp:=Nat.two_pow_pos n
 have hp2:2 ^ 1<=2 ^ n:=Nat.pow_le_pow_right (by omega) h0
 have hm:=netN_ok hn h
 have hne:2 ^ n-1≠0:=by omega
 have hs:2 ^ n-1<256:=by omega
 have hpf:partsF (netN n es) 9 (2 ^ n-1)=reachF (netN n es) (2 ^ n-1) 9 1::partsF (netN n es) 8 (andN (2 ^ n-1) (reachF (netN n es) (2 ^ n-1) 9 1)):=by
  show (if 2 ^ n-1=0 then _ else _)=_
  rw [if_neg hne,low_full n (by omega) h0]
 rw [hpf,List.length_cons] at hl
 have hz:andN (2 ^ n-1) (reachF (netN n es) (2 ^ n-1) 9 1)=0:=by
  apply Classical.byContradiction
  intro hnz
  have:partsF (netN n es) 8 (andN (2 ^ n-1) (reachF (netN n es) (2 ^ n-1) 9 1))≠[]:=by
   show (if andN (2 ^ n-1) (reachF (netN n es) (2 ^ n-1) 9 1)=0 then _ else _)≠_
   rw [if_neg hnz]
   simp
  have h1:(partsF (netN n es) 8 (andN (2 ^ n-1) (reachF (netN n es) (2 ^ n-1) 9 1))).length=0:=by omega
  exact this (List.length_eq_zero_iff.1 h1)
 have hall:∀y,y<n->(reachF (netN n es) (2 ^ n-1) 9 1).testBit y=true:=fun y hy=>by
  have h1:=andN_bit (2 ^ n-1) (reachF (netN n es) (2 ^ n-1) 9 1) y hs
  rw [hz,Nat.zero_testBit,Nat.testBit_two_pow_sub_one,decide_eq_true hy,Bool.true_and] at h1
  simpa using h1.symm
 have key:∀A:Nat->Prop,A 0->(∀x,x<n->A x -> ∀z,z<n->BN es x z->A z) -> ∀z,z<n->A z:=fun A hA hcl z hz=>
  (reach_in hn h hs hcl 9 1 (by omega) (one_sub n (by omega) h0) (fun y hy=>by
   have:y=0:=by
    rw [show (1:Nat)=2 ^ 0 from rfl,Nat.testBit_two_pow] at hy
    exact (of_decide_eq_true hy).symm
   subst this
   exact ⟨h0,hA⟩) z (hall z hz)).2
 rintro A ⟨a,ha,hA⟩ hcl z hz
 by_cases h00:A 0
 ·exact key A h00 hcl z hz
 ·exfalso
  exact key (fun x => ¬A x) h00 (fun x hx hAx w hw hB hAw=>hAx (hcl w hw hAw x hx (BN_symm es _ _ hB))) a ha hA
theorem implICon {m:Nat} {es:List E} {v:Unit} (hg:graphB ((m:Int),es,v)=true) (ho:okL es=true) (u:Unit):F_q28q 0 (((m:Int),es,v),u)=some (decide (((partsF (netN m es) 9 (2 ^ m-1)).length:Int)<=1),true,()):=by
 obtain ⟨n0,n8⟩:=graphB_n hg
 have m8:m<=8:=by omega
 have h256:=pow8 m8
 have hp:=Nat.two_pow_pos m
 obtain ⟨g1,_⟩:=graphB_edges hg
 obtain ⟨b1,b2⟩:=netB_net m8 g1
 have w1:IntKind.wrap .i64 (((2 ^ m:Nat):Int)-1)=((2 ^ m-1:Nat):Int):=by rw [wrap_in _ (by omega) (by omega)];omega
 have gp:G_parts ((toI (netN m es),()),((2 ^ m-1:Nat):Int),())=some (toI (partsF (netN m es) 9 (2 ^ m-1)),()):=by
  unfold G_parts
  simp only [b1,b2,nonneg_dec,decide_eq_true (show (((2 ^ m-1:Nat):Int))<((2 ^ m:Nat):Int) by omega),Bool.and_self,if_true,fromI_net,Int.toNat_natCast]
 unfold F_q28q G_graph
 simp only [ho,if_true,Option.bind_some,hg,Bool.not_true,Bool.false_eq_true,if_false,net_some hg ho,nonneg_dec,shl_n m (by omega),w1,gp,toI_len]
theorem win_two {n:Nat} (hn:n<=8) (h0:0<n) {es:List E} {v:Unit} (hcon:ConS (BN es) (fun x=>x<n)):winB (tmG ((n:Int),es,v) 2)=true:=by
 obtain ⟨u,hu,hall⟩:=two_cops hn h0 hcon
 obtain ⟨i,i1,i2,_⟩:=place_at (two_conf hu hu)
 refine (win_iff (tm_rc ((n:Int),es,v) 2)).2 ⟨i,i1,fun x hx => ?_⟩
 have:=hall x (by simpa using hx)
 unfold Tm2 at this
 rw [i2] at this
 exact this
theorem win_low {n:Nat} (hn:n<=8) (h0:0<n) {es:List E} {v:Unit} (hcon:ConS (BN es) (fun x=>x<n)) (hw:pwI n es<=1):winB (tmG ((n:Int),es,v) 1)=true:=by
 have hp:=Nat.two_pow_pos n
 have ho:onesP n (2 ^ n-1).testBit=n:=by
  have h1:=ones_congr (n:=n) (p:=(2 ^ n-1).testBit) (q:=fun _=>true) fun x hx=>by
   rw [Nat.testBit_two_pow_sub_one,decide_eq_true hx]
  rw [h1,ones_all]
 have hch:=(wOr_iff hn (sz:=szP n es) (v:=1) (by omega) 8 (2 ^ n-1) (by omega) (by omega)).1 hw
 have hS:∀x,x<n↔SP n (2 ^ n-1).testBit x:=fun x=>⟨fun h=>⟨h,by rw [Nat.testBit_two_pow_sub_one,decide_eq_true h]⟩,fun h=>h.1⟩
 have hwin:=chain_win hn n (2 ^ n-1) (by omega) ho h0 hch (hcon.congr hS)
 obtain ⟨c,hc,hr⟩:=(cop_wins hn es).2 (hwin.congr fun x=>(hS x).symm)
 refine (win_iff (tm_rc ((n:Int),es,v) 1)).2 ⟨c,?_,fun x hx => ?_⟩
 ·show c<(confL ((n:Int)).toNat 1).length
  rw [conf_one_len]
  simpa using hc
 ·rw [tm_one hn]
  exact hr x (by simpa using hx)
noncomputable def cnTail (g:Gr) (r:Int×Bool×Unit):Option (Bool×Unit):=
 if (!r.2.1)=true then
  ((F_q52q 0) ((g,((3:Int),())))).bind fun r25=>
  if (r25.2.1)=true then
   some (!r25.1,())
  else
   some (false,())
 else
  ((F_q52q 0) ((g,(r.1,())))).bind fun r26=>
  ((F_q50q 0) ((g,(r.1,())))).bind fun r27=>
  (G_specBest ((g,(r.1,())))).bind fun r28=>
  if (!r26.2.1)=true then
   some (false,())
  else
   if (!r26.1)=true then
    some (false,())
   else
    if (!r27.2.2.1)=true then
     some (false,())
    else
     if (!r28.2.2.1)=true then
      some (false,())
     else
      if (r27.2.1 != r28.2.1)=true then
       some (false,())
      else
       (G_rInts ((r27.1,(r28.1,())))).bind fun r29=>
       if (!r29.1)=true then
        some (false,())
       else
        if (decide (r.1>(1:Int)))=true then
         let x30:Int:=IntKind.wrap .i64 (r.1-(1:Int))
         ((F_q52q 0) ((g,(x30,())))).bind fun r31=>
         if (!r31.2.1)=true then
          some (false,())
         else
          if (r31.1)=true then
           some (false,())
          else
           some (true,())
        else
         some (true,())
theorem cnTail_ok {n:Int} {es:List E} {v:Unit} (ho:okL es=true) (hf:fieldB (n,es,v) 1=true):cnTail (n,es,v) (cnB (n,es,v))=some (true,()):=by
 have cc:=fun q:Nat=>fun (h1:1<=q) (h3:q<=3)=>(show F_q52q 0 ((n,es,v),(q:Int),())=some (winB (tmG (n,es,v) q),true,()) by
  rw [implCC ho]
  unfold canO
  rw [if_pos (field_k hf h1 h3),Int.toNat_natCast])
 have hb:=fun q:Nat=>fun (h1:1<=q) (h3:q<=3)=>(show (bestCB (n,es,v) (q:Int)).2.2.1=winB (tmG (n,es,v) q) by
  unfold bestCB
  rw [if_pos (field_k hf h1 h3),Int.toNat_natCast]
  exact best_win _ _)
 have gb:=fun k:Int=>(show G_specBest ((n,es,v),k,())=some (bestCB (n,es,v) k) by unfold G_specBest;simp only [ho,if_true])
 have hri:=fun k:Int=>(show G_rInts ((bestCB (n,es,v) k).1,(bestCB (n,es,v) k).1,())=some (true,()) by
  unfold G_rInts
  have hl:okL (bestCB (n,es,v) k).1=true:=okL_of (Nat.le_trans best_small (by omega))
  simp only [hl,decide_true,if_true])
 have c1:=cc 1 (by omega) (by omega)
 have c2:=cc 2 (by omega) (by omega)
 have c3:=cc 3 (by omega) (by omega)
 have b1:=hb 1 (by omega) (by omega)
 have b2:=hb 2 (by omega) (by omega)
 have b3:=hb 3 (by omega) (by omega)
 have z1:((1:Nat):Int)=1:=rfl
 have z2:((2:Nat):Int)=2:=rfl
 have z3:((3:Nat):Int)=3:=rfl
 rw [z1] at c1 b1
 rw [z2] at c2 b2
 rw [z3] at c3 b3
 have w1:IntKind.wrap .i64 ((2:Int)-1)=1:=rfl
 have w2:IntKind.wrap .i64 ((3:Int)-1)=2:=rfl
 have d1:decide ((1:Int)>1)=false:=rfl
 have d2:decide ((2:Int)>1)=true:=rfl
 have d3:decide ((3:Int)>1)=true:=rfl
 unfold cnTail cnB
 rw [if_pos hf]
 cases h1:winB (tmG (n,es,v) 1) with
 | true=>simp only [if_true,Bool.not_true,Bool.false_eq_true,if_false,c1,h1,implBC ho,gb,Option.bind_some,b1,bne_self_eq_false,hri,d1]
 | false=>
  cases h2:winB (tmG (n,es,v) 2) with
  | true=>simp only [if_true,Bool.not_true,Bool.false_eq_true,if_false,c1,c2,h1,h2,implBC ho,gb,Option.bind_some,b2,bne_self_eq_false,hri,d2,w1]
  | false=>
   cases h3:winB (tmG (n,es,v) 3) with
   | true=>simp only [if_true,Bool.not_true,Bool.false_eq_true,if_false,c2,c3,h2,h3,implBC ho,gb,Option.bind_some,b3,bne_self_eq_false,hri,d3,w2]
   | false=>simp only [if_true,Bool.not_false,Bool.false_eq_true,if_false,c3,h3,Option.bind_some]
theorem lawCN_of {code:List Int} {u0:Unit} (hbig:(g_laws_rBig (code,())).1=false) {n:Int} {es:List E} {v w0:Unit} (d0:F_q20q 0 (code,())=some ((n,es,v),w0)) (ho:okL es=true):F_laws_FnCopNumbers 0 (code,u0)=some (true,()):=by
 have gc:G_copNum ((n,es,v),())=some (cnB (n,es,v)):=by unfold G_copNum;simp only [ho,if_true]
 have gg:G_graph ((n,es,v),())=some (graphB (n,es,v),()):=by unfold G_graph;simp only [ho,if_true]
 unfold F_laws_FnCopNumbers
 simp only [hbig,Bool.false_eq_true,if_false,d0,gc,gg,Option.bind_some,bne_self_eq_false,beq_self_eq_true,Bool.not_true]
 cases hg:graphB (n,es,v) with
 | false=>
  have e1:cnB (n,es,v)=(0,false,()):=by
   unfold cnB fieldB
   rw [hg]
   rfl
  simp only [Bool.not_false,if_true,e1]
 | true=>
  obtain ⟨n0,n8⟩:=graphB_n hg
  obtain ⟨m,rfl⟩:=nat_of n0
  have m8:m<=8:=by omega
  obtain ⟨g1,_⟩:=graphB_edges hg
  simp only [Bool.not_true,Bool.false_eq_true,if_false]
  by_cases hm:m=0
  ·subst hm
   have e1:cnB (((0:Nat):Int),es,v)=(0,false,()):=by
    unfold cnB fieldB
    rw [hg]
    rfl
   have e2:((((0:Nat):Int))==0)=true:=rfl
   simp only [e2,if_true,e1,Bool.not_false]
  ·have e2:(((m:Int))==0)=false:=by simp;omega
   have hf:fieldB ((m:Int),es,v) 1=true:=by
    unfold fieldB
    have:decide ((m:Int)>0)=true:=decide_eq_true (by omega)
    simp only [hg,this,Bool.and_self,Bool.true_and]
    rfl
   have tail:=cnTail_ok ho hf
   simp only [e2,Bool.false_eq_true,if_false,implPW hg ho,specPW hg ho,Option.bind_some,bne_self_eq_false,Bool.not_true,implICon hg ho]
   by_cases hc:((partsF (netN m es) 9 (2 ^ m-1)).length:Int)<=1
   ·have hcon:=parts_con m8 (by omega) g1 (by omega)
    have hW2:=win_two (v:=v) m8 (by omega) hcon
    have hpos:0<=pwI m es:=wOr_pos (szP_pos m es) _ _
    by_cases h6:pwI m es<6
    ·have hok:(cnB ((m:Int),es,v)).2.1=true:=by
      unfold cnB
      rw [if_pos hf]
      by_cases h1:winB (tmG ((m:Int),es,v) 1)=true
      ·rw [if_pos h1]
      ·rw [if_neg h1,if_pos hW2]
     have hk:(cnB ((m:Int),es,v)).1=1\/((cnB ((m:Int),es,v)).1=2/\2<=pwI m es):=by
      unfold cnB
      rw [if_pos hf]
      by_cases h1:winB (tmG ((m:Int),es,v) 1)=true
      ·rw [if_pos h1];exact .inl rfl
      ·rw [if_neg h1,if_pos hW2]
       exact .inr ⟨rfl,Classical.byContradiction fun h=>h1 (win_low m8 (by omega) hcon (by omega))⟩
     have hbound:decide ((cnB ((m:Int),es,v)).1>IntKind.wrap .i64 (IntKind.wrap .i64 ((pwI m es).tdiv 2)+1))=false:=by
      generalize pwI m es=w at hpos h6 hk
      generalize (cnB ((m:Int),es,v)).1=k at hk
      have hw:w=0\/w=1\/w=2\/w=3\/w=4\/w=5:=by omega
      rcases hw with rfl | rfl | rfl | rfl | rfl | rfl<;>rcases hk with rfl | ⟨rfl,h⟩<;>first | rfl | (exfalso;omega)
     have h2:((2:Int) != 0)=true:=rfl
     simp only [decide_eq_true hc,decide_eq_true h6,if_true,hok,Bool.not_true,Bool.false_eq_true,if_false,h2,hbound]
     unfold cnTail at tail
     simp only [hok,Bool.not_true,Bool.false_eq_true,if_false] at tail
     exact tail
    ·simp only [decide_eq_true hc,decide_eq_false h6,if_true,Bool.false_eq_true,if_false]
     exact tail
   ·simp only [decide_eq_false hc,Bool.false_eq_true,if_false]
    exact tail
theorem drawCN_ok {code:List Int} {u:Unit} (hb:∀x∈code,0<=x/\x<=255):Ok (F_q20q 0 (code,u)) fun r=>okL r.1.2.1=true:=by
 have hc:CurB (code,(0:Int),(0:Int),()):=⟨hb,Int.le_refl _⟩
 unfold F_q20q
 simp only
 refine Ok.bind (someGraph_ok hc (by unfold far_;simp) (by omega) (by omega)) fun r hr => ?_
 have b1:r.2.1.2.1<=0+300:=hr.1.2
 refine Ok.bind (one_ok hr.1.1 (by unfold far_;omega)) fun s hs => ?_
 have b2:=hs.2
 refine Ok.ite (fun _ => ?_) fun _ => ?_
 ·refine Ok.bind (someGraph_ok hs.1 (by unfold far_;omega) (by omega) (by omega)) fun q hq => ?_
  have b3:=hq.1.2
  simp only at b3
  refine Ok.bind (one_ok hq.1.1 (by unfold far_;omega)) fun t ht => ?_
  have b4:=ht.2
  refine Ok.ite (fun _ => ?_) fun _=>Ok.some (okL_of (Nat.le_trans hq.2 (by omega)))
  exact Ok.bind (pick_ok ht.1 (by unfold far_;omega)) fun x hx=>Ok.some (okL_of (by simp))
 ·refine Ok.bind (one_ok hs.1 (by unfold far_;omega)) fun t ht => ?_
  have b4:=ht.2
  refine Ok.ite (fun _ => ?_) fun _=>Ok.some (okL_of (Nat.le_trans hr.2 (by omega)))
  exact Ok.bind (pick_ok ht.1 (by unfold far_;omega)) fun x hx=>Ok.some (okL_of (by simp))
theorem lawCN_lim (d:List Int×Unit) (r:Bool×Unit) (h:G_law d=some r):∃N,F_laws_FnCopNumbers N d=some r:=by
 obtain ⟨code,u⟩:=d
 unfold G_law at h
 split at h
 ·rename_i hh
  cases Option.some.inj h
  simp only [Bool.and_eq_true,List.all_eq_true] at hh
  have hb:∀x∈code,0<=x/\x<=255:=fun x hx=>by
   have:=hh.1 x hx
   unfold inB at this
   simpa using this
  cases hbig:(g_laws_rBig (code,())).1 with
  | true=>
   refine ⟨0,?_⟩
   unfold F_laws_FnCopNumbers
   simp only [hbig,if_true]
  | false=>
   obtain ⟨⟨⟨n,es,v⟩,w0⟩,d0,o0⟩:=drawCN_ok (u:=()) hb
   exact ⟨0,lawCN_of hbig d0 o0⟩
 ·cases h
end Go.V.W
namespace Go.V.W
open Go.Proofs
structure LogIs (d p:List UInt8) (c:Int):Prop where
 size:d.length+p.length<=30000
 all:(openL 60 0 (d++p)).2=(d++p).length
 durable:(openL 60 0 d).2=d.length
 count:((openL 60 0 (d++p)).1.length:Int)=c
end Go.V.W
namespace Go.V.W
open Go.Proofs Go.Shelf Go.RowKit
-- import Derived.Shelf.Lays
-- import Derived.Shelf.LaysM
-- import Derived.Test.XvLib3
-- import Derived.Shelf.SortM.Plain
-- import Derived.Shelf.SortM.SortNone
-- import Derived.Shelf.SlSortCmp.NoneTotal
def layg5_ren:Go.Shelf.Ren:=
{
  f:=fun x=>
    match x with
    | 5=>176
    | 8=>192
    | 7=>191
    | 19=>204
    | 20=>205
    | 10=>196
    | 11=>197
    | 12=>198
    | 13=>199
    | 14=>200
    | 15=>201
    | 16=>190
    | 17=>202
    | 18=>203
    | 30=>215
    | 31=>216
    | 32=>217
    | 33=>218
    | 34=>219
    | 35=>166
    | 40=>223
    | n=>n,
  t:=fun x=>
    match x with
    | 23=>45
    | 25=>3
    | 3=>3
    | 32=>142
    | 22=>45
    | 0=>0
    | 44=>158
    | 46=>70
    | 4=>4
    | 36=>169
    | 35=>168
    | 41=>39
    | 5=>5
    | 9=>9
    | 53=>178
    | 57=>182
    | 63=>186
    | 64=>187
    | n=>n,
  g:=fun x=>
    x }
set_option maxRecDepth 1000000 in
theorem layg5:Go.Proofs.SlLaysM.n5 Go.Proofs.Tryz.prog layg5_ren:=
{ mixed:=by kernel_rfl,
  f5:=⟨Go.Proofs.Tryz.f176.name,of_decide_eq_true (by kernel_rfl),(Go.Proofs.Tryz.func176).trans (congrArg some (by kernel_rfl))⟩,
  f7:=⟨Go.Proofs.Tryz.f191.name,of_decide_eq_true (by kernel_rfl),(Go.Proofs.Tryz.func191).trans (congrArg some (by kernel_rfl))⟩,
  f8:=(Go.Proofs.Tryz.func192).trans (congrArg some (by kernel_rfl)),
  f10:=⟨Go.Proofs.Tryz.f196.name,of_decide_eq_true (by kernel_rfl),(Go.Proofs.Tryz.func196).trans (congrArg some (by kernel_rfl))⟩,
  f11:=⟨Go.Proofs.Tryz.f197.name,of_decide_eq_true (by kernel_rfl),(Go.Proofs.Tryz.func197).trans (congrArg some (by kernel_rfl))⟩,
  f12:=⟨Go.Proofs.Tryz.f198.name,of_decide_eq_true (by kernel_rfl),(Go.Proofs.Tryz.func198).trans (congrArg some (by kernel_rfl))⟩,
  f13:=⟨Go.Proofs.Tryz.f199.name,of_decide_eq_true (by kernel_rfl),(Go.Proofs.Tryz.func199).trans (congrArg some (by kernel_rfl))⟩,
  f14:=⟨Go.Proofs.Tryz.f200.name,of_decide_eq_true (by kernel_rfl),(Go.Proofs.Tryz.func200).trans (congrArg some (by kernel_rfl))⟩,
  f15:=⟨Go.Proofs.Tryz.f201.name,of_decide_eq_true (by kernel_rfl),(Go.Proofs.Tryz.func201).trans (congrArg some (by kernel_rfl))⟩,
  f16:=⟨Go.Proofs.Tryz.f190.name,of_decide_eq_true (by kernel_rfl),(Go.Proofs.Tryz.func190).trans (congrArg some (by kernel_rfl))⟩,
  f17:=⟨Go.Proofs.Tryz.f202.name,of_decide_eq_true (by kernel_rfl),(Go.Proofs.Tryz.func202).trans (congrArg some (by kernel_rfl))⟩,
  f18:=⟨Go.Proofs.Tryz.f203.name,of_decide_eq_true (by kernel_rfl),(Go.Proofs.Tryz.func203).trans (congrArg some (by kernel_rfl))⟩,
  f19:=(Go.Proofs.Tryz.func204).trans (congrArg some (by kernel_rfl)),
  f20:=(Go.Proofs.Tryz.func205).trans (congrArg some (by kernel_rfl)),
  f30:=⟨Go.Proofs.Tryz.f215.name,of_decide_eq_true (by kernel_rfl),(Go.Proofs.Tryz.func215).trans (congrArg some (by kernel_rfl))⟩,
  f31:=(Go.Proofs.Tryz.func216).trans (congrArg some (by kernel_rfl)),
  f32:=(Go.Proofs.Tryz.func217).trans (congrArg some (by kernel_rfl)),
  f33:=⟨Go.Proofs.Tryz.f218.name,of_decide_eq_true (by kernel_rfl),(Go.Proofs.Tryz.func218).trans (congrArg some (by kernel_rfl))⟩,
  f34:=⟨Go.Proofs.Tryz.f219.name,of_decide_eq_true (by kernel_rfl),(Go.Proofs.Tryz.func219).trans (congrArg some (by kernel_rfl))⟩,
  f35:=⟨Go.Proofs.Tryz.f166.name,of_decide_eq_true (by kernel_rfl),(Go.Proofs.Tryz.func166).trans (congrArg some (by kernel_rfl))⟩,
  f40:=⟨Go.Proofs.Tryz.f223.name,of_decide_eq_true (by kernel_rfl),(Go.Proofs.Tryz.func223).trans (congrArg some (by kernel_rfl))⟩,
  t0:=Go.Proofs.Tryz.underlying0,
  a0:=Go.Proofs.Tryz.isAgg0,
  z0:=Go.Proofs.Tryz.sizeOf0,
  v0:=Go.Proofs.Tryz.zeroValue0,
  t3:=Go.Proofs.Tryz.underlying3,
  a3:=Go.Proofs.Tryz.isAgg3,
  z3:=Go.Proofs.Tryz.sizeOf3,
  v3:=Go.Proofs.Tryz.zeroValue3,
  t4:=Go.Proofs.Tryz.underlying4,
  a4:=Go.Proofs.Tryz.isAgg4,
  z4:=Go.Proofs.Tryz.sizeOf4,
  v4:=Go.Proofs.Tryz.zeroValue4,
  t5:=Go.Proofs.Tryz.underlying5,
  a5:=Go.Proofs.Tryz.isAgg5,
  z5:=Go.Proofs.Tryz.sizeOf5,
  v5:=Go.Proofs.Tryz.zeroValue5,
  t9:=Go.Proofs.Tryz.underlying9,
  a9:=Go.Proofs.Tryz.isAgg9,
  z9:=Go.Proofs.Tryz.sizeOf9,
  v9:=Go.Proofs.Tryz.zeroValue9,
  t22:=Go.Proofs.Tryz.underlying45,
  a22:=Go.Proofs.Tryz.isAgg45,
  z22:=Go.Proofs.Tryz.sizeOf45,
  v22:=Go.Proofs.Tryz.zeroValue45,
  t23:=Go.Proofs.Tryz.underlying45,
  a23:=Go.Proofs.Tryz.isAgg45,
  z23:=Go.Proofs.Tryz.sizeOf45,
  v23:=Go.Proofs.Tryz.zeroValue45,
  t25:=Go.Proofs.Tryz.underlying3,
  a25:=Go.Proofs.Tryz.isAgg3,
  z25:=Go.Proofs.Tryz.sizeOf3,
  v25:=Go.Proofs.Tryz.zeroValue3,
  t32:=Go.Proofs.Tryz.underlying142,
  a32:=Go.Proofs.Tryz.isAgg142,
  z32:=Go.Proofs.Tryz.sizeOf142,
  v32:=Go.Proofs.Tryz.zeroValue142,
  t35:=Go.Proofs.Tryz.underlying168,
  a35:=Go.Proofs.Tryz.isAgg168,
  z35:=Go.Proofs.Tryz.sizeOf168,
  v35:=Go.Proofs.Tryz.zeroValue168,
  t36:=Go.Proofs.Tryz.underlying169,
  a36:=Go.Proofs.Tryz.isAgg169,
  z36:=Go.Proofs.Tryz.sizeOf169,
  v36:=Go.Proofs.Tryz.zeroValue169,
  t41:=Go.Proofs.Tryz.underlying39,
  a41:=Go.Proofs.Tryz.isAgg39,
  z41:=Go.Proofs.Tryz.sizeOf39,
  v41:=Go.Proofs.Tryz.zeroValue39,
  t44:=Go.Proofs.Tryz.underlying158,
  a44:=Go.Proofs.Tryz.isAgg158,
  z44:=Go.Proofs.Tryz.sizeOf158,
  v44:=Go.Proofs.Tryz.zeroValue158,
  t46:=Go.Proofs.Tryz.underlying70,
  a46:=Go.Proofs.Tryz.isAgg70,
  z46:=Go.Proofs.Tryz.sizeOf70,
  v46:=Go.Proofs.Tryz.zeroValue70,
  t53:=Go.Proofs.Tryz.underlying178,
  a53:=Go.Proofs.Tryz.isAgg178,
  z53:=Go.Proofs.Tryz.sizeOf178,
  v53:=Go.Proofs.Tryz.zeroValue178,
  t57:=Go.Proofs.Tryz.underlying182,
  a57:=Go.Proofs.Tryz.isAgg182,
  z57:=Go.Proofs.Tryz.sizeOf182,
  v57:=Go.Proofs.Tryz.zeroValue182,
  t63:=Go.Proofs.Tryz.underlying186,
  a63:=Go.Proofs.Tryz.isAgg186,
  z63:=Go.Proofs.Tryz.sizeOf186,
  v63:=Go.Proofs.Tryz.zeroValue186,
  t64:=Go.Proofs.Tryz.underlying187,
  a64:=Go.Proofs.Tryz.isAgg187,
  z64:=Go.Proofs.Tryz.sizeOf187,
  v64:=Go.Proofs.Tryz.zeroValue187 }
def layg6_ren:Go.Shelf.Ren:=
{
  f:=fun x=>
    match x with
    | 6=>177
    | 15=>192
    | 14=>193
    | 28=>204
    | 29=>205
    | 20=>206
    | 21=>207
    | 22=>208
    | 23=>209
    | 24=>210
    | 25=>211
    | 26=>212
    | 27=>213
    | 46=>220
    | 47=>216
    | 48=>217
    | 49=>221
    | 50=>222
    | 57=>224
    | n=>n,
  t:=fun x=>
    match x with
    | 22=>26
    | 24=>45
    | 25=>81
    | 3=>3
    | 39=>142
    | 0=>0
    | 53=>158
    | 55=>70
    | 4=>4
    | 46=>169
    | 45=>168
    | 50=>39
    | 5=>5
    | 9=>9
    | 66=>178
    | 70=>182
    | 76=>186
    | 77=>187
    | n=>n,
  g:=fun x=>
    x }
set_option maxRecDepth 1000000 in
theorem layg6:Go.Proofs.SlLaysF.n6 Go.Proofs.Tryz.prog layg6_ren:=
{ mixed:=by kernel_rfl,
  f6:=⟨Go.Proofs.Tryz.f177.name,of_decide_eq_true (by kernel_rfl),(Go.Proofs.Tryz.func177).trans (congrArg some (by kernel_rfl))⟩,
  f14:=⟨Go.Proofs.Tryz.f193.name,of_decide_eq_true (by kernel_rfl),(Go.Proofs.Tryz.func193).trans (congrArg some (by kernel_rfl))⟩,
  f15:=(Go.Proofs.Tryz.func192).trans (congrArg some (by kernel_rfl)),
  f20:=⟨Go.Proofs.Tryz.f206.name,of_decide_eq_true (by kernel_rfl),(Go.Proofs.Tryz.func206).trans (congrArg some (by kernel_rfl))⟩,
  f21:=⟨Go.Proofs.Tryz.f207.name,of_decide_eq_true (by kernel_rfl),(Go.Proofs.Tryz.func207).trans (congrArg some (by kernel_rfl))⟩,
  f22:=⟨Go.Proofs.Tryz.f208.name,of_decide_eq_true (by kernel_rfl),(Go.Proofs.Tryz.func208).trans (congrArg some (by kernel_rfl))⟩,
  f23:=⟨Go.Proofs.Tryz.f209.name,of_decide_eq_true (by kernel_rfl),(Go.Proofs.Tryz.func209).trans (congrArg some (by kernel_rfl))⟩,
  f24:=⟨Go.Proofs.Tryz.f210.name,of_decide_eq_true (by kernel_rfl),(Go.Proofs.Tryz.func210).trans (congrArg some (by kernel_rfl))⟩,
  f25:=⟨Go.Proofs.Tryz.f211.name,of_decide_eq_true (by kernel_rfl),(Go.Proofs.Tryz.func211).trans (congrArg some (by kernel_rfl))⟩,
  f26:=⟨Go.Proofs.Tryz.f212.name,of_decide_eq_true (by kernel_rfl),(Go.Proofs.Tryz.func212).trans (congrArg some (by kernel_rfl))⟩,
  f27:=⟨Go.Proofs.Tryz.f213.name,of_decide_eq_true (by kernel_rfl),(Go.Proofs.Tryz.func213).trans (congrArg some (by kernel_rfl))⟩,
  f28:=(Go.Proofs.Tryz.func204).trans (congrArg some (by kernel_rfl)),
  f29:=(Go.Proofs.Tryz.func205).trans (congrArg some (by kernel_rfl)),
  f46:=⟨Go.Proofs.Tryz.f220.name,of_decide_eq_true (by kernel_rfl),(Go.Proofs.Tryz.func220).trans (congrArg some (by kernel_rfl))⟩,
  f47:=(Go.Proofs.Tryz.func216).trans (congrArg some (by kernel_rfl)),
  f48:=(Go.Proofs.Tryz.func217).trans (congrArg some (by kernel_rfl)),
  f49:=⟨Go.Proofs.Tryz.f221.name,of_decide_eq_true (by kernel_rfl),(Go.Proofs.Tryz.func221).trans (congrArg some (by kernel_rfl))⟩,
  f50:=⟨Go.Proofs.Tryz.f222.name,of_decide_eq_true (by kernel_rfl),(Go.Proofs.Tryz.func222).trans (congrArg some (by kernel_rfl))⟩,
  f57:=⟨Go.Proofs.Tryz.f224.name,of_decide_eq_true (by kernel_rfl),(Go.Proofs.Tryz.func224).trans (congrArg some (by kernel_rfl))⟩,
  t0:=Go.Proofs.Tryz.underlying0,
  a0:=Go.Proofs.Tryz.isAgg0,
  z0:=Go.Proofs.Tryz.sizeOf0,
  v0:=Go.Proofs.Tryz.zeroValue0,
  t3:=Go.Proofs.Tryz.underlying3,
  a3:=Go.Proofs.Tryz.isAgg3,
  z3:=Go.Proofs.Tryz.sizeOf3,
  v3:=Go.Proofs.Tryz.zeroValue3,
  t4:=Go.Proofs.Tryz.underlying4,
  a4:=Go.Proofs.Tryz.isAgg4,
  z4:=Go.Proofs.Tryz.sizeOf4,
  v4:=Go.Proofs.Tryz.zeroValue4,
  t5:=Go.Proofs.Tryz.underlying5,
  a5:=Go.Proofs.Tryz.isAgg5,
  z5:=Go.Proofs.Tryz.sizeOf5,
  v5:=Go.Proofs.Tryz.zeroValue5,
  t9:=Go.Proofs.Tryz.underlying9,
  a9:=Go.Proofs.Tryz.isAgg9,
  z9:=Go.Proofs.Tryz.sizeOf9,
  v9:=Go.Proofs.Tryz.zeroValue9,
  t22:=Go.Proofs.Tryz.underlying26,
  a22:=Go.Proofs.Tryz.isAgg26,
  z22:=Go.Proofs.Tryz.sizeOf26,
  v22:=Go.Proofs.Tryz.zeroValue26,
  a24:=Go.Proofs.Tryz.isAgg45,
  z24:=Go.Proofs.Tryz.sizeOf45,
  t25:=Go.Proofs.Tryz.underlying81,
  a25:=Go.Proofs.Tryz.isAgg81,
  z25:=Go.Proofs.Tryz.sizeOf81,
  v25:=Go.Proofs.Tryz.zeroValue81,
  t39:=Go.Proofs.Tryz.underlying142,
  a39:=Go.Proofs.Tryz.isAgg142,
  z39:=Go.Proofs.Tryz.sizeOf142,
  v39:=Go.Proofs.Tryz.zeroValue142,
  t45:=Go.Proofs.Tryz.underlying168,
  a45:=Go.Proofs.Tryz.isAgg168,
  z45:=Go.Proofs.Tryz.sizeOf168,
  v45:=Go.Proofs.Tryz.zeroValue168,
  t46:=Go.Proofs.Tryz.underlying169,
  a46:=Go.Proofs.Tryz.isAgg169,
  z46:=Go.Proofs.Tryz.sizeOf169,
  v46:=Go.Proofs.Tryz.zeroValue169,
  t50:=Go.Proofs.Tryz.underlying39,
  a50:=Go.Proofs.Tryz.isAgg39,
  z50:=Go.Proofs.Tryz.sizeOf39,
  v50:=Go.Proofs.Tryz.zeroValue39,
  t53:=Go.Proofs.Tryz.underlying158,
  a53:=Go.Proofs.Tryz.isAgg158,
  z53:=Go.Proofs.Tryz.sizeOf158,
  v53:=Go.Proofs.Tryz.zeroValue158,
  t55:=Go.Proofs.Tryz.underlying70,
  a55:=Go.Proofs.Tryz.isAgg70,
  z55:=Go.Proofs.Tryz.sizeOf70,
  v55:=Go.Proofs.Tryz.zeroValue70,
  t66:=Go.Proofs.Tryz.underlying178,
  a66:=Go.Proofs.Tryz.isAgg178,
  z66:=Go.Proofs.Tryz.sizeOf178,
  v66:=Go.Proofs.Tryz.zeroValue178,
  t70:=Go.Proofs.Tryz.underlying182,
  a70:=Go.Proofs.Tryz.isAgg182,
  z70:=Go.Proofs.Tryz.sizeOf182,
  v70:=Go.Proofs.Tryz.zeroValue182,
  t76:=Go.Proofs.Tryz.underlying186,
  a76:=Go.Proofs.Tryz.isAgg186,
  z76:=Go.Proofs.Tryz.sizeOf186,
  v76:=Go.Proofs.Tryz.zeroValue186,
  t77:=Go.Proofs.Tryz.underlying187,
  a77:=Go.Proofs.Tryz.isAgg187,
  z77:=Go.Proofs.Tryz.sizeOf187,
  v77:=Go.Proofs.Tryz.zeroValue187 }
theorem tab:TabOk Tryz.prog (assoc tks) (assoc ars):=tab_of (by kernel_rfl)
theorem mixed:Tryz.prog.follows .mixedOrders=true:=by kernel_rfl
theorem C_q2q:Contract Tryz.prog 177 S_q2q:=
  con_sortF (enters_of Tryz.func177 (by kernel_rfl) rfl) (fun w v1 v2 xs ys h1 h2 l1 l2=>cmpH h1 h2 l1 l2) (fun n enc cf blk off cap w h1 hO hcmp hH hb hs=>Any.slices_SortFunc layg6 enc h1 cf hO 68 #[] blk off cap (idA n) w (enters_of Tryz.func68 (by kernel_rfl) rfl) hcmp hH hb hs) (AnyF.slices_SortFunc_none { layg6 with })
theorem C_q12q:Contract Tryz.prog 176 S_q12q:=
  con_sortI (enters_of Tryz.func176 (by kernel_rfl) rfl) (fun blk off cap zs w h1 h2 h3=>AnyM.slices_Sort_int layg5 blk off cap zs w h1 h2 h3) (fun p cap w=>AnyM.slices_Sort_int_none layg5 p cap w)
theorem C_laws_rBig_raw (N:Nat):Contract Tryz.prog 16 ⟨[(K_Su8,false)],[.bool],true,F_laws_rBig N⟩:=
  have E:Env Tryz.prog Γ_laws_rBig:=env_of tab trivial
  con_of (body:=bodyOf Tryz.f16) (Pc:=[]) E rfl mixed Tryz.func16 (by kernel_rfl) (by kernel_rfl) (by kernel_rfl) (by kernel_rfl) (fun A hA=>trivial) (fun _=>by kernel_rfl)
theorem C_laws_rBig:Contract Tryz.prog 16 S_laws_rBig:=Contract.less (fun N:Nat=>F_laws_rBig N) C_laws_rBig_raw (fun d r h=>⟨0,(F_laws_rBig_tot 0 d).trans h⟩)
theorem C_q38q_raw (N:Nat):Contract Tryz.prog 123 ⟨[(K_BPSu8iu64q,true)],[I],true,F_q38q N⟩:=
  have E:Env Tryz.prog Γ_q38q:=env_of tab trivial
  con_of (body:=bodyOf Tryz.f123) (Pc:=[]) E rfl mixed Tryz.func123 (by kernel_rfl) (by kernel_rfl) (by kernel_rfl) (by kernel_rfl) (fun A hA=>trivial) (fun _=>by kernel_rfl)
theorem C_q38q:Contract Tryz.prog 123 S_q38q:=C_q38q_raw 0
theorem C_q37q_raw (N:Nat):Contract Tryz.prog 63 ⟨[(K_BPSu8iu64q,true),(I,false)],[I],true,F_q37q N⟩:=
  have E:Env Tryz.prog Γ_q37q:=env_of tab ⟨C_q38q,trivial⟩
  con_of (body:=bodyOf Tryz.f63) (Pc:=[]) E rfl mixed Tryz.func63 (by kernel_rfl) (by kernel_rfl) (by kernel_rfl) (by kernel_rfl) (fun A hA=>trivial) (fun _=>by kernel_rfl)
theorem C_q37q:Contract Tryz.prog 63 S_q37q:=C_q37q_raw 0
theorem C_q30q_raw (N:Nat):Contract Tryz.prog 78 ⟨[(K_BPSu8iu64q,true),(K_Si,false)],[I],true,F_q30q N⟩:=
  have E:Env Tryz.prog Γ_q30q:=env_of tab ⟨C_q37q,trivial⟩
  con_of (body:=bodyOf Tryz.f78) (Pc:=[]) E rfl mixed Tryz.func78 (by kernel_rfl) (by kernel_rfl) (by kernel_rfl) (by kernel_rfl) (fun A hA=>trivial) (fun _=>by kernel_rfl)
theorem C_q30q:Contract Tryz.prog 78 S_q30q:=C_q30q_raw 0
theorem C_q43q_raw (N:Nat):Contract Tryz.prog 62 ⟨[(K_BPSu8iu64q,true),(I,false)],[.bool],true,F_q43q N⟩:=
  have E:Env Tryz.prog Γ_q43q:=env_of tab ⟨C_q37q,trivial⟩
  con_of (body:=bodyOf Tryz.f62) (Pc:=[]) E rfl mixed Tryz.func62 (by kernel_rfl) (by kernel_rfl) (by kernel_rfl) (by kernel_rfl) (fun A hA=>trivial) (fun _=>by kernel_rfl)
theorem C_q43q:Contract Tryz.prog 62 S_q43q:=C_q43q_raw 0
theorem C_q57q_raw (N:Nat):Contract Tryz.prog 116 ⟨[(I,false),(I,false)],[I],true,F_q57q N⟩:=
  have E:Env Tryz.prog Γ_q57q:=env_of tab trivial
  con_of (body:=bodyOf Tryz.f116) (Pc:=[]) E rfl mixed Tryz.func116 (by kernel_rfl) (by kernel_rfl) (by kernel_rfl) (by kernel_rfl) (fun A hA=>trivial) (fun _=>by kernel_rfl)
theorem C_q57q:Contract Tryz.prog 116 S_q57q:=Contract.less (fun N:Nat=>F_q57q N) C_q57q_raw (fun d r h=>⟨0,(F_q57q_tot 0 d).trans h⟩)
theorem C_q74q_raw (N:Nat):Contract Tryz.prog 117 ⟨[(I,false)],[K_PiSPiiqq],true,F_q74q N⟩:=
  have E:Env Tryz.prog Γ_q74q:=env_of tab trivial
  con_of (body:=bodyOf Tryz.f117) (Pc:=[(0,⟨q74q_l0_h,q74q_l0_o,q74q_l0 N N⟩)]) E rfl mixed Tryz.func117 (by kernel_rfl) (by kernel_rfl) (by kernel_rfl) (by kernel_rfl) (fun A hA=>⟨pc_of (body:=loopOf Tryz.f117 0) (inner:=[]) E mixed hA (by kernel_rfl) (by kernel_rfl) (by kernel_rfl) trivial (fun _=>rfl) (fun _ _=>by kernel_rfl) N,trivial⟩) (fun _=>by kernel_rfl)
theorem C_q74q:Contract Tryz.prog 117 S_q74q:=Contract.less (fun N:Nat=>F_q74q N) C_q74q_raw pickF_lim
theorem C_q49q_raw (N:Nat):Contract Tryz.prog 131 ⟨[(K_Piiq,false),(K_Piiq,false)],[.bool],true,F_q49q N⟩:=
  have E:Env Tryz.prog Γ_q49q:=env_of tab trivial
  con_of (body:=bodyOf Tryz.f131) (Pc:=[]) E rfl mixed Tryz.func131 (by kernel_rfl) (by kernel_rfl) (by kernel_rfl) (by kernel_rfl) (fun A hA=>trivial) (fun _=>by kernel_rfl)
theorem C_q49q:Contract Tryz.prog 131 S_q49q:=Contract.less (fun N:Nat=>F_q49q N) C_q49q_raw (fun d r h=>⟨0,(F_q49q_tot 0 d).trans h⟩)
theorem C_spec_l2Put_raw (N:Nat):Contract Tryz.prog 119 ⟨[(K_SPiiq,false),(K_Piiq,false)],[K_SPiiq],true,F_spec_l2Put N⟩:=
  have E:Env Tryz.prog Γ_spec_l2Put:=env_of tab ⟨C_q49q,trivial⟩
  con_of (body:=bodyOf Tryz.f119) (Pc:=[(0,⟨spec_l2Put_l0_h,spec_l2Put_l0_o,spec_l2Put_l0 N N⟩)]) E rfl mixed Tryz.func119 (by kernel_rfl) (by kernel_rfl) (by kernel_rfl) (by kernel_rfl) (fun A hA=>⟨pc_of (body:=loopOf Tryz.f119 0) (inner:=[]) E mixed hA (by kernel_rfl) (by kernel_rfl) (by kernel_rfl) trivial (fun _=>rfl) (fun _ _=>by kernel_rfl) N,trivial⟩) (fun _=>by kernel_rfl)
theorem C_spec_l2Put:Contract Tryz.prog 119 S_spec_l2Put:=Contract.less (fun N:Nat=>F_spec_l2Put N) C_spec_l2Put_raw l2Put_lim
theorem C_q60q_raw (N:Nat):Contract Tryz.prog 118 ⟨[(I,false)],[K_PiSPiiqq],true,F_q60q N⟩:=
  have E:Env Tryz.prog Γ_q60q:=env_of tab ⟨C_q74q,⟨C_spec_l2Put,trivial⟩⟩
  con_of (body:=bodyOf Tryz.f118) (Pc:=[]) E rfl mixed Tryz.func118 (by kernel_rfl) (by kernel_rfl) (by kernel_rfl) (by kernel_rfl) (fun A hA=>trivial) (fun _=>by kernel_rfl)
theorem C_q60q:Contract Tryz.prog 118 S_q60q:=C_q60q_raw 0
theorem C_q39q_raw (N:Nat):Contract Tryz.prog 82 ⟨[(I,false)],[K_PiSPiiqq],true,F_q39q N⟩:=
  have E:Env Tryz.prog Γ_q39q:=env_of tab trivial
  con_of (body:=bodyOf Tryz.f82) (Pc:=[(0,⟨q39q_l0_h,q39q_l0_o,q39q_l0 N N⟩)]) E rfl mixed Tryz.func82 (by kernel_rfl) (by kernel_rfl) (by kernel_rfl) (by kernel_rfl) (fun A hA=>⟨pc_of (body:=loopOf Tryz.f82 0) (inner:=[(2,⟨q39q_l2_h,q39q_l2_o,q39q_l2 N N⟩)]) E mixed hA (by kernel_rfl) (by kernel_rfl) (by kernel_rfl) ⟨pc_of (body:=loopOf Tryz.f82 2) (inner:=[]) E mixed hA (by kernel_rfl) (by kernel_rfl) (by kernel_rfl) trivial (fun _=>rfl) (fun _ _=>by kernel_rfl) N,trivial⟩ (fun _=>rfl) (fun _ _=>by kernel_rfl) N,trivial⟩) (fun _=>by kernel_rfl)
theorem C_q39q:Contract Tryz.prog 82 S_q39q:=Contract.less (fun N:Nat=>F_q39q N) C_q39q_raw pickF_lim
theorem C_q68q_raw (N:Nat):Contract Tryz.prog 120 ⟨[(I,false),(I,false)],[I],true,F_q68q N⟩:=
  have E:Env Tryz.prog Γ_q68q:=env_of tab trivial
  con_of (body:=bodyOf Tryz.f120) (Pc:=[]) E rfl mixed Tryz.func120 (by kernel_rfl) (by kernel_rfl) (by kernel_rfl) (by kernel_rfl) (fun A hA=>trivial) (fun _=>by kernel_rfl)
theorem C_q68q:Contract Tryz.prog 120 S_q68q:=Contract.less (fun N:Nat=>F_q68q N) C_q68q_raw (fun d r h=>⟨0,(F_q68q_tot 0 d).trans h⟩)
theorem C_q71q_raw (N:Nat):Contract Tryz.prog 121 ⟨[(K_PiSPiiqq,false),(I,false),(I,false)],[.bool],true,F_q71q N⟩:=
  have E:Env Tryz.prog Γ_q71q:=env_of tab trivial
  con_of (body:=bodyOf Tryz.f121) (Pc:=[(0,⟨q71q_l0_h,q71q_l0_o,q71q_l0 N N⟩)]) E rfl mixed Tryz.func121 (by kernel_rfl) (by kernel_rfl) (by kernel_rfl) (by kernel_rfl) (fun A hA=>⟨pc_of (body:=loopOf Tryz.f121 0) (inner:=[]) E mixed hA (by kernel_rfl) (by kernel_rfl) (by kernel_rfl) trivial (fun _=>rfl) (fun _ _=>by kernel_rfl) N,trivial⟩) (fun _=>by kernel_rfl)
theorem C_q71q:Contract Tryz.prog 121 S_q71q:=Contract.less (fun N:Nat=>F_q71q N) C_q71q_raw l2Near_lim
theorem C_q25q_raw (N:Nat):ContractG Tryz.prog 122 (⟨[(K_BPSu8iu64q,true),(K_PiSPiiqq,true)],[K_PiSPiiqq],true,F_q25q N⟩,{ gone:=[1],deep:=[] }):=
  have E:Env Tryz.prog Γ_q25q:=env_ofG tab ⟨C_q37q,⟨C_q30q,trivial⟩⟩ trivial (fun _ h=>by cases h) trivial (by kernel_rfl)
  con_ofG (body:=bodyOf Tryz.f122) (Pc:=[]) E mixed Tryz.func122 (by kernel_rfl) (by kernel_rfl) (by kernel_rfl) (by kernel_rfl) (fun A hA=>trivial) (fun _=>by kernel_rfl)
theorem C_q25q:ContractG Tryz.prog 122 (S_q25q,{ gone:=[1],deep:=[] }):=C_q25q_raw 0
theorem C_q13q_raw (N:Nat):Contract Tryz.prog 61 ⟨[(K_BPSu8iu64q,true),(I,false)],[K_PiSPiiqq],true,F_q13q N⟩:=
  have E:Env Tryz.prog Γ_q13q:=env_ofG tab ⟨C_q43q,⟨C_q37q,⟨C_q30q,⟨C_q39q,⟨C_q57q,⟨C_q74q,⟨C_q60q,⟨C_spec_l2Put,⟨C_q68q,⟨C_q71q,trivial⟩⟩⟩⟩⟩⟩⟩⟩⟩⟩ trivial (fun _ h=>by cases h) ⟨C_q25q,trivial⟩ (by kernel_rfl)
  con_of (body:=bodyOf Tryz.f61) (Pc:=[(1,⟨q13q_l1_h,q13q_l1_o,q13q_l1 N N⟩)]) E rfl mixed Tryz.func61 (by kernel_rfl) (by kernel_rfl) (by kernel_rfl) (by kernel_rfl) (fun A hA=>⟨pc_of (body:=loopOf Tryz.f61 1) (inner:=[(3,⟨q13q_l3_h,q13q_l3_o,q13q_l3 N N⟩)]) E mixed hA (by kernel_rfl) (by kernel_rfl) (by kernel_rfl) ⟨pc_of (body:=loopOf Tryz.f61 3) (inner:=[]) E mixed hA (by kernel_rfl) (by kernel_rfl) (by kernel_rfl) trivial (fun _=>rfl) (fun _ _=>by kernel_rfl) N,trivial⟩ (fun _=>rfl) (fun _ _=>by kernel_rfl) N,trivial⟩) (fun _=>by kernel_rfl)
theorem C_q13q:Contract Tryz.prog 61 S_q13q:=Contract.less (fun N:Nat=>F_q13q N) C_q13q_raw pickF_lim
theorem C_q20q_raw (N:Nat):Contract Tryz.prog 17 ⟨[(K_Su8,false)],[K_PiSPiiqq],true,F_q20q N⟩:=
  have E:Env Tryz.prog Γ_q20q:=env_of tab ⟨C_q13q,⟨C_q43q,⟨C_q37q,trivial⟩⟩⟩
  con_of (body:=bodyOf Tryz.f17) (Pc:=[]) E rfl mixed Tryz.func17 (by kernel_rfl) (by kernel_rfl) (by kernel_rfl) (by kernel_rfl) (fun A hA=>trivial) (fun _=>by kernel_rfl)
theorem C_q20q:Contract Tryz.prog 17 S_q20q:=C_q20q_raw 0
theorem C_q77q_raw (N:Nat):Contract Tryz.prog 67 ⟨[(I,false),(I,false),(I,false)],[.bool],true,F_q77q N⟩:=
  have E:Env Tryz.prog Γ_q77q:=env_of tab trivial
  con_of (body:=bodyOf Tryz.f67) (Pc:=[]) E rfl mixed Tryz.func67 (by kernel_rfl) (by kernel_rfl) (by kernel_rfl) (by kernel_rfl) (fun A hA=>trivial) (fun _=>by kernel_rfl)
theorem C_q77q:Contract Tryz.prog 67 S_q77q:=Contract.less (fun N:Nat=>F_q77q N) C_q77q_raw (fun d r h=>⟨0,(F_q77q_tot 0 d).trans h⟩)
theorem C_q53q_raw (N:Nat):Contract Tryz.prog 166 ⟨[(I,false)],[.bool],true,F_q53q N⟩:=
  have E:Env Tryz.prog Γ_q53q:=env_of tab trivial
  con_of (body:=bodyOf Tryz.f166) (Pc:=[]) E rfl mixed Tryz.func166 (by kernel_rfl) (by kernel_rfl) (by kernel_rfl) (by kernel_rfl) (fun A hA=>trivial) (fun _=>by kernel_rfl)
theorem C_q53q:Contract Tryz.prog 166 S_q53q:=Contract.less (fun N:Nat=>F_q53q N) C_q53q_raw (fun d r h=>⟨0,(F_q53q_tot 0 d).trans h⟩)
theorem C_q35q_raw (N:Nat):Contract Tryz.prog 128 ⟨[(I,false),(I,false)],[I],true,F_q35q N⟩:=
  have E:Env Tryz.prog Γ_q35q:=env_of tab ⟨C_q53q,trivial⟩
  con_of (body:=bodyOf Tryz.f128) (Pc:=[]) E rfl mixed Tryz.func128 (by kernel_rfl) (by kernel_rfl) (by kernel_rfl) (by kernel_rfl) (fun A hA=>trivial) (fun _=>by kernel_rfl)
theorem C_q35q:Contract Tryz.prog 128 S_q35q:=Contract.less (fun N:Nat=>F_q35q N) C_q35q_raw (fun d r h=>⟨0,(F_q35q_tot 0 d).trans h⟩)
theorem C_q7q_raw (N:Nat):Contract Tryz.prog 68 ⟨[(K_Si,false),(K_Si,false)],[I],true,F_q7q N⟩:=
  have E:Env Tryz.prog Γ_q7q:=env_of tab ⟨C_q35q,trivial⟩
  con_of (body:=bodyOf Tryz.f68) (Pc:=[(0,⟨q7q_l0_h,q7q_l0_o,q7q_l0 N N⟩)]) E rfl mixed Tryz.func68 (by kernel_rfl) (by kernel_rfl) (by kernel_rfl) (by kernel_rfl) (fun A hA=>⟨pc_of (body:=loopOf Tryz.f68 0) (inner:=[]) E mixed hA (by kernel_rfl) (by kernel_rfl) (by kernel_rfl) trivial (fun _=>rfl) (fun _ _=>by kernel_rfl) N,trivial⟩) (fun _=>by kernel_rfl)
theorem C_q7q:Contract Tryz.prog 68 S_q7q:=Contract.less (fun N:Nat=>F_q7q N) C_q7q_raw compare_lim
theorem C_q59q_raw (N:Nat):Contract Tryz.prog 20 ⟨[(K_PiSPiiqq,false)],[.bool],true,F_q59q N⟩:=
  have E:Env Tryz.prog Γ_q59q:=env_of tab ⟨C_q77q,⟨C_q7q,trivial⟩⟩
  con_of (body:=bodyOf Tryz.f20) (Pc:=[(0,⟨q59q_l0_h,q59q_l0_o,q59q_l0 N N⟩)]) E rfl mixed Tryz.func20 (by kernel_rfl) (by kernel_rfl) (by kernel_rfl) (by kernel_rfl) (fun A hA=>⟨pc_of (body:=loopOf Tryz.f20 0) (inner:=[]) E mixed hA (by kernel_rfl) (by kernel_rfl) (by kernel_rfl) trivial (fun _=>rfl) (fun _ _=>by kernel_rfl) N,trivial⟩) (fun _=>by kernel_rfl)
theorem C_q59q:Contract Tryz.prog 20 S_q59q:=Contract.less (fun N:Nat=>F_q59q N) C_q59q_raw IsGraph_lim
theorem C_q41q_raw (N:Nat):Contract Tryz.prog 53 ⟨[(K_PiSPiiqq,false),(I,false)],[.bool],true,F_q41q N⟩:=
  have E:Env Tryz.prog Γ_q41q:=env_of tab ⟨C_q59q,⟨C_q77q,trivial⟩⟩
  con_of (body:=bodyOf Tryz.f53) (Pc:=[]) E rfl mixed Tryz.func53 (by kernel_rfl) (by kernel_rfl) (by kernel_rfl) (by kernel_rfl) (fun A hA=>trivial) (fun _=>by kernel_rfl)
theorem C_q41q:Contract Tryz.prog 53 S_q41q:=C_q41q_raw 0
theorem C_impl_netOf_raw (N:Nat):Contract Tryz.prog 54 ⟨[(K_PiSPiiqq,false)],[K_PSiq],true,F_impl_netOf N⟩:=
  have E:Env Tryz.prog Γ_impl_netOf:=env_of tab trivial
  con_of (body:=bodyOf Tryz.f54) (Pc:=[(0,⟨impl_netOf_l0_h,impl_netOf_l0_o,impl_netOf_l0 N N⟩)]) E rfl mixed Tryz.func54 (by kernel_rfl) (by kernel_rfl) (by kernel_rfl) (by kernel_rfl) (fun A hA=>⟨pc_of (body:=loopOf Tryz.f54 0) (inner:=[]) E mixed hA (by kernel_rfl) (by kernel_rfl) (by kernel_rfl) trivial (fun _=>rfl) (fun _ _=>by kernel_rfl) N,trivial⟩) (fun _=>by kernel_rfl)
theorem C_impl_netOf:Contract Tryz.prog 54 S_impl_netOf:=Contract.less (fun N:Nat=>F_impl_netOf N) C_impl_netOf_raw netOf_lim
theorem C_q54q_raw (N:Nat):Contract Tryz.prog 125 ⟨[(K_PSiq,false)],[I],true,F_q54q N⟩:=
  have E:Env Tryz.prog Γ_q54q:=env_of tab trivial
  con_of (body:=bodyOf Tryz.f125) (Pc:=[]) E rfl mixed Tryz.func125 (by kernel_rfl) (by kernel_rfl) (by kernel_rfl) (by kernel_rfl) (fun A hA=>trivial) (fun _=>by kernel_rfl)
theorem C_q54q:Contract Tryz.prog 125 S_q54q:=Contract.less (fun N:Nat=>F_q54q N) C_q54q_raw (fun d r h=>⟨0,(F_q54q_tot 0 d).trans h⟩)
theorem C_q11q_raw (N:Nat):Contract Tryz.prog 114 ⟨[(K_Si,false)],[K_Si],true,F_q11q N⟩:=
  have E:Env Tryz.prog Γ_q11q:=env_of tab trivial
  con_of (body:=bodyOf Tryz.f114) (Pc:=[]) E rfl mixed Tryz.func114 (by kernel_rfl) (by kernel_rfl) (by kernel_rfl) (by kernel_rfl) (fun A hA=>trivial) (fun _=>by kernel_rfl)
theorem C_q11q:Contract Tryz.prog 114 S_q11q:=Contract.less (fun N:Nat=>F_q11q N) C_q11q_raw cloneI_lim
theorem C_q47q_raw (N:Nat):Contract Tryz.prog 160 ⟨[(I,false),(I,false)],[K_SSi],true,F_q47q N⟩:=
  have E:Env Tryz.prog Γ_q47q:=env_ofV tab ⟨C_q11q,trivial⟩ trivial (fun _ h=>by cases h)
  con_of (body:=bodyOf Tryz.f160) (Pc:=[(0,⟨q47q_l0_h,q47q_l0_o,q47q_l0 N N⟩)]) E rfl mixed Tryz.func160 (by kernel_rfl) (by kernel_rfl) (by kernel_rfl) (by kernel_rfl) (fun A hA=>⟨pc_of (body:=loopOf Tryz.f160 0) (inner:=[(2,⟨q47q_l2_h,q47q_l2_o,q47q_l2 N N⟩)]) E mixed hA (by kernel_rfl) (by kernel_rfl) (by kernel_rfl) ⟨pc_of (body:=loopOf Tryz.f160 2) (inner:=[(4,⟨q47q_l4_h,q47q_l4_o,q47q_l4 N N⟩)]) E mixed hA (by kernel_rfl) (by kernel_rfl) (by kernel_rfl) ⟨pc_of (body:=loopOf Tryz.f160 4) (inner:=[]) E mixed hA (by kernel_rfl) (by kernel_rfl) (by kernel_rfl) trivial (fun _=>rfl) (fun _ _=>by kernel_rfl) N,trivial⟩ (fun _=>rfl) (fun _ _=>by kernel_rfl) N,trivial⟩ (fun _=>rfl) (fun _ _=>by kernel_rfl) N,trivial⟩) (fun _=>by kernel_rfl)
theorem C_q47q:Contract Tryz.prog 160 S_q47q:=Contract.less (fun N:Nat=>F_q47q N) C_q47q_raw copLists_lim
theorem C_q34q_raw (N:Nat):Contract Tryz.prog 148 ⟨[(K_PSiq,false),(I,false)],[I],true,F_q34q N⟩:=
  have E:Env Tryz.prog Γ_q34q:=env_of tab trivial
  con_of (body:=bodyOf Tryz.f148) (Pc:=[]) E rfl mixed Tryz.func148 (by kernel_rfl) (by kernel_rfl) (by kernel_rfl) (by kernel_rfl) (fun A hA=>trivial) (fun _=>by kernel_rfl)
theorem C_q34q:Contract Tryz.prog 148 S_q34q:=C_q34q_raw 0
theorem C_impl_setOf_raw (N:Nat):Contract Tryz.prog 91 ⟨[(I,false)],[K_Si],true,F_impl_setOf N⟩:=
  have E:Env Tryz.prog Γ_impl_setOf:=env_of tab trivial
  con_of (body:=bodyOf Tryz.f91) (Pc:=[(0,⟨impl_setOf_l0_h,impl_setOf_l0_o,impl_setOf_l0 N N⟩)]) E rfl mixed Tryz.func91 (by kernel_rfl) (by kernel_rfl) (by kernel_rfl) (by kernel_rfl) (fun A hA=>⟨pc_of (body:=loopOf Tryz.f91 0) (inner:=[]) E mixed hA (by kernel_rfl) (by kernel_rfl) (by kernel_rfl) trivial (fun _=>rfl) (fun _ _=>by kernel_rfl) N,trivial⟩) (fun _=>by kernel_rfl)
theorem C_impl_setOf:Contract Tryz.prog 91 S_impl_setOf:=Contract.less (fun N:Nat=>F_impl_setOf N) C_impl_setOf_raw setOf_lim
theorem C_q1q:ContractG Tryz.prog 178 (S_q1q,{ gone:=[0],deep:=[] }):=con_compactF (enters_of Tryz.func178 (by kernel_rfl) rfl) (fun w v1 v2 xs ys h1 h2 l1 l2=>eqH h1 h2 l1 l2) compact74 compact74_small
theorem C_q24q_raw (N:Nat):Contract Tryz.prog 142 ⟨[(K_PSiq,false),(K_Si,false)],[K_SSi],true,F_q24q N⟩:=
  have E:Env Tryz.prog Γ_q24q:=env_ofG tab ⟨C_impl_setOf,⟨C_q11q,⟨C_q34q,⟨C_q12q,⟨C_q2q,trivial⟩⟩⟩⟩⟩ trivial (fun _ h=>by cases h) ⟨C_q1q,trivial⟩ (by kernel_rfl)
  con_of (body:=bodyOf Tryz.f142) (Pc:=[(0,⟨q24q_l0_h,q24q_l0_o,q24q_l0 N N⟩),(6,⟨q24q_l6_h,q24q_l6_o,q24q_l6 N N⟩)]) E rfl mixed Tryz.func142 (by kernel_rfl) (by kernel_rfl) (by kernel_rfl) (by kernel_rfl) (fun A hA=>⟨pc_of (body:=loopOf Tryz.f142 0) (inner:=[(2,⟨q24q_l2_h,q24q_l2_o,q24q_l2 N N⟩)]) E mixed hA (by kernel_rfl) (by kernel_rfl) (by kernel_rfl) ⟨pc_of (body:=loopOf Tryz.f142 2) (inner:=[(4,⟨q24q_l4_h,q24q_l4_o,q24q_l4 N N⟩)]) E mixed hA (by kernel_rfl) (by kernel_rfl) (by kernel_rfl) ⟨pc_of (body:=loopOf Tryz.f142 4) (inner:=[]) E mixed hA (by kernel_rfl) (by kernel_rfl) (by kernel_rfl) trivial (fun _=>rfl) (fun _ _=>by kernel_rfl) N,trivial⟩ (fun _=>rfl) (fun _ _=>by kernel_rfl) N,trivial⟩ (fun _=>rfl) (fun _ _=>by kernel_rfl) N,⟨pc_of (body:=loopOf Tryz.f142 6) (inner:=[]) E mixed hA (by kernel_rfl) (by kernel_rfl) (by kernel_rfl) trivial (fun _=>rfl) (fun _ _=>by kernel_rfl) N,trivial⟩⟩) (fun _=>by kernel_rfl)
theorem C_q24q:Contract Tryz.prog 142 S_q24q:=Contract.less (fun N:Nat=>F_q24q N) C_q24q_raw copMoves47_lim
theorem CV_q7q:ContractV Tryz.prog SV_q7q:=conV_0_2_0 C_q7q
theorem C_q0q_raw (N:Nat):Contract Tryz.prog 184 ⟨[(K_SSi,false),(K_Si,false),(K_F_q7q_qq,false)],[I,.bool],true,F_q0q N⟩:=
  have E:Env Tryz.prog Γ_q0q:=env_ofV tab trivial ⟨CV_q7q,trivial⟩ (fun _ h=>by cases h)
  con_of (body:=bodyOf Tryz.f184) (Pc:=[(0,⟨q0q_l0_h,q0q_l0_o,q0q_l0 N N⟩)]) E rfl mixed Tryz.func184 (by kernel_rfl) (by kernel_rfl) (by kernel_rfl) (by kernel_rfl) (fun A hA=>⟨pc_of (body:=loopOf Tryz.f184 0) (inner:=[]) E mixed hA (by kernel_rfl) (by kernel_rfl) (by kernel_rfl) trivial (fun _=>rfl) (fun _ _=>by kernel_rfl) N,trivial⟩) (fun _=>by kernel_rfl)
theorem C_q0q:Contract Tryz.prog 184 S_q0q:=Contract.less (fun N:Nat=>F_q0q N) C_q0q_raw binSearch_lim
theorem C_q19q_raw (N:Nat):Contract Tryz.prog 161 ⟨[(K_BPPZiqZSiSSiSSiq,false),(K_Si,false)],[I],true,F_q19q N⟩:=
  have E:Env Tryz.prog Γ_q19q:=env_of tab ⟨C_q0q,trivial⟩
  con_of (body:=bodyOf Tryz.f161) (Pc:=[]) E rfl mixed Tryz.func161 (by kernel_rfl) (by kernel_rfl) (by kernel_rfl) (by kernel_rfl) (fun A hA=>trivial) (fun _=>by kernel_rfl)
theorem C_q19q:Contract Tryz.prog 161 S_q19q:=C_q19q_raw 0
theorem C_q23q_raw (N:Nat):ContractG Tryz.prog 110 (⟨[(K_PSiq,false),(I,false)],[K_BPPZiqZSiSSiSSiq],true,F_q23q N⟩,md0):=
  have E:Env Tryz.prog Γ_q23q:=env_of tab ⟨C_q54q,⟨C_q24q,⟨C_q47q,⟨C_q19q,trivial⟩⟩⟩⟩
  con_ofG (body:=bodyOf Tryz.f110) (Pc:=[(0,⟨q23q_l0_h,q23q_l0_o,q23q_l0 N N⟩)]) E mixed Tryz.func110 (by kernel_rfl) (by kernel_rfl) (by kernel_rfl) (by kernel_rfl) (fun A hA=>⟨pc_of (body:=loopOf Tryz.f110 0) (inner:=[(2,⟨q23q_l2_h,q23q_l2_o,q23q_l2 N N⟩)]) E mixed hA (by kernel_rfl) (by kernel_rfl) (by kernel_rfl) ⟨pc_of (body:=loopOf Tryz.f110 2) (inner:=[]) E mixed hA (by kernel_rfl) (by kernel_rfl) (by kernel_rfl) trivial (fun _=>rfl) (fun _ _=>by kernel_rfl) N,trivial⟩ (fun _=>rfl) (fun _ _=>by kernel_rfl) N,trivial⟩) (fun _=>by kernel_rfl)
theorem C_q23q:ContractG Tryz.prog 110 (S_q23q,md0):=ContractG.less (fun N:Nat=>F_q23q N) C_q23q_raw copBoard_lim
theorem C_q10q_raw (N:Nat):Contract Tryz.prog 158 ⟨[(K_Si,false),(I,false)],[I],true,F_q10q N⟩:=
  have E:Env Tryz.prog Γ_q10q:=env_of tab trivial
  con_of (body:=bodyOf Tryz.f158) (Pc:=[(0,⟨q10q_l0_h,q10q_l0_o,q10q_l0 N N⟩)]) E rfl mixed Tryz.func158 (by kernel_rfl) (by kernel_rfl) (by kernel_rfl) (by kernel_rfl) (fun A hA=>⟨pc_of (body:=loopOf Tryz.f158 0) (inner:=[]) E mixed hA (by kernel_rfl) (by kernel_rfl) (by kernel_rfl) trivial (fun _=>rfl) (fun _ _=>by kernel_rfl) N,trivial⟩) (fun _=>by kernel_rfl)
theorem C_q10q:Contract Tryz.prog 158 S_q10q:=Contract.less (fun N:Nat=>F_q10q N) C_q10q_raw index_lim
theorem C_q6q_raw (N:Nat):Contract Tryz.prog 103 ⟨[(K_Si,false),(I,false)],[.bool],true,F_q6q N⟩:=
  have E:Env Tryz.prog Γ_q6q:=env_of tab ⟨C_q10q,trivial⟩
  con_of (body:=bodyOf Tryz.f103) (Pc:=[]) E rfl mixed Tryz.func103 (by kernel_rfl) (by kernel_rfl) (by kernel_rfl) (by kernel_rfl) (fun A hA=>trivial) (fun _=>by kernel_rfl)
theorem C_q6q:Contract Tryz.prog 103 S_q6q:=C_q6q_raw 0
theorem C_q21q_raw (N:Nat):Contract Tryz.prog 165 ⟨[(K_PSiq,false),(K_Si,false),(I,false)],[I],true,F_q21q N⟩:=
  have E:Env Tryz.prog Γ_q21q:=env_of tab ⟨C_impl_setOf,⟨C_q34q,trivial⟩⟩
  con_of (body:=bodyOf Tryz.f165) (Pc:=[(0,⟨q21q_l0_h,q21q_l0_o,q21q_l0 N N⟩)]) E rfl mixed Tryz.func165 (by kernel_rfl) (by kernel_rfl) (by kernel_rfl) (by kernel_rfl) (fun A hA=>⟨pc_of (body:=loopOf Tryz.f165 0) (inner:=[]) E mixed hA (by kernel_rfl) (by kernel_rfl) (by kernel_rfl) trivial (fun _=>rfl) (fun _ _=>by kernel_rfl) N,trivial⟩) (fun _=>by kernel_rfl)
theorem C_q21q:Contract Tryz.prog 165 S_q21q:=Contract.less (fun N:Nat=>F_q21q N) C_q21q_raw timeAfter_lim
theorem C_q16q_raw (N:Nat):Contract Tryz.prog 164 ⟨[(I,false),(K_BBPPZiqZSiSSiSSiq,false),(K_Bi,false)],[.bool],true,F_q16q N⟩:=
  have E:Env Tryz.prog Γ_q16q:=env_ofV tab ⟨C_q6q,⟨C_q21q,trivial⟩⟩ trivial (w1_of (by kernel_rfl))
  con_of (body:=bodyOf Tryz.f164) (Pc:=[]) E rfl mixed Tryz.func164 (by kernel_rfl) (by kernel_rfl) (by kernel_rfl) (by kernel_rfl) (fun A hA=>trivial) (fun _=>by kernel_rfl)
theorem C_q16q:Contract Tryz.prog 164 S_q16q:=C_q16q_raw 0
theorem CV_q16q:ContractV Tryz.prog SV_q16q:=conV_0_1_2 C_q16q
theorem C_q4q_raw (N:Nat):Contract Tryz.prog 180 ⟨[(K_Si,false),(K_F_q16q_qPBBPPZiqZSiSSiSSiqBiq,false)],[I],true,F_q4q N⟩:=
  have E:Env Tryz.prog Γ_q4q:=env_ofV tab trivial ⟨CV_q16q,trivial⟩ (fun _ h=>by cases h)
  con_of (body:=bodyOf Tryz.f180) (Pc:=[(0,⟨q4q_l0_h,q4q_l0_o,q4q_l0 N N⟩)]) E rfl mixed Tryz.func180 (by kernel_rfl) (by kernel_rfl) (by kernel_rfl) (by kernel_rfl) (fun A hA=>⟨pc_of (body:=loopOf Tryz.f180 0) (inner:=[]) E mixed hA (by kernel_rfl) (by kernel_rfl) (by kernel_rfl) trivial (fun _=>rfl) (fun _ _=>by kernel_rfl) N,trivial⟩) (fun _=>by kernel_rfl)
theorem C_q4q:Contract Tryz.prog 180 S_q4q:=Contract.less (fun N:Nat=>F_q4q N) C_q4q_raw gameCan_lim
theorem C_q3q_raw (N:Nat):Contract Tryz.prog 163 ⟨[(K_Si,false),(K_F_q16q_qPBBPPZiqZSiSSiSSiqBiq,false)],[.bool],true,F_q3q N⟩:=
  have E:Env Tryz.prog Γ_q3q:=env_of tab ⟨C_q4q,trivial⟩
  con_of (body:=bodyOf Tryz.f163) (Pc:=[]) E rfl mixed Tryz.func163 (by kernel_rfl) (by kernel_rfl) (by kernel_rfl) (by kernel_rfl) (fun A hA=>trivial) (fun _=>by kernel_rfl)
theorem C_q3q:Contract Tryz.prog 163 S_q3q:=C_q3q_raw 0
theorem C_q32q_raw (N:Nat):Contract Tryz.prog 126 ⟨[(K_BPPZiqZSiSSiSSiq,false),(I,false),(I,false)],[.bool],true,F_q32q N⟩:=
  have E:Env Tryz.prog Γ_q32q:=env_ofV tab ⟨C_q3q,trivial⟩ trivial (w1_of (by kernel_rfl))
  con_of (body:=bodyOf Tryz.f126) (Pc:=[]) E rfl mixed Tryz.func126 (by kernel_rfl) (by kernel_rfl) (by kernel_rfl) (by kernel_rfl) (fun A hA=>trivial) (fun _=>by kernel_rfl)
theorem C_q32q:Contract Tryz.prog 126 S_q32q:=C_q32q_raw 0
theorem C_q26q_raw (N:Nat):ContractG Tryz.prog 64 (⟨[(K_PSiq,false),(I,false)],[K_BPPZiqZSiSSiSSiq],true,F_q26q N⟩,md0):=
  have E:Env Tryz.prog Γ_q26q:=env_ofG tab ⟨C_q8q,⟨C_q54q,⟨C_q32q,trivial⟩⟩⟩ trivial (fun _ h=>by cases h) ⟨C_q23q,trivial⟩ (by kernel_rfl)
  con_ofG (body:=bodyOf Tryz.f64) (Pc:=[(0,⟨q26q_l0_h,q26q_l0_o,q26q_l0 N N⟩),(4,⟨q26q_l4_h,q26q_l4_o,q26q_l4 N N⟩)]) E mixed Tryz.func64 (by kernel_rfl) (by kernel_rfl) (by kernel_rfl) (by kernel_rfl) (fun A hA=>⟨pc_of (body:=loopOf Tryz.f64 0) (inner:=[(2,⟨q26q_l2_h,q26q_l2_o,q26q_l2 N N⟩)]) E mixed hA (by kernel_rfl) (by kernel_rfl) (by kernel_rfl) ⟨pc_of (body:=loopOf Tryz.f64 2) (inner:=[]) E mixed hA (by kernel_rfl) (by kernel_rfl) (by kernel_rfl) trivial (fun _=>rfl) (fun _ _=>by kernel_rfl) N,trivial⟩ (fun _=>rfl) (fun _ _=>by kernel_rfl) N,⟨pc_of (body:=loopOf Tryz.f64 4) (inner:=[(6,⟨q26q_l6_h,q26q_l6_o,q26q_l6 N N⟩),(10,⟨q26q_l10_h,q26q_l10_o,q26q_l10 N N⟩)]) E mixed hA (by kernel_rfl) (by kernel_rfl) (by kernel_rfl) ⟨pc_of (body:=loopOf Tryz.f64 6) (inner:=[(8,⟨q26q_l8_h,q26q_l8_o,q26q_l8 N N⟩)]) E mixed hA (by kernel_rfl) (by kernel_rfl) (by kernel_rfl) ⟨pc_of (body:=loopOf Tryz.f64 8) (inner:=[]) E mixed hA (by kernel_rfl) (by kernel_rfl) (by kernel_rfl) trivial (fun _=>rfl) (fun _ _=>by kernel_rfl) N,trivial⟩ (fun _=>rfl) (fun _ _=>by kernel_rfl) N,⟨pc_of (body:=loopOf Tryz.f64 10) (inner:=[]) E mixed hA (by kernel_rfl) (by kernel_rfl) (by kernel_rfl) trivial (fun _=>rfl) (fun _ _=>by kernel_rfl) N,trivial⟩⟩ (fun _=>rfl) (fun _ _=>by kernel_rfl) N,trivial⟩⟩) (fun _=>by kernel_rfl)
theorem C_q26q:ContractG Tryz.prog 64 (S_q26q,md0):=ContractG.less (fun N:Nat=>F_q26q N) C_q26q_raw copGame_lim
theorem C_q15q_raw (N:Nat):Contract Tryz.prog 127 ⟨[(K_Si,false)],[I],true,F_q15q N⟩:=
  have E:Env Tryz.prog Γ_q15q:=env_of tab trivial
  con_of (body:=bodyOf Tryz.f127) (Pc:=[(0,⟨q15q_l0_h,q15q_l0_o,q15q_l0 N N⟩)]) E rfl mixed Tryz.func127 (by kernel_rfl) (by kernel_rfl) (by kernel_rfl) (by kernel_rfl) (fun A hA=>⟨pc_of (body:=loopOf Tryz.f127 0) (inner:=[]) E mixed hA (by kernel_rfl) (by kernel_rfl) (by kernel_rfl) trivial (fun _=>rfl) (fun _ _=>by kernel_rfl) N,trivial⟩) (fun _=>by kernel_rfl)
theorem C_q15q:Contract Tryz.prog 127 S_q15q:=Contract.less (fun N:Nat=>F_q15q N) C_q15q_raw max_lim
theorem C_q22q_raw (N:Nat):Contract Tryz.prog 65 ⟨[(K_BPPZiqZSiSSiSSiq,false)],[K_Si,I,.bool],true,F_q22q N⟩:=
  have E:Env Tryz.prog Γ_q22q:=env_of tab ⟨C_q6q,⟨C_q11q,⟨C_q15q,trivial⟩⟩⟩
  con_of (body:=bodyOf Tryz.f65) (Pc:=[(0,⟨q22q_l0_h,q22q_l0_o,q22q_l0 N N⟩)]) E rfl mixed Tryz.func65 (by kernel_rfl) (by kernel_rfl) (by kernel_rfl) (by kernel_rfl) (fun A hA=>⟨pc_of (body:=loopOf Tryz.f65 0) (inner:=[]) E mixed hA (by kernel_rfl) (by kernel_rfl) (by kernel_rfl) trivial (fun _=>rfl) (fun _ _=>by kernel_rfl) N,trivial⟩) (fun _=>by kernel_rfl)
theorem C_q22q:Contract Tryz.prog 65 S_q22q:=Contract.less (fun N:Nat=>F_q22q N) C_q22q_raw gameBest_lim
theorem C_q40q_raw (N:Nat):Contract Tryz.prog 18 ⟨[(K_PiSPiiqq,false)],[I,.bool],true,F_q40q N⟩:=
  have E:Env Tryz.prog Γ_q40q:=env_ofG tab ⟨C_q41q,⟨C_impl_netOf,⟨C_q22q,trivial⟩⟩⟩ trivial (fun _ h=>by cases h) ⟨C_q26q,trivial⟩ (by kernel_rfl)
  con_of (body:=bodyOf Tryz.f18) (Pc:=[(0,⟨q40q_l0_h,q40q_l0_o,q40q_l0 N N⟩)]) E rfl mixed Tryz.func18 (by kernel_rfl) (by kernel_rfl) (by kernel_rfl) (by kernel_rfl) (fun A hA=>⟨pc_of (body:=loopOf Tryz.f18 0) (inner:=[]) E mixed hA (by kernel_rfl) (by kernel_rfl) (by kernel_rfl) trivial (fun _=>rfl) (fun _ _=>by kernel_rfl) N,trivial⟩) (fun _=>by kernel_rfl)
theorem C_q40q:Contract Tryz.prog 18 S_q40q:=Contract.less (fun N:Nat=>F_q40q N) C_q40q_raw implCN_lim
theorem C_spec_l1In_raw (N:Nat):Contract Tryz.prog 104 ⟨[(I,false),(I,false),(I,false)],[.bool],true,F_spec_l1In N⟩:=
  have E:Env Tryz.prog Γ_spec_l1In:=env_of tab trivial
  con_of (body:=bodyOf Tryz.f104) (Pc:=[]) E rfl mixed Tryz.func104 (by kernel_rfl) (by kernel_rfl) (by kernel_rfl) (by kernel_rfl) (fun A hA=>trivial) (fun _=>by kernel_rfl)
theorem C_spec_l1In:Contract Tryz.prog 104 S_spec_l1In:=Contract.less (fun N:Nat=>F_spec_l1In N) C_spec_l1In_raw (fun d r h=>⟨0,(F_spec_l1In_tot 0 d).trans h⟩)
theorem C_q76q_raw (N:Nat):Contract Tryz.prog 70 ⟨[(K_PiSPiiqq,false)],[.bool],true,F_q76q N⟩:=
  have E:Env Tryz.prog Γ_q76q:=env_of tab ⟨C_spec_l1In,⟨C_q49q,trivial⟩⟩
  con_of (body:=bodyOf Tryz.f70) (Pc:=[(0,⟨q76q_l0_h,q76q_l0_o,q76q_l0 N N⟩)]) E rfl mixed Tryz.func70 (by kernel_rfl) (by kernel_rfl) (by kernel_rfl) (by kernel_rfl) (fun A hA=>⟨pc_of (body:=loopOf Tryz.f70 0) (inner:=[]) E mixed hA (by kernel_rfl) (by kernel_rfl) (by kernel_rfl) trivial (fun _=>rfl) (fun _ _=>by kernel_rfl) N,trivial⟩) (fun _=>by kernel_rfl)
theorem C_q76q:Contract Tryz.prog 70 S_q76q:=Contract.less (fun N:Nat=>F_q76q N) C_q76q_raw l2Good_lim
theorem C_q63q_raw (N:Nat):Contract Tryz.prog 50 ⟨[(K_PiSPiiqq,false),(I,false)],[.bool],true,F_q63q N⟩:=
  have E:Env Tryz.prog Γ_q63q:=env_of tab ⟨C_q76q,⟨C_spec_l1In,trivial⟩⟩
  con_of (body:=bodyOf Tryz.f50) (Pc:=[]) E rfl mixed Tryz.func50 (by kernel_rfl) (by kernel_rfl) (by kernel_rfl) (by kernel_rfl) (fun A hA=>trivial) (fun _=>by kernel_rfl)
theorem C_q63q:Contract Tryz.prog 50 S_q63q:=C_q63q_raw 0
theorem C_spec_l1Own_raw (N:Nat):Contract Tryz.prog 76 ⟨[(K_Si,false)],[K_Si],true,F_spec_l1Own N⟩:=
  have E:Env Tryz.prog Γ_spec_l1Own:=env_of tab trivial
  con_of (body:=bodyOf Tryz.f76) (Pc:=[]) E rfl mixed Tryz.func76 (by kernel_rfl) (by kernel_rfl) (by kernel_rfl) (by kernel_rfl) (fun A hA=>trivial) (fun _=>by kernel_rfl)
theorem C_spec_l1Own:Contract Tryz.prog 76 S_spec_l1Own:=C_spec_l1Own_raw 0
theorem C_q45q_raw (N:Nat):Contract Tryz.prog 134 ⟨[(I,false),(I,false)],[K_SSi],true,F_q45q N⟩:=
  have E:Env Tryz.prog Γ_q45q:=env_of tab ⟨C_spec_l1Own,trivial⟩
  con_of (body:=bodyOf Tryz.f134) (Pc:=[(0,⟨q45q_l0_h,q45q_l0_o,q45q_l0 N N⟩)]) E rfl mixed Tryz.func134 (by kernel_rfl) (by kernel_rfl) (by kernel_rfl) (by kernel_rfl) (fun A hA=>⟨pc_of (body:=loopOf Tryz.f134 0) (inner:=[(2,⟨q45q_l2_h,q45q_l2_o,q45q_l2 N N⟩)]) E mixed hA (by kernel_rfl) (by kernel_rfl) (by kernel_rfl) ⟨pc_of (body:=loopOf Tryz.f134 2) (inner:=[(4,⟨q45q_l4_h,q45q_l4_o,q45q_l4 N N⟩)]) E mixed hA (by kernel_rfl) (by kernel_rfl) (by kernel_rfl) ⟨pc_of (body:=loopOf Tryz.f134 4) (inner:=[]) E mixed hA (by kernel_rfl) (by kernel_rfl) (by kernel_rfl) trivial (fun _=>rfl) (fun _ _=>by kernel_rfl) N,trivial⟩ (fun _=>rfl) (fun _ _=>by kernel_rfl) N,trivial⟩ (fun _=>rfl) (fun _ _=>by kernel_rfl) N,trivial⟩) (fun _=>by kernel_rfl)
theorem C_q45q:Contract Tryz.prog 134 S_q45q:=Contract.less (fun N:Nat=>F_q45q N) C_q45q_raw l4Configs_lim
theorem C_q29q_raw (N:Nat):Contract Tryz.prog 173 ⟨[(K_PiSPiiqq,false),(I,false)],[K_Si],true,F_q29q N⟩:=
  have E:Env Tryz.prog Γ_q29q:=env_of tab ⟨C_q71q,trivial⟩
  con_of (body:=bodyOf Tryz.f173) (Pc:=[(0,⟨q29q_l0_h,q29q_l0_o,q29q_l0 N N⟩)]) E rfl mixed Tryz.func173 (by kernel_rfl) (by kernel_rfl) (by kernel_rfl) (by kernel_rfl) (fun A hA=>⟨pc_of (body:=loopOf Tryz.f173 0) (inner:=[]) E mixed hA (by kernel_rfl) (by kernel_rfl) (by kernel_rfl) trivial (fun _=>rfl) (fun _ _=>by kernel_rfl) N,trivial⟩) (fun _=>by kernel_rfl)
theorem C_q29q:Contract Tryz.prog 173 S_q29q:=Contract.less (fun N:Nat=>F_q29q N) C_q29q_raw l2Neighbors_lim
theorem C_spec_l1Put_raw (N:Nat):Contract Tryz.prog 159 ⟨[(K_Si,false),(I,false)],[K_Si],false,F_spec_l1Put N⟩:=
  have E:Env Tryz.prog Γ_spec_l1Put:=env_of tab trivial
  con_of (body:=bodyOf Tryz.f159) (Pc:=[(0,⟨spec_l1Put_l0_h,spec_l1Put_l0_o,spec_l1Put_l0 N N⟩)]) E rfl mixed Tryz.func159 (by kernel_rfl) (by kernel_rfl) (by kernel_rfl) (by kernel_rfl) (fun A hA=>⟨pc_of (body:=loopOf Tryz.f159 0) (inner:=[]) E mixed hA (by kernel_rfl) (by kernel_rfl) (by kernel_rfl) trivial (fun _=>rfl) (fun _ _=>by kernel_rfl) N,trivial⟩) (fun _=>by kernel_rfl)
theorem C_spec_l1Put:Contract Tryz.prog 159 S_spec_l1Put:=Contract.less (fun N:Nat=>F_spec_l1Put N) C_spec_l1Put_raw l1Put_lim
theorem C_q58q_raw (N:Nat):ContractG Tryz.prog 159 (⟨[(K_Si,true),(I,false)],[K_Si],true,F_q58q N⟩,{ gone:=[0],deep:=[] }):=
  have E:Env Tryz.prog Γ_q58q:=env_ofG tab trivial trivial (fun _ h=>by cases h) trivial (by kernel_rfl)
  con_ofG (body:=bodyOf Tryz.f159) (Pc:=[(0,⟨q58q_l0_h,q58q_l0_o,q58q_l0 N N⟩)]) E mixed Tryz.func159 (by kernel_rfl) (by kernel_rfl) (by kernel_rfl) (by kernel_rfl) (fun A hA=>⟨pc_of (body:=loopOf Tryz.f159 0) (inner:=[]) E mixed hA (by kernel_rfl) (by kernel_rfl) (by kernel_rfl) trivial (fun _=>rfl) (fun _ _=>by kernel_rfl) N,trivial⟩) (fun _=>by kernel_rfl)
theorem C_q58q:ContractG Tryz.prog 159 (S_q58q,{ gone:=[0],deep:=[] }):=ContractG.less (fun N:Nat=>F_q58q N) C_q58q_raw l1PutW_lim
theorem C_q70q_raw (N:Nat):Contract Tryz.prog 137 ⟨[(K_PiSPiiqq,false),(I,false)],[K_Si],true,F_q70q N⟩:=
  have E:Env Tryz.prog Γ_q70q:=env_ofG tab ⟨C_q29q,trivial⟩ trivial (fun _ h=>by cases h) ⟨C_q58q,trivial⟩ (by kernel_rfl)
  con_of (body:=bodyOf Tryz.f137) (Pc:=[]) E rfl mixed Tryz.func137 (by kernel_rfl) (by kernel_rfl) (by kernel_rfl) (by kernel_rfl) (fun A hA=>trivial) (fun _=>by kernel_rfl)
theorem C_q70q:Contract Tryz.prog 137 S_q70q:=C_q70q_raw 0
theorem C_q55q_raw (N:Nat):Contract Tryz.prog 171 ⟨[(K_Si,false)],[K_Si],false,F_q55q N⟩:=
  have E:Env Tryz.prog Γ_q55q:=env_ofV tab trivial trivial (fun _ h=>by cases h)
  con_of (body:=bodyOf Tryz.f171) (Pc:=[(0,⟨q55q_l0_h,q55q_l0_o,q55q_l0 N N⟩)]) E rfl mixed Tryz.func171 (by kernel_rfl) (by kernel_rfl) (by kernel_rfl) (by kernel_rfl) (fun A hA=>⟨pc_of (body:=loopOf Tryz.f171 0) (inner:=[(2,⟨q55q_l2_h,q55q_l2_o,q55q_l2 N N⟩)]) E mixed hA (by kernel_rfl) (by kernel_rfl) (by kernel_rfl) ⟨pc_of (body:=loopOf Tryz.f171 2) (inner:=[]) E mixed hA (by kernel_rfl) (by kernel_rfl) (by kernel_rfl) trivial (fun _=>rfl) (fun _ _=>by kernel_rfl) N,trivial⟩ (fun _=>rfl) (fun _ _=>by kernel_rfl) N,trivial⟩) (fun _=>by kernel_rfl)
theorem C_q55q:Contract Tryz.prog 171 S_q55q:=Contract.less (fun N:Nat=>F_q55q N) C_q55q_raw l4Sorted_lim
theorem C_q67q_raw (N:Nat):Contract Tryz.prog 189 ⟨[(K_Si,false),(K_Si,false)],[.bool],true,F_q67q N⟩:=
  have E:Env Tryz.prog Γ_q67q:=env_of tab trivial
  con_of (body:=bodyOf Tryz.f189) (Pc:=[(0,⟨q67q_l0_h,q67q_l0_o,q67q_l0 N N⟩)]) E rfl mixed Tryz.func189 (by kernel_rfl) (by kernel_rfl) (by kernel_rfl) (by kernel_rfl) (fun A hA=>⟨pc_of (body:=loopOf Tryz.f189 0) (inner:=[]) E mixed hA (by kernel_rfl) (by kernel_rfl) (by kernel_rfl) trivial (fun _=>rfl) (fun _ _=>by kernel_rfl) N,trivial⟩) (fun _=>by kernel_rfl)
theorem C_q67q:Contract Tryz.prog 189 S_q67q:=Contract.less (fun N:Nat=>F_q67q N) C_q67q_raw l4Less_lim
theorem C_q75q_raw (N:Nat):Contract Tryz.prog 172 ⟨[(K_Si,false),(K_Si,false)],[.bool],true,F_q75q N⟩:=
  have E:Env Tryz.prog Γ_q75q:=env_of tab trivial
  con_of (body:=bodyOf Tryz.f172) (Pc:=[(0,⟨q75q_l0_h,q75q_l0_o,q75q_l0 N N⟩)]) E rfl mixed Tryz.func172 (by kernel_rfl) (by kernel_rfl) (by kernel_rfl) (by kernel_rfl) (fun A hA=>⟨pc_of (body:=loopOf Tryz.f172 0) (inner:=[]) E mixed hA (by kernel_rfl) (by kernel_rfl) (by kernel_rfl) trivial (fun _=>rfl) (fun _ _=>by kernel_rfl) N,trivial⟩) (fun _=>by kernel_rfl)
theorem C_q75q:Contract Tryz.prog 172 S_q75q:=Contract.less (fun N:Nat=>F_q75q N) C_q75q_raw l1Same_lim
theorem C_spec_l4Put_raw (N:Nat):Contract Tryz.prog 170 ⟨[(K_SSi,false),(K_Si,false)],[K_SSi],false,F_spec_l4Put N⟩:=
  have E:Env Tryz.prog Γ_spec_l4Put:=env_of tab ⟨C_q75q,⟨C_q67q,trivial⟩⟩
  con_of (body:=bodyOf Tryz.f170) (Pc:=[(0,⟨spec_l4Put_l0_h,spec_l4Put_l0_o,spec_l4Put_l0 N N⟩)]) E rfl mixed Tryz.func170 (by kernel_rfl) (by kernel_rfl) (by kernel_rfl) (by kernel_rfl) (fun A hA=>⟨pc_of (body:=loopOf Tryz.f170 0) (inner:=[]) E mixed hA (by kernel_rfl) (by kernel_rfl) (by kernel_rfl) trivial (fun _=>rfl) (fun _ _=>by kernel_rfl) N,trivial⟩) (fun _=>by kernel_rfl)
theorem C_spec_l4Put:Contract Tryz.prog 170 S_spec_l4Put:=Contract.less (fun N:Nat=>F_spec_l4Put N) C_spec_l4Put_raw l4Put_lim
theorem C_q65q_raw (N:Nat):Contract Tryz.prog 135 ⟨[(K_PiSPiiqq,false),(K_Si,false)],[K_SSi],false,F_q65q N⟩:=
  have E:Env Tryz.prog Γ_q65q:=env_ofV tab ⟨C_spec_l1Own,⟨C_q70q,⟨C_spec_l4Put,⟨C_q55q,trivial⟩⟩⟩⟩ trivial (fun _ h=>by cases h)
  con_of (body:=bodyOf Tryz.f135) (Pc:=[(0,⟨q65q_l0_h,q65q_l0_o,q65q_l0 N N⟩),(6,⟨q65q_l6_h,q65q_l6_o,q65q_l6 N N⟩)]) E rfl mixed Tryz.func135 (by kernel_rfl) (by kernel_rfl) (by kernel_rfl) (by kernel_rfl) (fun A hA=>⟨pc_of (body:=loopOf Tryz.f135 0) (inner:=[(2,⟨q65q_l2_h,q65q_l2_o,q65q_l2 N N⟩)]) E mixed hA (by kernel_rfl) (by kernel_rfl) (by kernel_rfl) ⟨pc_of (body:=loopOf Tryz.f135 2) (inner:=[(4,⟨q65q_l4_h,q65q_l4_o,q65q_l4 N N⟩)]) E mixed hA (by kernel_rfl) (by kernel_rfl) (by kernel_rfl) ⟨pc_of (body:=loopOf Tryz.f135 4) (inner:=[]) E mixed hA (by kernel_rfl) (by kernel_rfl) (by kernel_rfl) trivial (fun _=>rfl) (fun _ _=>by kernel_rfl) N,trivial⟩ (fun _=>rfl) (fun _ _=>by kernel_rfl) N,trivial⟩ (fun _=>rfl) (fun _ _=>by kernel_rfl) N,⟨pc_of (body:=loopOf Tryz.f135 6) (inner:=[]) E mixed hA (by kernel_rfl) (by kernel_rfl) (by kernel_rfl) trivial (fun _=>rfl) (fun _ _=>by kernel_rfl) N,trivial⟩⟩) (fun _=>by kernel_rfl)
theorem C_q65q:Contract Tryz.prog 135 S_q65q:=Contract.less (fun N:Nat=>F_q65q N) C_q65q_raw l4Moves_lim
theorem C_spec_l4At_raw (N:Nat):Contract Tryz.prog 136 ⟨[(K_SSi,false),(K_Si,false)],[I],true,F_spec_l4At N⟩:=
  have E:Env Tryz.prog Γ_spec_l4At:=env_of tab ⟨C_q75q,trivial⟩
  con_of (body:=bodyOf Tryz.f136) (Pc:=[(0,⟨spec_l4At_l0_h,spec_l4At_l0_o,spec_l4At_l0 N N⟩)]) E rfl mixed Tryz.func136 (by kernel_rfl) (by kernel_rfl) (by kernel_rfl) (by kernel_rfl) (fun A hA=>⟨pc_of (body:=loopOf Tryz.f136 0) (inner:=[]) E mixed hA (by kernel_rfl) (by kernel_rfl) (by kernel_rfl) trivial (fun _=>rfl) (fun _ _=>by kernel_rfl) N,trivial⟩) (fun _=>by kernel_rfl)
theorem C_spec_l4At:Contract Tryz.prog 136 S_spec_l4At:=Contract.less (fun N:Nat=>F_spec_l4At N) C_spec_l4At_raw l4At_lim
theorem C_q73q_raw (N:Nat):Contract Tryz.prog 73 ⟨[(K_PiSPiiqq,false),(I,false)],[K_PZSiSSiSSiq],false,F_q73q N⟩:=
  have E:Env Tryz.prog Γ_q73q:=env_ofG tab ⟨C_q45q,⟨C_q65q,⟨C_spec_l4At,⟨C_q70q,trivial⟩⟩⟩⟩ trivial (fun _ h=>by cases h) trivial (by kernel_rfl)
  con_of (body:=bodyOf Tryz.f73) (Pc:=[(0,⟨q73q_l0_h,q73q_l0_o,q73q_l0 N N⟩),(4,⟨q73q_l4_h,q73q_l4_o,q73q_l4 N N⟩)]) E rfl mixed Tryz.func73 (by kernel_rfl) (by kernel_rfl) (by kernel_rfl) (by kernel_rfl) (fun A hA=>⟨pc_of (body:=loopOf Tryz.f73 0) (inner:=[(2,⟨q73q_l2_h,q73q_l2_o,q73q_l2 N N⟩)]) E mixed hA (by kernel_rfl) (by kernel_rfl) (by kernel_rfl) ⟨pc_of (body:=loopOf Tryz.f73 2) (inner:=[]) E mixed hA (by kernel_rfl) (by kernel_rfl) (by kernel_rfl) trivial (fun _=>rfl) (fun _ _=>by kernel_rfl) N,trivial⟩ (fun _=>rfl) (fun _ _=>by kernel_rfl) N,⟨pc_of (body:=loopOf Tryz.f73 4) (inner:=[]) E mixed hA (by kernel_rfl) (by kernel_rfl) (by kernel_rfl) trivial (fun _=>rfl) (fun _ _=>by kernel_rfl) N,trivial⟩⟩) (fun _=>by kernel_rfl)
theorem C_q73q:Contract Tryz.prog 73 S_q73q:=Contract.less (fun N:Nat=>F_q73q N) C_q73q_raw l4Make_lim
theorem C_spec_l1Has_raw (N:Nat):Contract Tryz.prog 138 ⟨[(K_Si,false),(I,false)],[.bool],true,F_spec_l1Has N⟩:=
  have E:Env Tryz.prog Γ_spec_l1Has:=env_of tab trivial
  con_of (body:=bodyOf Tryz.f138) (Pc:=[(0,⟨spec_l1Has_l0_h,spec_l1Has_l0_o,spec_l1Has_l0 N N⟩)]) E rfl mixed Tryz.func138 (by kernel_rfl) (by kernel_rfl) (by kernel_rfl) (by kernel_rfl) (fun A hA=>⟨pc_of (body:=loopOf Tryz.f138 0) (inner:=[]) E mixed hA (by kernel_rfl) (by kernel_rfl) (by kernel_rfl) trivial (fun _=>rfl) (fun _ _=>by kernel_rfl) N,trivial⟩) (fun _=>by kernel_rfl)
theorem C_spec_l1Has:Contract Tryz.prog 138 S_spec_l1Has:=Contract.less (fun N:Nat=>F_spec_l1Has N) C_spec_l1Has_raw l1Has_lim
theorem C_q66q_raw (N:Nat):Contract Tryz.prog 139 ⟨[(K_PZSiSSiSSiq,false),(K_SSi,false),(I,false),(I,false)],[I],true,F_q66q N⟩:=
  have E:Env Tryz.prog Γ_q66q:=env_of tab ⟨C_q68q,⟨C_spec_l1Has,trivial⟩⟩
  con_of (body:=bodyOf Tryz.f139) (Pc:=[(0,⟨q66q_l0_h,q66q_l0_o,q66q_l0 N N⟩)]) E rfl mixed Tryz.func139 (by kernel_rfl) (by kernel_rfl) (by kernel_rfl) (by kernel_rfl) (fun A hA=>⟨pc_of (body:=loopOf Tryz.f139 0) (inner:=[]) E mixed hA (by kernel_rfl) (by kernel_rfl) (by kernel_rfl) trivial (fun _=>rfl) (fun _ _=>by kernel_rfl) N,trivial⟩) (fun _=>by kernel_rfl)
theorem C_q66q:Contract Tryz.prog 139 S_q66q:=Contract.less (fun N:Nat=>F_q66q N) C_q66q_raw l4After_lim
theorem C_q64q_raw (N:Nat):Contract Tryz.prog 74 ⟨[(K_PZSiSSiSSiq,false)],[K_SSi],true,F_q64q N⟩:=
  have E:Env Tryz.prog Γ_q64q:=env_of tab ⟨C_spec_l1Own,⟨C_spec_l1Has,⟨C_q66q,trivial⟩⟩⟩
  con_of (body:=bodyOf Tryz.f74) (Pc:=[(0,⟨q64q_l0_h,q64q_l0_o,q64q_l0 N N⟩),(4,⟨q64q_l4_h,q64q_l4_o,q64q_l4 N N⟩)]) E rfl mixed Tryz.func74 (by kernel_rfl) (by kernel_rfl) (by kernel_rfl) (by kernel_rfl) (fun A hA=>⟨pc_of (body:=loopOf Tryz.f74 0) (inner:=[(2,⟨q64q_l2_h,q64q_l2_o,q64q_l2 N N⟩)]) E mixed hA (by kernel_rfl) (by kernel_rfl) (by kernel_rfl) ⟨pc_of (body:=loopOf Tryz.f74 2) (inner:=[]) E mixed hA (by kernel_rfl) (by kernel_rfl) (by kernel_rfl) trivial (fun _=>rfl) (fun _ _=>by kernel_rfl) N,trivial⟩ (fun _=>rfl) (fun _ _=>by kernel_rfl) N,⟨pc_of (body:=loopOf Tryz.f74 4) (inner:=[(6,⟨q64q_l6_h,q64q_l6_o,q64q_l6 N N⟩)]) E mixed hA (by kernel_rfl) (by kernel_rfl) (by kernel_rfl) ⟨pc_of (body:=loopOf Tryz.f74 6) (inner:=[(8,⟨q64q_l8_h,q64q_l8_o,q64q_l8 N N⟩)]) E mixed hA (by kernel_rfl) (by kernel_rfl) (by kernel_rfl) ⟨pc_of (body:=loopOf Tryz.f74 8) (inner:=[(10,⟨q64q_l10_h,q64q_l10_o,q64q_l10 N N⟩)]) E mixed hA (by kernel_rfl) (by kernel_rfl) (by kernel_rfl) ⟨pc_of (body:=loopOf Tryz.f74 10) (inner:=[]) E mixed hA (by kernel_rfl) (by kernel_rfl) (by kernel_rfl) trivial (fun _=>rfl) (fun _ _=>by kernel_rfl) N,trivial⟩ (fun _=>rfl) (fun _ _=>by kernel_rfl) N,trivial⟩ (fun _=>rfl) (fun _ _=>by kernel_rfl) N,trivial⟩ (fun _=>rfl) (fun _ _=>by kernel_rfl) N,trivial⟩⟩) (fun _=>by kernel_rfl)
theorem C_q64q:Contract Tryz.prog 74 S_q64q:=Contract.less (fun N:Nat=>F_q64q N) C_q64q_raw l4Times_lim
theorem C_q56q_raw (N:Nat):Contract Tryz.prog 75 ⟨[(K_Si,false)],[I],true,F_q56q N⟩:=
  have E:Env Tryz.prog Γ_q56q:=env_of tab ⟨C_q68q,trivial⟩
  con_of (body:=bodyOf Tryz.f75) (Pc:=[(0,⟨q56q_l0_h,q56q_l0_o,q56q_l0 N N⟩)]) E rfl mixed Tryz.func75 (by kernel_rfl) (by kernel_rfl) (by kernel_rfl) (by kernel_rfl) (fun A hA=>⟨pc_of (body:=loopOf Tryz.f75 0) (inner:=[]) E mixed hA (by kernel_rfl) (by kernel_rfl) (by kernel_rfl) trivial (fun _=>rfl) (fun _ _=>by kernel_rfl) N,trivial⟩) (fun _=>by kernel_rfl)
theorem C_q56q:Contract Tryz.prog 75 S_q56q:=Contract.less (fun N:Nat=>F_q56q N) C_q56q_raw l4Worst_lim
theorem C_q69q_raw (N:Nat):Contract Tryz.prog 66 ⟨[(K_PiSPiiqq,false),(I,false)],[.bool],true,F_q69q N⟩:=
  have E:Env Tryz.prog Γ_q69q:=env_of tab ⟨C_q73q,⟨C_q64q,⟨C_q56q,trivial⟩⟩⟩
  con_of (body:=bodyOf Tryz.f66) (Pc:=[(0,⟨q69q_l0_h,q69q_l0_o,q69q_l0 N N⟩)]) E rfl mixed Tryz.func66 (by kernel_rfl) (by kernel_rfl) (by kernel_rfl) (by kernel_rfl) (fun A hA=>⟨pc_of (body:=loopOf Tryz.f66 0) (inner:=[]) E mixed hA (by kernel_rfl) (by kernel_rfl) (by kernel_rfl) trivial (fun _=>rfl) (fun _ _=>by kernel_rfl) N,trivial⟩) (fun _=>by kernel_rfl)
theorem C_q69q:Contract Tryz.prog 66 S_q69q:=Contract.less (fun N:Nat=>F_q69q N) C_q69q_raw l4Wins_lim
theorem C_q44q_raw (N:Nat):Contract Tryz.prog 19 ⟨[(K_PiSPiiqq,false)],[I,.bool],true,F_q44q N⟩:=
  have E:Env Tryz.prog Γ_q44q:=env_of tab ⟨C_q63q,⟨C_q69q,trivial⟩⟩
  con_of (body:=bodyOf Tryz.f19) (Pc:=[(0,⟨q44q_l0_h,q44q_l0_o,q44q_l0 N N⟩)]) E rfl mixed Tryz.func19 (by kernel_rfl) (by kernel_rfl) (by kernel_rfl) (by kernel_rfl) (fun A hA=>⟨pc_of (body:=loopOf Tryz.f19 0) (inner:=[]) E mixed hA (by kernel_rfl) (by kernel_rfl) (by kernel_rfl) trivial (fun _=>rfl) (fun _ _=>by kernel_rfl) N,trivial⟩) (fun _=>by kernel_rfl)
theorem C_q44q:Contract Tryz.prog 19 S_q44q:=Contract.less (fun N:Nat=>F_q44q N) C_q44q_raw specCN_lim
theorem C_q46q_raw (N:Nat):Contract Tryz.prog 168 ⟨[(K_PSiq,false),(I,false)],[I],true,F_q46q N⟩:=
  have E:Env Tryz.prog Γ_q46q:=env_of tab ⟨C_impl_setOf,trivial⟩
  con_of (body:=bodyOf Tryz.f168) (Pc:=[(0,⟨q46q_l0_h,q46q_l0_o,q46q_l0 N N⟩)]) E rfl mixed Tryz.func168 (by kernel_rfl) (by kernel_rfl) (by kernel_rfl) (by kernel_rfl) (fun A hA=>⟨pc_of (body:=loopOf Tryz.f168 0) (inner:=[]) E mixed hA (by kernel_rfl) (by kernel_rfl) (by kernel_rfl) trivial (fun _=>rfl) (fun _ _=>by kernel_rfl) N,trivial⟩) (fun _=>by kernel_rfl)
theorem C_q46q:Contract Tryz.prog 168 S_q46q:=Contract.less (fun N:Nat=>F_q46q N) C_q46q_raw netFront_lim
theorem C_q9q_raw (N:Nat):Contract Tryz.prog 188 ⟨[((.int .u64),false)],[I],true,F_q9q N⟩:=
  have E:Env Tryz.prog Γ_q9q:=env_of tab trivial
  con_of (body:=bodyOf Tryz.f188) (Pc:=[]) E rfl mixed Tryz.func188 (by kernel_rfl) (by kernel_rfl) (by kernel_rfl) (by kernel_rfl) (fun A hA=>trivial) (fun _=>by kernel_rfl)
theorem C_q9q:Contract Tryz.prog 188 S_q9q:=C_q9q_raw 0
theorem C_q14q_raw (N:Nat):Contract Tryz.prog 167 ⟨[((.int .u64),false)],[I],true,F_q14q N⟩:=
  have E:Env Tryz.prog Γ_q14q:=env_of tab ⟨C_q9q,trivial⟩
  con_of (body:=bodyOf Tryz.f167) (Pc:=[]) E rfl mixed Tryz.func167 (by kernel_rfl) (by kernel_rfl) (by kernel_rfl) (by kernel_rfl) (fun A hA=>trivial) (fun _=>by kernel_rfl)
theorem C_q14q:Contract Tryz.prog 167 S_q14q:=C_q14q_raw 0
theorem C_q17q_raw (N:Nat):Contract Tryz.prog 130 ⟨[(K_PSiq,false),(I,false),(I,false)],[I],true,F_q17q N⟩:=
  have E:Env Tryz.prog Γ_q17q:=env_of tab ⟨C_q14q,⟨C_q46q,trivial⟩⟩
  con_of (body:=bodyOf Tryz.f130) (Pc:=[]) E rfl mixed Tryz.func130 (by kernel_rfl) (by kernel_rfl) (by kernel_rfl) (by kernel_rfl) (fun A hA=>trivial) (fun _=>by kernel_rfl)
theorem C_q17q:Contract Tryz.prog 130 S_q17q:=C_q17q_raw 0
theorem C_q62q_raw (N:Nat):Contract Tryz.prog 97 ⟨[(K_PSiq,false)],[I],true,F_q62q N⟩:=
  have E:Env Tryz.prog Γ_q62q:=env_of tab trivial
  con_of (body:=bodyOf Tryz.f97) (Pc:=[]) E rfl mixed Tryz.func97 (by kernel_rfl) (by kernel_rfl) (by kernel_rfl) (by kernel_rfl) (fun A hA=>trivial) (fun _=>by kernel_rfl)
theorem C_q62q:Contract Tryz.prog 97 S_q62q:=C_q62q_raw 0
theorem CV_q17q:ContractV Tryz.prog SV_q17q:=conV_1_2_0 C_q17q
theorem C_q5q_raw (N:Nat):Contract Tryz.prog 129 ⟨[(K_PSiq,false),(I,false),(K_F_q17q_PPSiqqq,false)],[K_Si],true,F_q5q N⟩:=
  have E:Env Tryz.prog Γ_q5q:=env_ofV tab ⟨C_impl_setOf,⟨C_q62q,trivial⟩⟩ ⟨CV_q17q,trivial⟩ (fun _ h=>by cases h)
  con_of (body:=bodyOf Tryz.f129) (Pc:=[(0,⟨q5q_l0_h,q5q_l0_o,q5q_l0 N N⟩)]) E rfl mixed Tryz.func129 (by kernel_rfl) (by kernel_rfl) (by kernel_rfl) (by kernel_rfl) (fun A hA=>⟨pc_of (body:=loopOf Tryz.f129 0) (inner:=[(2,⟨q5q_l2_h,q5q_l2_o,q5q_l2 N N⟩)]) E mixed hA (by kernel_rfl) (by kernel_rfl) (by kernel_rfl) ⟨pc_of (body:=loopOf Tryz.f129 2) (inner:=[]) E mixed hA (by kernel_rfl) (by kernel_rfl) (by kernel_rfl) trivial (fun _=>rfl) (fun _ _=>by kernel_rfl) N,trivial⟩ (fun _=>rfl) (fun _ _=>by kernel_rfl) N,trivial⟩) (fun _=>by kernel_rfl)
theorem C_q5q:Contract Tryz.prog 129 S_q5q:=Contract.less (fun N:Nat=>F_q5q N) C_q5q_raw bestO_lim
theorem C_q18q_raw (N:Nat):Contract Tryz.prog 69 ⟨[(K_PSiq,false)],[I],true,F_q18q N⟩:=
  have E:Env Tryz.prog Γ_q18q:=env_of tab ⟨C_q5q,trivial⟩
  con_of (body:=bodyOf Tryz.f69) (Pc:=[]) E rfl mixed Tryz.func69 (by kernel_rfl) (by kernel_rfl) (by kernel_rfl) (by kernel_rfl) (fun A hA=>trivial) (fun _=>by kernel_rfl)
theorem C_q18q:Contract Tryz.prog 69 S_q18q:=C_q18q_raw 0
theorem C_q31q_raw (N:Nat):Contract Tryz.prog 21 ⟨[(K_PiSPiiqq,false)],[I,.bool],true,F_q31q N⟩:=
  have E:Env Tryz.prog Γ_q31q:=env_of tab ⟨C_q59q,⟨C_impl_netOf,⟨C_q18q,trivial⟩⟩⟩
  con_of (body:=bodyOf Tryz.f21) (Pc:=[]) E rfl mixed Tryz.func21 (by kernel_rfl) (by kernel_rfl) (by kernel_rfl) (by kernel_rfl) (fun A hA=>trivial) (fun _=>by kernel_rfl)
theorem C_q31q:Contract Tryz.prog 21 S_q31q:=C_q31q_raw 0
theorem C_q72q_raw (N:Nat):Contract Tryz.prog 98 ⟨[(I,false),(I,false)],[K_Si],true,F_q72q N⟩:=
  have E:Env Tryz.prog Γ_q72q:=env_of tab trivial
  con_of (body:=bodyOf Tryz.f98) (Pc:=[(0,⟨q72q_l0_h,q72q_l0_o,q72q_l0 N N⟩)]) E rfl mixed Tryz.func98 (by kernel_rfl) (by kernel_rfl) (by kernel_rfl) (by kernel_rfl) (fun A hA=>⟨pc_of (body:=loopOf Tryz.f98 0) (inner:=[]) E mixed hA (by kernel_rfl) (by kernel_rfl) (by kernel_rfl) trivial (fun _=>rfl) (fun _ _=>by kernel_rfl) N,trivial⟩) (fun _=>by kernel_rfl)
theorem C_q72q:Contract Tryz.prog 98 S_q72q:=Contract.less (fun N:Nat=>F_q72q N) C_q72q_raw l2Bits_lim
theorem C_q61q_raw (N:Nat):Contract Tryz.prog 169 ⟨[(K_PiSPiiqq,false),(K_Si,false)],[K_Si],false,F_q61q N⟩:=
  have E:Env Tryz.prog Γ_q61q:=env_ofV tab ⟨C_q71q,⟨C_spec_l1Has,⟨C_spec_l1Put,trivial⟩⟩⟩ trivial (fun _ h=>by cases h)
  con_of (body:=bodyOf Tryz.f169) (Pc:=[(0,⟨q61q_l0_h,q61q_l0_o,q61q_l0 N N⟩)]) E rfl mixed Tryz.func169 (by kernel_rfl) (by kernel_rfl) (by kernel_rfl) (by kernel_rfl) (fun A hA=>⟨pc_of (body:=loopOf Tryz.f169 0) (inner:=[(2,⟨q61q_l2_h,q61q_l2_o,q61q_l2 N N⟩)]) E mixed hA (by kernel_rfl) (by kernel_rfl) (by kernel_rfl) ⟨pc_of (body:=loopOf Tryz.f169 2) (inner:=[]) E mixed hA (by kernel_rfl) (by kernel_rfl) (by kernel_rfl) trivial (fun _=>rfl) (fun _ _=>by kernel_rfl) N,trivial⟩ (fun _=>rfl) (fun _ _=>by kernel_rfl) N,trivial⟩) (fun _=>by kernel_rfl)
theorem C_q61q:Contract Tryz.prog 169 S_q61q:=Contract.less (fun N:Nat=>F_q61q N) C_q61q_raw l6Front_lim
theorem C_q51q_raw (N:Nat):Contract Tryz.prog 132 ⟨[(K_PiSPiiqq,false)],[K_Si],true,F_q51q N⟩:=
  have E:Env Tryz.prog Γ_q51q:=env_of tab ⟨C_q72q,⟨C_q68q,⟨C_q61q,trivial⟩⟩⟩
  con_of (body:=bodyOf Tryz.f132) (Pc:=[(0,⟨q51q_l0_h,q51q_l0_o,q51q_l0 N N⟩)]) E rfl mixed Tryz.func132 (by kernel_rfl) (by kernel_rfl) (by kernel_rfl) (by kernel_rfl) (fun A hA=>⟨pc_of (body:=loopOf Tryz.f132 0) (inner:=[(2,⟨q51q_l2_h,q51q_l2_o,q51q_l2 N N⟩)]) E mixed hA (by kernel_rfl) (by kernel_rfl) (by kernel_rfl) ⟨pc_of (body:=loopOf Tryz.f132 2) (inner:=[]) E mixed hA (by kernel_rfl) (by kernel_rfl) (by kernel_rfl) trivial (fun _=>rfl) (fun _ _=>by kernel_rfl) N,trivial⟩ (fun _=>rfl) (fun _ _=>by kernel_rfl) N,trivial⟩) (fun _=>by kernel_rfl)
theorem C_q51q:Contract Tryz.prog 132 S_q51q:=Contract.less (fun N:Nat=>F_q51q N) C_q51q_raw widths_lim
theorem C_q27q_raw (N:Nat):Contract Tryz.prog 71 ⟨[(K_PiSPiiqq,false)],[I],true,F_q27q N⟩:=
  have E:Env Tryz.prog Γ_q27q:=env_of tab ⟨C_q51q,trivial⟩
  con_of (body:=bodyOf Tryz.f71) (Pc:=[]) E rfl mixed Tryz.func71 (by kernel_rfl) (by kernel_rfl) (by kernel_rfl) (by kernel_rfl) (fun A hA=>trivial) (fun _=>by kernel_rfl)
theorem C_q27q:Contract Tryz.prog 71 S_q27q:=C_q27q_raw 0
theorem C_q33q_raw (N:Nat):Contract Tryz.prog 22 ⟨[(K_PiSPiiqq,false)],[I,.bool],true,F_q33q N⟩:=
  have E:Env Tryz.prog Γ_q33q:=env_of tab ⟨C_q76q,⟨C_q27q,trivial⟩⟩
  con_of (body:=bodyOf Tryz.f22) (Pc:=[]) E rfl mixed Tryz.func22 (by kernel_rfl) (by kernel_rfl) (by kernel_rfl) (by kernel_rfl) (fun A hA=>trivial) (fun _=>by kernel_rfl)
theorem C_q33q:Contract Tryz.prog 22 S_q33q:=C_q33q_raw 0
theorem C_q36q_raw (N:Nat):Contract Tryz.prog 133 ⟨[(K_PSiq,false),(I,false)],[I],true,F_q36q N⟩:=
  have E:Env Tryz.prog Γ_q36q:=env_of tab trivial
  con_of (body:=bodyOf Tryz.f133) (Pc:=[(0,⟨q36q_l0_h,q36q_l0_o,q36q_l0 N N⟩)]) E rfl mixed Tryz.func133 (by kernel_rfl) (by kernel_rfl) (by kernel_rfl) (by kernel_rfl) (fun A hA=>⟨pc_of (body:=loopOf Tryz.f133 0) (inner:=[]) E mixed hA (by kernel_rfl) (by kernel_rfl) (by kernel_rfl) trivial (fun _=>rfl) (fun _ _=>by kernel_rfl) N,trivial⟩) (fun _=>by kernel_rfl)
theorem C_q36q:Contract Tryz.prog 133 S_q36q:=Contract.less (fun N:Nat=>F_q36q N) C_q36q_raw around_lim
theorem C_q42q_raw (N:Nat):Contract Tryz.prog 72 ⟨[(K_PSiq,false),(I,false)],[K_Si],true,F_q42q N⟩:=
  have E:Env Tryz.prog Γ_q42q:=env_of tab ⟨C_q36q,trivial⟩
  con_of (body:=bodyOf Tryz.f72) (Pc:=[(0,⟨q42q_l0_h,q42q_l0_o,q42q_l0 N N⟩)]) E rfl mixed Tryz.func72 (by kernel_rfl) (by kernel_rfl) (by kernel_rfl) (by kernel_rfl) (fun A hA=>⟨pc_of (body:=loopOf Tryz.f72 0) (inner:=[(2,⟨q42q_l2_h,q42q_l2_o,q42q_l2 N N⟩)]) E mixed hA (by kernel_rfl) (by kernel_rfl) (by kernel_rfl) ⟨pc_of (body:=loopOf Tryz.f72 2) (inner:=[]) E mixed hA (by kernel_rfl) (by kernel_rfl) (by kernel_rfl) trivial (fun _=>rfl) (fun _ _=>by kernel_rfl) N,trivial⟩ (fun _=>rfl) (fun _ _=>by kernel_rfl) N,trivial⟩) (fun _=>by kernel_rfl)
theorem C_q42q:Contract Tryz.prog 72 S_q42q:=Contract.less (fun N:Nat=>F_q42q N) C_q42q_raw netParts_lim
theorem C_q28q_raw (N:Nat):Contract Tryz.prog 23 ⟨[(K_PiSPiiqq,false)],[.bool,.bool],true,F_q28q N⟩:=
  have E:Env Tryz.prog Γ_q28q:=env_of tab ⟨C_q59q,⟨C_impl_netOf,⟨C_q42q,trivial⟩⟩⟩
  con_of (body:=bodyOf Tryz.f23) (Pc:=[]) E rfl mixed Tryz.func23 (by kernel_rfl) (by kernel_rfl) (by kernel_rfl) (by kernel_rfl) (fun A hA=>trivial) (fun _=>by kernel_rfl)
theorem C_q28q:Contract Tryz.prog 23 S_q28q:=C_q28q_raw 0
theorem C_q52q_raw (N:Nat):Contract Tryz.prog 24 ⟨[(K_PiSPiiqq,false),(I,false)],[.bool,.bool],true,F_q52q N⟩:=
  have E:Env Tryz.prog Γ_q52q:=env_ofG tab ⟨C_q41q,⟨C_impl_netOf,⟨C_q22q,trivial⟩⟩⟩ trivial (fun _ h=>by cases h) ⟨C_q26q,trivial⟩ (by kernel_rfl)
  con_of (body:=bodyOf Tryz.f24) (Pc:=[]) E rfl mixed Tryz.func24 (by kernel_rfl) (by kernel_rfl) (by kernel_rfl) (by kernel_rfl) (fun A hA=>trivial) (fun _=>by kernel_rfl)
theorem C_q52q:Contract Tryz.prog 24 S_q52q:=C_q52q_raw 0
theorem C_q50q_raw (N:Nat):Contract Tryz.prog 25 ⟨[(K_PiSPiiqq,false),(I,false)],[K_Si,I,.bool],true,F_q50q N⟩:=
  have E:Env Tryz.prog Γ_q50q:=env_ofG tab ⟨C_q41q,⟨C_impl_netOf,⟨C_q22q,trivial⟩⟩⟩ trivial (fun _ h=>by cases h) ⟨C_q26q,trivial⟩ (by kernel_rfl)
  con_of (body:=bodyOf Tryz.f25) (Pc:=[]) E rfl mixed Tryz.func25 (by kernel_rfl) (by kernel_rfl) (by kernel_rfl) (by kernel_rfl) (fun A hA=>trivial) (fun _=>by kernel_rfl)
theorem C_q50q:Contract Tryz.prog 25 S_q50q:=C_q50q_raw 0
theorem C_q48q_raw (N:Nat):Contract Tryz.prog 26 ⟨[(K_PiSPiiqq,false),(I,false)],[K_Si,I,.bool],true,F_q48q N⟩:=
  have E:Env Tryz.prog Γ_q48q:=env_of tab ⟨C_q63q,⟨C_q73q,⟨C_q64q,⟨C_q56q,⟨C_spec_l1Own,trivial⟩⟩⟩⟩⟩
  con_of (body:=bodyOf Tryz.f26) (Pc:=[(0,⟨q48q_l0_h,q48q_l0_o,q48q_l0 N N⟩)]) E rfl mixed Tryz.func26 (by kernel_rfl) (by kernel_rfl) (by kernel_rfl) (by kernel_rfl) (fun A hA=>⟨pc_of (body:=loopOf Tryz.f26 0) (inner:=[]) E mixed hA (by kernel_rfl) (by kernel_rfl) (by kernel_rfl) trivial (fun _=>rfl) (fun _ _=>by kernel_rfl) N,trivial⟩) (fun _=>by kernel_rfl)
theorem C_q48q:Contract Tryz.prog 26 S_q48q:=Contract.less (fun N:Nat=>F_q48q N) C_q48q_raw specBC_lim
theorem C_laws_rInts_raw (N:Nat):Contract Tryz.prog 27 ⟨[(K_Si,false),(K_Si,false)],[.bool],true,F_laws_rInts N⟩:=
  have E:Env Tryz.prog Γ_laws_rInts:=env_of tab trivial
  con_of (body:=bodyOf Tryz.f27) (Pc:=[(0,⟨laws_rInts_l0_h,laws_rInts_l0_o,laws_rInts_l0 N N⟩)]) E rfl mixed Tryz.func27 (by kernel_rfl) (by kernel_rfl) (by kernel_rfl) (by kernel_rfl) (fun A hA=>⟨pc_of (body:=loopOf Tryz.f27 0) (inner:=[]) E mixed hA (by kernel_rfl) (by kernel_rfl) (by kernel_rfl) trivial (fun _=>rfl) (fun _ _=>by kernel_rfl) N,trivial⟩) (fun _=>by kernel_rfl)
theorem C_laws_rInts:Contract Tryz.prog 27 S_laws_rInts:=Contract.less (fun N:Nat=>F_laws_rInts N) C_laws_rInts_raw rInts_lim
theorem C_laws_FnCopNumbers_raw (N:Nat):Contract Tryz.prog 4 ⟨[(K_Su8,false)],[.bool],true,F_laws_FnCopNumbers N⟩:=
  have E:Env Tryz.prog Γ_laws_FnCopNumbers:=env_of tab ⟨C_laws_rBig,⟨C_q20q,⟨C_q40q,⟨C_q44q,⟨C_q59q,⟨C_q31q,⟨C_q33q,⟨C_q28q,⟨C_q52q,⟨C_q50q,⟨C_q48q,⟨C_laws_rInts,trivial⟩⟩⟩⟩⟩⟩⟩⟩⟩⟩⟩⟩
  con_of (body:=bodyOf Tryz.f4) (Pc:=[]) E rfl mixed Tryz.func4 (by kernel_rfl) (by kernel_rfl) (by kernel_rfl) (by kernel_rfl) (fun A hA=>trivial) (fun _=>by kernel_rfl)
theorem C_laws_FnCopNumbers:Contract Tryz.prog 4 S_laws_FnCopNumbers:=Contract.less (fun N:Nat=>F_laws_FnCopNumbers N) C_laws_FnCopNumbers_raw lawCN_lim
end Go.V.W
