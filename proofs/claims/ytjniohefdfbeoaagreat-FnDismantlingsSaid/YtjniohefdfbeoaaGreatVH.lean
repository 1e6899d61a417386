/- What the law FnDismantlings leans on, part 8: an interpreter of the model as plain data, its soundness, the functions as it tells them, and their laws. -/
import Derived.Shelf.Lays
import Derived.Shelf.LaysM
import Derived.Shelf.SortM.Plain
import Derived.Shelf.SortM.SortNone
import Derived.Shelf.SlSortCmp.NoneTotal
import Derived.Test.YtjniohefdfbeoaaGreatVG
set_option linter.unusedVariables false
set_option linter.unusedSimpArgs false
set_option maxRecDepth 100000
noncomputable section
namespace Go.V.W
open Go.Proofs
theorem Fu {l:List Int} (hn:CA l=true) (u v:Unit) {m:Nat} (hm:m<2 ^ l.length):Lc 0 ((l,u),(m:Int),v)=some (Ap (Ba l.length (Cr l) m.testBit) l.length 0,()):=by
 obtain ⟨e,hk,h8,hb⟩:=Bl hn
 have h256:=OU h8
 have h1:Ic (Ap m.testBit l.length 0,((),(l,u),(m:Int),()),())=some (Ap (Ba l.length (Cr l) m.testBit) l.length 0,[],()):=by
  unfold Ic Aju
  have hall:(Ap m.testBit l.length 0).all (inB 0 ((l.length:Int)-1))=true:=by
   rw [List.all_eq_true]
   intro z hz
   obtain ⟨y,_,y1,_,rfl⟩:=Cs.1 hz
   exact AI.2 (by omega)
  have hl:(Ap m.testBit l.length 0).length<=8:=Nat.le_trans C3 h8
  simp only [hn,AN,decide_eq_true (show (m:Int)<((2 ^ l.length:Nat):Int) by omega),hall,decide_eq_true hl,Bool.and_self,if_true,Int.toNat_natCast]
  unfold Tw
  rw [GJ]
  congr 2
  refine Bm fun y _ hy => ?_
  unfold Ba Fh
  rw [Int.toNat_natCast,Bool.not_not]
 unfold Lc
 simp only [IA (show m<256 by omega),Option.bind_some]
 rw [show Ap (fun y=>m.testBit y) 8 0=Ap m.testBit l.length 0 from Gk h8 fun y hy=>E6 hm hy]
 simp only [h1,Option.bind_some]
def prE (e:Nat×Nat):E:=((e.1:Int),(e.2:Int),())
theorem Kr {n m:Nat} (hn:n<=8) (hm:m<2 ^ n):BA (Ap m.testBit n 0)=m:=by
 have hM:=MK (n:=n) hn (l:=Ap m.testBit n 0) (fun z hz=>by
  obtain ⟨y,_,h,_,rfl⟩:=Cs.1 hz
  omega)
 apply Nat.eq_of_testBit_eq
 intro y
 rw [hM.2 y]
 by_cases hy:y<n
 ·rw [decide_eq_true hy,Bool.true_and]
  exact Lv hy
 ·rw [decide_eq_false hy,Bool.false_and,E6 hm (by omega)]
theorem Amy (N:Nat) {l:List Int} (hn:CA l=true) (u:Unit):∀(k f m:Nat) (st:List E),m<2 ^ l.length->Ay l.length m.testBit<=k->k<f->st.length+k<=100 ->
  Qk N f ((l,u),st,(m:Int),())=some (.inl (st++(A7 l.length (Cr l) (k+1) m.testBit).1.map prE,((BA (Ap (A7 l.length (Cr l) (k+1) m.testBit).2 l.length 0):Nat):Int),())):=by
 obtain ⟨e,hk,h8,hb⟩:=Bl hn
 have h256:=OU h8
 intro k
 induction k with
 | zero=>
  intro f m st hm h1 h2 h3
  obtain ⟨f,rfl⟩:∃m,f=m+1:=⟨f-1,by omega⟩
  have hc:=Il (n:=l.length) (b:=Cr l) (p:=m.testBit) (by omega)
  show Ib _ _ _=_
  unfold Ib
  simp only [Fu hn u () hm,Option.bind_some]
  have he:(((Ap (Ba l.length (Cr l) m.testBit) l.length 0).length:Int)==(0:Int))=true:=by rw [JD.2 hc];rfl
  simp only [he,if_true]
  rw [CR hc]
  simp only [List.map_nil,List.append_nil,Kr h8 hm]
 | succ k ih=>
  intro f m st hm h1 h2 h3
  obtain ⟨f,rfl⟩:∃m,f=m+1:=⟨f-1,by omega⟩
  show Ib _ _ _=_
  unfold Ib
  simp only [Fu hn u () hm,Option.bind_some]
  by_cases hc:(List.range l.length).any (Ba l.length (Cr l) m.testBit)=true
  ·obtain ⟨k1,k2⟩:=EC hc
   obtain ⟨k3,k4⟩:=Kj hc
   obtain ⟨j1,j2⟩:=EC k4
   have hne:(((Ap (Ba l.length (Cr l) m.testBit) l.length 0).length:Int)==(0:Int))=false:=by
    rw [beq_eq_false_iff_ne]
    omega
   have hi:=Ag (i:=0) k1
   have hi2:=Ag (i:=0) j1
   simp only [Int.natCast_zero] at hi hi2
   have ho:=C8 k3
   rw [LA hc]
   generalize hx:Bh (Ba l.length (Cr l) m.testBit) l.length 0=x at *
   generalize hy:Bh (Ce l.length (Cr l) m.testBit x) l.length 0=y at *
   have hx8:x<8:=Nat.lt_of_lt_of_le k3.1 h8
   have hp:2 ^ x<256:=CL hx8
   have hm256:m<256:=by omega
   have hba:bits .andNot .i64 (m:Int) ((2 ^ x:Nat):Int)=((GI m (2 ^ x):Nat):Int):=GS hm256 hp
   have hlt:GI m (2 ^ x)<2 ^ l.length:=Nat.lt_of_le_of_lt Nat.and_le_left hm
   have hfun:(GI m (2 ^ x)).testBit=BC m.testBit x:=funext fun z=>TK hm256 z
   have hok:decide (st.length+[((x:Int),(y:Int),())].length<=lim)=true:=decide_eq_true (by simp only [List.length_singleton];unfold lim;omega)
   simp only [hne,ACn,if_false,hi,hi2,if_true,show (0:Int).toNat=0 from rfl,k2,Eu hn u () hm k3.1,Option.bind_some,j2,hok,AN,GO hx8,hba]
   have:=ih f (GI m (2 ^ x)) (st++[((x:Int),(y:Int),())]) hlt (by rw [hfun];omega) (by omega) (by simp only [List.length_append,List.length_singleton];omega)
   rw [this,hfun]
   simp [prE]
  ·have hf:(List.range l.length).any (Ba l.length (Cr l) m.testBit)=false:=by simpa using hc
   have he:(((Ap (Ba l.length (Cr l) m.testBit) l.length 0).length:Int)==(0:Int))=true:=by rw [JD.2 hf];rfl
   simp only [he,if_true]
   rw [CR hf]
   simp only [List.map_nil,List.append_nil,Kr h8 hm]
theorem Gq {n x:Nat} (hx:x<n):(2 ^ n-1).testBit x=true:=by
 rw [Nat.testBit_two_pow_sub_one]
 exact decide_eq_true hx
theorem Vr (d) (r) (h:Dt d=some r):∃N,WO N d=some r:=by
 obtain ⟨⟨l,u⟩,v⟩:=d
 unfold Dt at h
 split at h
 ·rename_i hn
  cases h
  have hn:CA l=true:=hn
  obtain ⟨e,hk,h8,hb⟩:=Bl hn
  have hlt:2 ^ l.length-1<2 ^ l.length:=by have:=Nat.two_pow_pos l.length;omega
  refine ⟨20,?_⟩
  unfold WO
  simp only [Ake h8 u (),Option.bind_some]
  have key:=Amy 20 hn u 8 20 (2 ^ l.length-1) [] hlt (Nat.le_trans (Js _ _) h8) (by omega) (by simp)
  obtain ⟨c1,c2⟩:=Jt (n:=l.length) (b:=Cr l) (fun _ _ _ _=>rfl) 9 (2 ^ l.length-1).testBit (fun _=>true) (fun x hx=>Gq hx)
  simp only [key,Option.bind_some,List.nil_append]
  rw [c1,Bm fun y _ hy=>c2 y (by omega)]
  rfl
 ·cases h
theorem Uc {a:Nat} {es:List E} {w:Unit} (h8:a<=8) (hes:es.all (BI (a:Int))=true) (u v:Unit) :
  Dt ((toI (Dn a es),u),v)=some ((Bc ((a:Int),es,w)).1.map prE,((BA (Ap (Bc ((a:Int),es,w)).2 a 0):Nat):Int),()):=by
 obtain ⟨n1,n2⟩:=Gz h8 hes
 unfold Dt
 simp only [n1,if_true,n2]
 obtain ⟨c1,c2⟩:=Jt (n:=a) (b:=Cr (toI (Dn a es))) (b':=An es) (fun x y _ _=>IL h8 hes x y) 9 (fun _=>true) (fun _=>true) (fun x hx=>rfl)
 rw [c1,Bm fun y _ hy=>c2 y (by omega)]
 rfl
theorem XN:∀c:Nat,c<256->0<c->(bits .and .i64 (c:Int) (IntKind.wrap .i64 ((c:Int)-1)) != (0:Int)) = !decide (Ay 8 c.testBit=1):=by decide +kernel
theorem Hf {a:Nat} (h8:a<=8) (p:Nat->Bool):BA (Ap p a 0)<2 ^ a/\(∀y,y<a->(BA (Ap p a 0)).testBit y=p y)/\Ay a (BA (Ap p a 0)).testBit=Ay a p:=by
 have hM:=MK (n:=a) h8 (l:=Ap p a 0) (fun z hz=>by
  obtain ⟨y,_,h,_,rfl⟩:=Cs.1 hz
  omega)
 have hb:∀y,y<a->(BA (Ap p a 0)).testBit y=p y:=fun y hy=>by
  rw [hM.2 y,decide_eq_true hy,Bool.true_and]
  exact Lv hy
 refine ⟨Nat.lt_pow_two_of_testBit _ fun y hy => ?_,hb,IV hb⟩
 rw [hM.2 y,decide_eq_false (by omega),Bool.false_and]
theorem Su {n m:Nat} (hn:n<=8) (hm:m<2 ^ n):Ay 8 m.testBit=Ay n m.testBit:=by
 rw [<- BQ,<- BQ,Gk hn fun y hy=>E6 hm hy]
theorem Ak4 {α β:Type} (f:α->β):∀l:List α,l.flatMap (fun e=>[f e])=l.map f:=by
 intro l
 induction l with
 | nil=>rfl
 | cons a l ih=>rw [List.flatMap_cons,ih];rfl
theorem F8 {a:Nat}:Ay a (fun _=>true)=a:=by
 unfold Ay
 simp
theorem Ag5 {c n:Nat} (h:0<Ay n c.testBit):0<c:=by
 apply Classical.byContradiction
 intro h0
 have:c=0:=by omega
 subst this
 have:Ay n (Nat.testBit 0)=0:=by
  unfold Ay
  rw [List.countP_eq_zero]
  intro x _
  simp
 omega
theorem An6 {a:Nat} {es:List E} {w:Unit} (h0:0<a) (h8:a<=8):0<Ay a (Bc ((a:Int),es,w)).2:=by
 have:=(Sd (n:=a) (es:=es) 9 (fun _=>true) (by rw [F8];omega)).2.2.1 (by rw [F8];exact h0)
 exact this
theorem UH (d) (r) (h:EF d=some r):∃N,UQ N d=some r:=by
 obtain ⟨⟨n,es,w⟩,v⟩:=d
 unfold EF at h
 split at h
 ·rename_i ho
  cases h
  have ho:okL es=true:=ho
  refine ⟨20,?_⟩
  unfold UQ Bt
  simp only [ho,if_true,Option.bind_some]
  unfold Dk DB
  by_cases hgr:A9 (n,es,w)=true
  ·have hg:grB (n,es,w)=true:=De hgr ho
   obtain ⟨g1,g2,g3,g4⟩:=AV hg
   obtain ⟨a,ha⟩:∃a,a=n.toNat:=⟨_,rfl⟩
   simp only at g1 g2 g3 g4
   rw [<- ha] at g2 g3 g4
   subst g2
   by_cases h0:a=0
   ·subst h0
    simp [hgr]
   ·have hne:((a:Int)==(0:Int))=false:=by rw [beq_eq_false_iff_ne];omega
    obtain ⟨m1,m2,m3⟩:=Hf g3 (Bc ((a:Int),es,w)).2
    have hpos:=An6 (es:=es) (w:=w) (show 0<a by omega) g3
    have h256:=OU g3
    have hc0:=Ag5 (n:=a) (c:=BA (Ap (Bc ((a:Int),es,w)).2 a 0)) (by omega)
    have hset:Ap (fun y=>(BA (Ap (Bc ((a:Int),es,w)).2 a 0)).testBit y) 8 0=Ap (Bc ((a:Int),es,w)).2 a 0:=by
     rw [Gk g3 fun y hy=>E6 m1 hy]
     exact Bm fun y _ hy=>m2 y (by omega)
    have htest:=XN _ (show BA (Ap (Bc ((a:Int),es,w)).2 a 0)<256 by omega) hc0
    rw [Su g3 m1,m3] at htest
    simp only [hgr,hne,Bool.not_true,ACn,if_false,Option.bind_some,GG hgr ho,Uc (w:=w) g3 g4,htest,decide_eq_true (show (a:Int)>0 by omega),Bool.and_self,if_true,Int.toNat_natCast]
    by_cases h1:Ay a (Bc ((a:Int),es,w)).2=1
    ·simp only [h1,decide_true,Bool.not_true,ACn,if_false,if_true]
     have hsl:(Bc ((a:Int),es,w)).1.length<=9:=Mr _ _
     have key:=F5 (L:=Q3 20) (r:=J5 20) (fun _ _=>rfl) ((Bc ((a:Int),es,w)).1.map prE)
      (mk:=fun i A=>(((BA (Ap (Bc ((a:Int),es,w)).2 a 0):Nat):Int),A,(Bc ((a:Int),es,w)).1.map prE,(((Bc ((a:Int),es,w)).1.map prE).length:Int),(i:Int),()))
      (f:=fun e=>[e.1]) (fun z=>by simp) (o:=fun A=>.inl (((BA (Ap (Bc ((a:Int),es,w)).2 a 0):Nat):Int),A,()))
      (by
       intro back i hi A hA
       have e:at_ Aj ((Bc ((a:Int),es,w)).1.map prE) i=((Bc ((a:Int),es,w)).1.map prE)[i]:=Aw (e:=Aj) hi
       have hlen:((Bc ((a:Int),es,w)).1.map prE).length=(Bc ((a:Int),es,w)).1.length:=List.length_map ..
       have hok:decide (A.length+[(((Bc ((a:Int),es,w)).1.map prE)[i]).1].length<=lim)=true:=decide_eq_true (by simp only [List.length_singleton];unfold lim;omega)
       unfold J5
       simp only [AD hi,if_true,Ag hi,Int.toNat_natCast,e,hok,Aq (show i<=100000 by omega)])
      (by intro back A hA;unfold J5;simp only [A4,ACn,if_false]) 19 (by rw [List.length_map];omega)
     simp only [Int.natCast_zero] at key
     have hl2:=C3 (p:=(Bc ((a:Int),es,w)).2) (k:=a) (x:=0)
     have hok:decide ((List.map (fun e:E=>e.1) ((Bc ((a:Int),es,w)).1.map prE)).length+(Ap (Bc ((a:Int),es,w)).2 a 0).length<=lim)=true:=decide_eq_true (by rw [List.length_map,List.length_map];unfold lim;omega)
     simp only [key,Option.bind_some,IA (show BA (Ap (Bc ((a:Int),es,w)).2 a 0)<256 by omega),hset,Ak4,hok,if_true]
     rw [List.map_map]
     rfl
    ·simp only [h1,decide_false,Bool.not_false,if_true,if_false]
  ·have hgr':A9 (n,es,w)=false:=by simpa using hgr
   simp only [hgr',Bool.false_and,ACn,if_false,Option.bind_some,Bool.not_false,if_true]
 ·cases h
open Go.Proofs
theorem R1 {α:Type} [DecidableEq α]:∀(l1 l2:List α),l1.Nodup->(∀x∈l1,x∈l2)->l2.length<=l1.length->l1.Perm l2:=by
 intro l1
 induction l1 with
 | nil=>
  intro l2 _ _ h
  have:l2=[]:=List.eq_nil_of_length_eq_zero (by simpa using h)
  rw [this]
 | cons a t ih=>
  intro l2 hn hs hl
  have ha:=hs a (List.mem_cons_self ..)
  rw [List.nodup_cons] at hn
  have hlen:=List.length_erase_of_mem ha
  have hpos:=List.length_pos_of_mem ha
  have:=ih (l2.erase a) hn.2 (fun x hx=>(List.mem_erase_of_ne (fun e=>hn.1 (by rw [<- e];exact hx))).2 (hs x (List.mem_cons_of_mem _ hx))) (by simp at hl;omega)
  exact (List.Perm.cons a this).trans (List.perm_cons_erase ha).symm
theorem EL (l:List Nat):(AO l).map Int.toNat=l:=by
 unfold AO
 rw [List.map_map]
 have:(Int.toNat∘fun y:Nat=>(y:Int))=id:=by funext m;simp
 rw [this,List.map_id]
theorem Aqy {l:List Nat} {x:Nat}:(x:Int)∈AO l↔x∈l:=by
 unfold AO
 rw [List.mem_map]
 constructor
 ·rintro ⟨y,h,e⟩
  have:y=x:=by omega
  rw [<- this];exact h
 ·intro h;exact ⟨x,h,rfl⟩
theorem Se (l:List Nat) (x:Nat):BR (AO l) x=decide (x∈l):=by
 unfold BR Cu
 rw [Bool.eq_iff_iff,List.any_eq_true,decide_eq_true_eq,<- Aqy]
 constructor
 ·rintro ⟨z,h,e⟩
  have:z=(x:Int):=by simpa using e
  rw [<- this];exact h
 ·intro h;exact ⟨_,h,by simp⟩
theorem Adg {l:List Nat} (h:l.Nodup):(AO l).Nodup:=by
 unfold AO List.Nodup at *
 rw [List.pairwise_map]
 exact h.imp fun hne e=>hne (by omega)
theorem Jm {n:Nat} {o:List Int} (h:El n o=true):∃os:List Nat,o=AO os/\os.Perm (List.range n):=by
 unfold El at h
 rw [ACo,decide_eq_true_eq,List.all_eq_true] at h
 obtain ⟨hl,ha⟩:=h
 have hp:(AO (List.range n)).Perm o:=R1 _ _ (Adg List.nodup_range) (fun z hz=>by
  unfold AO at hz
  obtain ⟨x,hx,rfl⟩:=List.mem_map.1 hz
  have:=ha x hx
  unfold BR Cu at this
  obtain ⟨y,hy,e⟩:=List.any_eq_true.1 this
  have:y=(x:Int):=by simpa using e
  rw [<- this];exact hy) (by unfold AO;rw [List.length_map,List.length_range];omega)
 refine ⟨o.map Int.toNat,?_,?_⟩
 ·unfold AO
  rw [List.map_map]
  have:∀z∈o,((fun y:Nat=>(y:Int))∘Int.toNat) z=z:=fun z hz=>by
   have:=hp.mem_iff.2 hz
   unfold AO at this
   obtain ⟨x,_,rfl⟩:=List.mem_map.1 this
   simp
  exact (List.map_congr_left this |>.trans (List.map_id _)).symm
 ·have:=hp.symm.map Int.toNat
  rw [EL] at this
  exact this
theorem Atw {n:Nat} {os:List Nat} (h:os.Perm (List.range n)):El n (AO os)=true:=by
 unfold El
 rw [ACo,decide_eq_true_eq,List.all_eq_true]
 refine ⟨by unfold AO;rw [List.length_map,h.length_eq,List.length_range],fun x hx => ?_⟩
 rw [Se]
 exact decide_eq_true (h.mem_iff.2 hx)
def pL (os:List Nat) (y:Nat):Bool:=decide (y∈os)
theorem Pk {n:Nat} {b b':Nat->Nat->Bool} (hb:∀x y,x<n->y<n->b x y=b' x y):∀(os:List Nat) (p p':Nat->Bool),(∀x,x<n->p x=p' x)->(∀x∈os,x<n)->G6 n b p os=G6 n b' p' os:=by
 intro os
 induction os with
 | nil=>intro p p' _ _;rfl
 | cons x t ih=>
  intro p p' hp ho
  cases t with
  | nil=>rfl
  | cons y l=>
   have hx:=ho x (List.mem_cons_self ..)
   simp only [G6]
   rw [DW fun z hz=>EP hb hp hx hz,ih (BC p x) (BC p' x) (fun z hz=>by unfold BC;rw [hp z hz]) fun z hz=>ho z (List.mem_cons_of_mem _ hz)]
theorem Aox {x:Nat} {t:List Nat} (h:x∉t) (y:Nat):BC (pL (x::t)) x y=pL t y:=by
 unfold BC pL
 by_cases e:y=x
 ·subst e
  simp [h]
 ·simp [e]
theorem X5 {n:Nat} {b:Nat->Nat->Bool} {x y:Nat} {l:List Nat} (h:(x::y::l).Nodup) (hn:∀z∈x::y::l,z<n):G6 n b (pL (x::y::l)) (x::y::l)=((List.range n).any (Ce n b (pL (x::y::l)) x)&&G6 n b (pL (y::l)) (y::l)):=by
 rw [List.nodup_cons] at h
 simp only [G6]
 rw [Pk (fun _ _ _ _=>rfl) (y::l) (BC (pL (x::y::l)) x) (pL (y::l)) (fun z _=>Aox h.1 z) fun z hz=>hn z (List.mem_cons_of_mem _ hz)]
theorem Aam {n:Nat} {b:Nat->Nat->Bool} {p:Nat->Bool} {x:Nat}:decide (FE n b p x<(0:Int)) = !(List.range n).any (Ce n b p x):=by
 unfold FE
 split
 ·rename_i h;rw [h];simp
 ·rename_i h
  have hf:(List.range n).any (Ce n b p x)=false:=by simpa using h
  rw [hf]
  rfl
theorem Ace (d) (r) (h:H0 d=some r):∃N,Vt N d=some r:=by
 obtain ⟨⟨n,es,u⟩,o,v⟩:=d
 unfold H0 at h
 split at h
 ·rename_i hc
  simp only [ACo,decide_eq_true_eq] at hc
  obtain ⟨⟨ho,h0⟩,h8⟩:=hc
  cases h
  obtain ⟨n,rfl⟩:=En h0
  have hhas:∀z:Int,E7 (o,z,())=some (Cu o z,()):=fun z=>by
   unfold E7
   rw [if_pos ho]
   rfl
  refine ⟨20,?_⟩
  unfold Vt
  have hlr:(List.range n).length=n:=List.length_range
  have key:=Sl (L:=Ri 20) (r:=Ki 20) (fun _ _=>rfl) (List.range n) (mk:=fun i=>(o,((n:Int),es,u),(i:Int),()))
   (q:=fun x=>BR o x) (o:=.inl (false,())) (f:=.inr (.inl (o,((n:Int),es,u),())))
   (by
    intro back i hi
    rw [hlr] at hi
    unfold Ki
    simp only [AD hi,if_true,hhas,Option.bind_some,Aq (show i<=100000 by omega),List.getElem_range]
    unfold BR
    cases Cu o (i:Int)<;>simp)
   (by intro back;rw [hlr];unfold Ki;simp only [A4,ACn,if_false]) 19 0 (by omega) (by omega)
  simp only [Int.natCast_zero,List.drop_zero] at key
  simp only [key,Option.bind_some,Int.toNat_natCast]
  unfold El
  cases (List.range n).all fun x=>BR o x with
  | false=>simp
  | true=>
   simp only [if_true,Bool.and_true]
   congr 2
   rw [Bool.eq_iff_iff,beq_iff_eq,decide_eq_true_eq]
   omega
 ·cases h
theorem Arc (N:Nat) {g:Gr} (hg:grB g=true) {os:List Nat} (hp:os.Perm (List.range g.1.toNat)):∀k f i:Nat,i+k=os.length->k<f -> ∃o,QX N f (AO os,g,Ap (pL (os.drop i)) g.1.toNat 0,(i:Int),())=some o /\
  (match o with | .inl d=>d.1 | .inr (.inl _)=>true)=G6 g.1.toNat (An g.2.1) (pL (os.drop i)) (os.drop i):=by
 obtain ⟨g1,g2,g3,g4⟩:=AV hg
 have hlen:os.length=g.1.toNat:=by rw [hp.length_eq,List.length_range]
 have hnl:(AO os).length=os.length:=by unfold AO;exact List.length_map ..
 have hlt:∀x∈os,x<g.1.toNat:=fun x hx=>List.mem_range.1 (hp.mem_iff.1 hx)
 have hnd:os.Nodup:=hp.symm.nodup List.nodup_range
 intro k
 induction k with
 | zero=>
  intro f i h1 h2
  obtain ⟨f,rfl⟩:∃m,f=m+1:=⟨f-1,by omega⟩
  show ∃o,Hb _ _ _=_/\_
  unfold Hb
  have hno:¬(((i+1:Nat):Int)<((AO os).length:Int)):=by rw [hnl];omega
  simp only [Aq (show i<=100000 by omega),decide_eq_false hno,ACn,if_false]
  refine ⟨_,rfl,?_⟩
  rw [ACu (by omega)]
  rfl
 | succ k ih=>
  intro f i h1 h2
  obtain ⟨f,rfl⟩:∃m,f=m+1:=⟨f-1,by omega⟩
  show ∃o,Hb _ _ _=_/\_
  unfold Hb
  have hi:i<os.length:=by omega
  have hd:=ACv hi
  by_cases hl:i+1<os.length
  ·have hd2:=ACv hl
   have hx:os[i]<g.1.toNat:=hlt _ (ACw hi)
   have e:at_ I (AO os) i=(os[i]:Int):=by
    rw [Aw (e:=I) (show i<(AO os).length by omega)]
    show (AO os)[i]=_
    unfold AO
    rw [List.getElem_map]
   have hyes:((i+1:Nat):Int)<((AO os).length:Int):=by rw [hnl];omega
   have hsub:(os.drop i).Nodup:=hnd.sublist (List.drop_sublist i os)
   have hsl:∀z∈os.drop i,z<g.1.toNat:=fun z hz=>hlt z (List.mem_of_mem_drop hz)
   have hcv:FE g.1.toNat (An g.2.1) (BR (Ap (pL (os.drop i)) g.1.toNat 0)) os[i]=FE g.1.toNat (An g.2.1) (pL (os.drop i)) os[i]:=UE (fun _ _ _ _=>rfl) (fun z hz=>IC hz) hx
   simp only [Aq (show i<=100000 by omega),decide_eq_true hyes,if_true,Ag (show i<(AO os).length by omega),Int.toNat_natCast,e,Lt hg (J4 _ _) hx,Option.bind_some,hcv,Aam,Iy g3]
   have hst:=X5 (n:=g.1.toNat) (b:=An g.2.1) (x:=os[i]) (y:=os[i+1]) (l:=os.drop (i+1+1)) (by rw [<- hd2,<- hd];exact hsub) (by rw [<- hd2,<- hd];exact hsl)
   rw [<- hd2,<- hd] at hst
   rw [hst]
   cases hc:(List.range g.1.toNat).any (Ce g.1.toNat (An g.2.1) (pL (os.drop i)) os[i]) with
   | false=>
    simp only [Bool.not_false,if_true,Bool.false_and]
    exact ⟨_,rfl,rfl⟩
   | true=>
    simp only [Bool.not_true,ACn,if_false,Bool.true_and]
    have hset:Ap (BC (pL (os.drop i)) os[i]) g.1.toNat 0=Ap (pL (os.drop (i+1))) g.1.toNat 0:=by
     refine Bm fun z _ _ => ?_
     rw [hd]
     refine Aox ?_ z
     have:=hsub
     rw [hd,List.nodup_cons] at this
     exact this.1
    rw [hset]
    exact ih f (i+1) (by omega) (by omega)
  ·have hno:¬(((i+1:Nat):Int)<((AO os).length:Int)):=by rw [hnl];omega
   simp only [Aq (show i<=100000 by omega),decide_eq_false hno,ACn,if_false]
   refine ⟨_,rfl,?_⟩
   rw [hd,ACu (by omega)]
   rfl
theorem Zz {n:Nat} {os:List Nat} (hp:os.Perm (List.range n)) {x:Nat} (hx:x<n):pL os x=true:=decide_eq_true (hp.mem_iff.2 (List.mem_range.2 hx))
theorem WY (d) (r) (h:Ht d=some r):∃N,Vw N d=some r:=by
 obtain ⟨g,o,v⟩:=d
 unfold Ht at h
 split at h
 ·rename_i hc
  simp only [ACo] at hc
  obtain ⟨hg,ho⟩:=hc
  cases h
  obtain ⟨g1,g2,g3,g4⟩:=AV hg
  have hall:B7 0 (g,())=some (Ap (fun _=>true) g.1.toNat 0,()):=by
   have e:(g,())=(((g.1.toNat:Int),g.2.1,g.2.2),()):=by rw [<- g2]
   rw [e]
   exact Yc g3 _ _ _
  have hea:H0 (g,o,())=some (El g.1.toNat o,()):=by
   unfold H0
   have ho:okL o=true:=ho
   simp only [ho,decide_eq_true (show 0<=g.1 by omega),decide_eq_true (show g.1<=8 by omega),Bool.and_self,if_true]
  refine ⟨20,?_⟩
  unfold Vw
  simp only [hall,hea,Option.bind_some]
  cases he:El g.1.toNat o with
  | false=>simp
  | true=>
   obtain ⟨os,rfl,hp⟩:=Jm he
   have hlen:os.length=g.1.toNat:=by rw [hp.length_eq,List.length_range]
   obtain ⟨out,k1,k2⟩:=Arc 20 hg hp os.length 20 0 (by omega) (by omega)
   simp only [Int.natCast_zero,List.drop_zero] at k1 k2
   have hs:Ap (fun _=>true) g.1.toNat 0=Ap (pL os) g.1.toNat 0:=Bm fun y _ hy=>(Zz hp (by omega)).symm
   simp only [Bool.not_true,ACn,if_false,hs,k1,Option.bind_some,EL,Bool.true_and]
   rw [Pk (fun _ _ _ _=>rfl) os (fun _=>true) (pL os) (fun x hx=>(Zz hp hx).symm) (fun x hx=>List.mem_range.1 (hp.mem_iff.1 hx)),<- k2]
   rcases out with d | d | e
   ·rfl
   ·rfl
   ·exact e.elim
 ·cases h
open Go.Proofs
theorem K4 {n:Nat} (hn:n<=8) {s:List Int} (hs:∀z∈s,0<=z/\z<=(n:Int)-1) (hl:s.length<=1000) (v:Unit):Fb (s,v)=some ((BA s:Int),()):=by
 have ho:okL s=true:=decide_eq_true (by unfold lim;omega)
 have ha:s.all (inB 0 7)=true:=by
  rw [List.all_eq_true]
  intro z hz
  have:=hs z hz
  exact AI.2 (by omega)
 unfold Fb
 simp only [ho,ha,Bool.and_self,if_true]
theorem XV {n:Nat} (hn:n<=8) {s:List Int} (hs:∀z∈s,0<=z/\z<=(n:Int)-1):BA s<2 ^ n /\ ∀y,y<n->(BA s).testBit y=BR s y:=by
 have hM:=MK hn hs
 refine ⟨Nat.lt_pow_two_of_testBit _ fun y hy => ?_,fun y hy => ?_⟩
 ·rw [hM.2 y,decide_eq_false (by omega),Bool.false_and]
 ·rw [hM.2 y,decide_eq_true hy,Bool.true_and]
  rfl
theorem R0 {n:Nat} {os:List Nat} (h:∀x∈os,x<n):∀z∈AO os,0<=z/\z<=(n:Int)-1:=fun z hz=>by
 unfold AO at hz
 obtain ⟨x,hx,rfl⟩:=List.mem_map.1 hz
 have:=h x hx
 omega
theorem Rx:∀n:Nat,n<9->IntKind.wrap .i64 (shl .i64 (1:Int) (n:Int)-1)=((2 ^ n-1:Nat):Int):=by decide
theorem Agi {n m:Nat} (hm:m<2 ^ n):m=2 ^ n-1 ↔ ∀x,x<n->m.testBit x=true:=by
 constructor
 ·rintro rfl x hx
  exact Gq hx
 ·intro h
  apply Nat.eq_of_testBit_eq
  intro y
  rw [Nat.testBit_two_pow_sub_one]
  by_cases hy:y<n
  ·rw [h y hy,decide_eq_true hy]
  ·rw [E6 hm (by omega),decide_eq_false hy]
theorem U3 {g:Gr} (hg:grB g=true) {o:List Int} (ho:okL o=true) (v:Unit):SC 0 (g,o,v)=some (El g.1.toNat o,()):=by
 obtain ⟨g1,g2,g3,g4⟩:=AV hg
 unfold SC
 by_cases hl:o.length=g.1.toNat
 ·have h1:((o.length:Int)==g.1)=true:=by rw [beq_iff_eq];omega
  have hw:IntKind.wrap .i64 (g.1-1)=g.1-1:=by rw [IntKind.wrap_i64];omega
  have ha:CQ (o,0,g.1-1,())=some (o.all (inB 0 (g.1-1)),()):=by
   unfold CQ
   rw [if_pos (show okL (o,(0:Int),g.1-1,()).1=true from ho)]
  simp only [h1,if_true,hw,ha,Option.bind_some]
  cases hall:o.all (inB 0 (g.1-1)) with
  | false=>
   simp only [ACn,if_false]
   cases he:El g.1.toNat o with
   | false=>rfl
   | true=>
    exfalso
    obtain ⟨os,rfl,hp⟩:=Jm he
    have:(AO os).all (inB 0 (g.1-1))=true:=by
     rw [List.all_eq_true]
     intro z hz
     have:=R0 (fun x hx=>List.mem_range.1 (hp.mem_iff.1 hx)) z hz
     exact AI.2 (by omega)
    rw [this] at hall
    cases hall
  | true=>
   rw [List.all_eq_true] at hall
   have hr:∀z∈o,0<=z/\z<=(g.1.toNat:Int)-1:=fun z hz=>by
    have:=AI.1 (hall z hz)
    omega
   obtain ⟨m1,m2⟩:=XV g3 hr
   have hsh:IntKind.wrap .i64 (shl .i64 (1:Int) g.1-1)=((2 ^ g.1.toNat-1:Nat):Int):=by
    have:=Rx g.1.toNat (by omega)
    rw [<- g2] at this
    exact this
   simp only [if_true,K4 g3 hr (by omega),Option.bind_some,decide_eq_true (show 0<=g.1 by omega),hsh]
   congr 2
   unfold El
   rw [decide_eq_true hl,Bool.true_and,Bool.eq_iff_iff,beq_iff_eq,List.all_eq_true]
   have h3:((BA o:Nat):Int)=((2 ^ g.1.toNat-1:Nat):Int)↔BA o=2 ^ g.1.toNat-1:=by omega
   rw [h3,Agi m1]
   constructor
   ·intro h x hx
    rw [<- m2 x (List.mem_range.1 hx)]
    exact h x (List.mem_range.1 hx)
   ·intro h x hx
    rw [m2 x hx]
    exact h x (List.mem_range.2 hx)
 ·have h1:((o.length:Int)==g.1)=false:=by rw [beq_eq_false_iff_ne];omega
  simp only [h1,ACn,if_false]
  unfold El
  rw [decide_eq_false hl,Bool.false_and]
theorem NZ (l:List Int) (i:Nat):B1 l (i:Int) (l.length:Int)=l.drop i:=by
 unfold B1
 rw [Int.toNat_natCast,Int.toNat_natCast,List.take_of_length_le (ACr _)]
theorem MX (l:List Int) (i:Nat):B1 l 0 (i:Int)=l.take i:=by
 unfold B1
 rw [Int.toNat_natCast,show (0:Int).toNat=0 from rfl,List.drop_zero]
theorem Aky (l:List Nat) (i:Nat):(AO l).drop i=AO (l.drop i):=by
 unfold AO
 rw [List.map_drop]
theorem Aze (N:Nat) {a:Nat} {es:List E} (h8:a<=8) (hes:es.all (BI (a:Int))=true) (u:Unit) {os:List Nat} (hp:os.Perm (List.range a)) (h0:0<a):∀k f i:Nat,i+k=a-1->k<f ->
  ∃o,Qy N f (AO os,(toI (Dn a es),u),(AO os).take (a-1),(((AO os).take (a-1)).length:Int),(i:Int),())=some o /\
  (match o with | .inl d=>(d.1,d.2.1) | .inr (.inl _)=>(true,true))=(G6 a (An es) (pL (os.drop i)) (os.drop i),true):=by
 obtain ⟨n1,n2⟩:=Gz h8 hes
 have hlen:os.length=a:=by rw [hp.length_eq,List.length_range]
 have hnl:(AO os).length=os.length:=by unfold AO;exact List.length_map ..
 have hlt:∀x∈os,x<a:=fun x hx=>List.mem_range.1 (hp.mem_iff.1 hx)
 have hnd:os.Nodup:=hp.symm.nodup List.nodup_range
 have htl:((AO os).take (a-1)).length=a-1:=by rw [List.length_take];omega
 intro k
 induction k with
 | zero=>
  intro f i h1 h2
  obtain ⟨f,rfl⟩:∃m,f=m+1:=⟨f-1,by omega⟩
  show ∃o,HD _ _ _=_/\_
  unfold HD
  have e:i=((AO os).take (a-1)).length:=by omega
  have hi:i<os.length:=by omega
  have hd:=ACv hi
  have hno:¬((i:Int)<(((AO os).take (a-1)).length:Int)):=by omega
  simp only [decide_eq_false hno,ACn,if_false]
  refine ⟨_,rfl,?_⟩
  rw [hd,ACu (by omega)]
  rfl
 | succ k ih=>
  intro f i h1 h2
  obtain ⟨f,rfl⟩:∃m,f=m+1:=⟨f-1,by omega⟩
  show ∃o,HD _ _ _=_/\_
  unfold HD
  have hi:i<os.length:=by omega
  have hi1:i+1<os.length:=by omega
  have hit:i<((AO os).take (a-1)).length:=by omega
  have hd:=ACv hi
  have hd2:=ACv hi1
  have hx:os[i]<a:=hlt _ (ACw hi)
  have e:at_ I ((AO os).take (a-1)) i=(os[i]:Int):=by
   rw [Aw (e:=I) hit]
   show ((AO os).take (a-1))[i]=_
   rw [List.getElem_take]
   unfold AO
   rw [List.getElem_map]
  have hsub:(os.drop i).Nodup:=hnd.sublist (List.drop_sublist i os)
  have hsl:∀z∈os.drop i,z<a:=fun z hz=>hlt z (List.mem_of_mem_drop hz)
  have hr:=R0 hsl
  obtain ⟨m1,m2⟩:=XV h8 hr
  have hml:(AO (os.drop i)).length<=1000:=by unfold AO;rw [List.length_map,List.length_drop];omega
  have hc:(decide (0<=(i:Int))&&decide ((i:Int)<=((AO os).length:Int))&&decide (((AO os).length:Int)<=((AO os).length:Int)))=true:=by
   rw [AN,decide_eq_true (show (i:Int)<=((AO os).length:Int) by omega)]
   simp
  have hcov:=Eu n1 u () (m:=BA (AO (os.drop i))) (x:=os[i]) (by rw [n2];exact m1) (by rw [n2];exact hx)
  rw [n2] at hcov
  have hst:=X5 (n:=a) (b:=An es) (x:=os[i]) (y:=os[i+1]) (l:=os.drop (i+1+1)) (by rw [<- hd2,<- hd];exact hsub) (by rw [<- hd2,<- hd];exact hsl)
  rw [<- hd2,<- hd] at hst
  rw [hst]
  have hany:(List.range a).any (Ce a (Cr (toI (Dn a es))) (BA (AO (os.drop i))).testBit os[i])=(List.range a).any (Ce a (An es) (pL (os.drop i)) os[i]):=
   DW fun y hy=>EP (fun x y _ _=>IL h8 hes x y) (fun x hx=>by rw [m2 x hx,Se];rfl) hx hy
  simp only [AD hit,if_true,Ag hit,hc,NZ,Aky,K4 h8 hr hml,Option.bind_some,Int.toNat_natCast,e,hcov]
  cases hq:(List.range a).any (Ce a (An es) (pL (os.drop i)) os[i]) with
  | false=>
   rw [hq] at hany
   have h0:(((Ap (Ce a (Cr (toI (Dn a es))) (BA (AO (os.drop i))).testBit os[i]) a 0).length:Int)==(0:Int))=true:=by rw [JD.2 hany];rfl
   simp only [h0,if_true,Bool.false_and]
   exact ⟨_,rfl,rfl⟩
  | true=>
   rw [hq] at hany
   have:=(EC hany).1
   have h0:(((Ap (Ce a (Cr (toI (Dn a es))) (BA (AO (os.drop i))).testBit os[i]) a 0).length:Int)==(0:Int))=false:=by rw [beq_eq_false_iff_ne];omega
   simp only [h0,ACn,if_false,Bool.true_and,Aq (show i<=100000 by omega)]
   exact ih f (i+1) (by omega) (by omega)
theorem WV (d) (r) (h:CK d=some r):∃N,UT N d=some r:=by
 obtain ⟨⟨n,es,w⟩,o,v⟩:=d
 unfold CK at h
 split at h
 ·rename_i hc
  simp only [ACo] at hc
  obtain ⟨hes,ho⟩:=hc
  cases h
  refine ⟨20,?_⟩
  unfold UT Bt
  simp only [hes,if_true,Option.bind_some]
  unfold DT DB
  by_cases hgr:A9 (n,es,w)=true
  ·have hg:grB (n,es,w)=true:=De hgr hes
   obtain ⟨g1,g2,g3,g4⟩:=AV hg
   obtain ⟨a,ha⟩:∃a,a=n.toNat:=⟨_,rfl⟩
   simp only at g1 g2 g3 g4
   rw [<- ha] at g2 g3 g4
   subst g2
   by_cases h0:a=0
   ·subst h0
    simp [hgr]
   ·have hne:((a:Int)==(0:Int))=false:=by rw [beq_eq_false_iff_ne];omega
    have hor:=U3 hg ho ()
    simp only [Int.toNat_natCast] at hor
    simp only [hgr,hne,Bool.not_true,ACn,if_false,Option.bind_some,hor,decide_eq_true (show (a:Int)>0 by omega),Bool.and_self,if_true,Int.toNat_natCast]
    cases he:El a o with
    | false=>simp
    | true=>
     obtain ⟨os,rfl,hp⟩:=Jm he
     have hlen:os.length=a:=by rw [hp.length_eq,List.length_range]
     have hnl:(AO os).length=os.length:=by unfold AO;exact List.length_map ..
     have hw:IntKind.wrap .i64 ((a:Int)-1)=((a-1:Nat):Int):=by rw [IntKind.wrap_i64];omega
     have hcnd:(decide (0<=(0:Int))&&decide ((0:Int)<=((a-1:Nat):Int))&&decide (((a-1:Nat):Int)<=((AO os).length:Int)))=true:=by
      rw [decide_eq_true (show (0:Int)<=((a-1:Nat):Int) by omega),decide_eq_true (show ((a-1:Nat):Int)<=((AO os).length:Int) by omega)]
      rfl
     obtain ⟨out,k1,k2⟩:=Aze 20 g3 g4 () hp (by omega) (a-1) 20 0 (by omega) (by omega)
     simp only [Int.natCast_zero,List.drop_zero] at k1 k2
     simp only [Bool.not_true,ACn,if_false,GG hgr hes,Option.bind_some,hw,hcnd,if_true,MX,k1,EL,Bool.true_and]
     rw [Pk (fun _ _ _ _=>rfl) os (fun _=>true) (pL os) (fun x hx=>(Zz hp hx).symm) (fun x hx=>List.mem_range.1 (hp.mem_iff.1 hx))]
     rcases out with d | d | e
     ·injection k2 with k2 k3
      simp only [k2,k3]
     ·injection k2 with k2 k3
      simp only [<- k2]
     ·exact e.elim
  ·have hgr':A9 (n,es,w)=false:=by simpa using hgr
   simp only [hgr',Bool.false_and,ACn,if_false,Option.bind_some,Bool.not_false,if_true]
 ·cases h
open Go.Proofs
theorem V4 {n:Nat} (hn:n<=8) {es:List E} {m:Nat} (hm:m<2 ^ n) (h1:Ay n m.testBit≠1) :
  CV n (An es) 9 m=((List.range n).filter (Ba n (An es) m.testBit)).foldl (fun s x=>s+CV n (An es) 9 (m-2 ^ x)) 0:=by
 have h256:=OU hn
 rw [List.foldl_filter]
 show (if Ay n m.testBit=1 then 1 else _)=_
 rw [if_neg h1]
 refine SG _ _ fun x hx=>⟨rfl,fun hc => ?_⟩
 have hx:=List.mem_range.1 hx
 have h2:=XQ (List.any_eq_true.2 ⟨x,List.mem_range.2 hx,hc⟩)
 have hb:m.testBit x=true:=by
  unfold Ba at hc
  rw [ACo] at hc
  exact hc.1
 have h3:=LL hn (show m<256 by omega) hx hb
 have h4:=Js n m.testBit
 exact Aqt hn 8 9 (m-2 ^ x) (J7 (by omega)) (by omega) (by omega) (by omega)
theorem UV {n:Nat} {b:Nat->Nat->Bool} {m:Nat} (h:Ay n m.testBit=1):CV n b 9 m=1:=by
 show (if Ay n m.testBit=1 then 1 else _)=_
 rw [if_pos h]
theorem XM {n:Nat} {b:Nat->Nat->Bool}:CV n b 9 0=0:=by
 have h0:Ay n (Nat.testBit 0)=0:=by
  unfold Ay
  rw [List.countP_eq_zero]
  intro x _
  simp
 show (if Ay n (Nat.testBit 0)=1 then 1 else _)=_
 rw [if_neg (by omega)]
 have:∀(l:List Nat),l.foldl (fun s x=>if Ba n b (Nat.testBit 0) x=true then s+CV n b 8 (0-2 ^ x) else s) 0=0:=by
  intro l
  induction l with
  | nil=>rfl
  | cons a l ih=>
   rw [List.foldl_cons]
   have:Ba n b (Nat.testBit 0) a=false:=by unfold Ba;simp
   rw [this]
   exact ih
 exact this _
theorem Aew:∀n:Nat,n<9->shl .i64 (1:Int) (n:Int)=((2 ^ n:Nat):Int):=by decide
theorem Amz {m x:Nat} (h:m.testBit x=true):2 ^ x<=m:=by
 apply Classical.byContradiction
 intro hl
 rw [Nat.testBit_lt_two_pow (by omega)] at h
 cases h
theorem Yp {z:Int} (h1:0<=z) (h2:z<1000000000000000):IntKind.wrap .i64 z=z:=by rw [IntKind.wrap_i64];omega
theorem IX {ys:List Nat} {i:Nat} (hi:i<ys.length):at_ I (AO ys) i=(ys[i]:Int)/\i<(AO ys).length:=by
 have h:i<(AO ys).length:=by unfold AO;rw [List.length_map];exact hi
 refine ⟨?_,h⟩
 rw [Aw (e:=I) h]
 exact List.getElem_map (f:=fun y:Nat=>(y:Int)) (l:=ys) (h:=by rw [List.length_map];exact hi)
theorem Ayv (N:Nat) (g:Gr) {m:Nat} (hm:m<256) (C:Nat->Nat) (hC:∀j,C j<=134217728) (T:List Int) (hT:T.length=m) (hTC:∀j,j<m->at_ I T j=(C j:Int)) (ys:List Nat) (hys:∀x∈ys,x<8/\m.testBit x=true) (hl:ys.length<=8) :
  ∀k i f s:Nat,i+k=ys.length->k<f->s+k*134217728<=10000000000 ->
  Ma N f (g,T,(m:Int),(s:Int),AO ys,(i:Int),())=some (.inl (g,T,(m:Int),(((ys.drop i).foldl (fun s x=>s+C (m-2 ^ x)) s:Nat):Int),())):=by
 have hnl:(AO ys).length=ys.length:=by unfold AO;exact List.length_map ..
 intro k
 induction k with
 | zero=>
  intro i f s h1 h2 h3
  obtain ⟨f,rfl⟩:∃m,f=m+1:=⟨f-1,by omega⟩
  have e:i=(AO ys).length:=by omega
  rw [ACu (by omega)]
  subst e
  show G5 _ _ _=_
  unfold G5
  simp only [A4,ACn,if_false,List.foldl_nil]
 | succ k ih=>
  intro i f s h1 h2 h3
  obtain ⟨f,rfl⟩:∃m,f=m+1:=⟨f-1,by omega⟩
  have hi:i<ys.length:=by omega
  obtain ⟨e,hi2⟩:=IX hi
  obtain ⟨x8,xb⟩:=hys ys[i] (ACw hi)
  have hge:=Amz xb
  have hpos:=Nat.two_pow_pos ys[i]
  have hsub:IntKind.wrap .i64 ((m:Int)-((2 ^ ys[i]:Nat):Int))=((m-2 ^ ys[i]:Nat):Int):=by rw [Yp (by omega) (by omega)];omega
  have hlt:m-2 ^ ys[i]<T.length:=by omega
  have hc:=hC (m-2 ^ ys[i])
  have hsum:IntKind.wrap .i64 ((s:Int)+(C (m-2 ^ ys[i]):Int))=((s+C (m-2 ^ ys[i]):Nat):Int):=by rw [Yp (by omega) (by omega)];omega
  rw [ACv hi,List.foldl_cons]
  show G5 _ _ _=_
  unfold G5
  simp only [AD hi2,if_true,Ag hi2,Int.toNat_natCast,e,AN,GO x8,hsub,Ag hlt,hTC _ (show m-2 ^ ys[i]<m by omega),hsum,Aq (show i<=100000 by omega)]
  exact ih (i+1) f _ (by omega) (by omega) (by omega)
def L2 (n:Nat) (es:List E) (c:Nat):List Int:=(List.range c).map fun j=>((CV n (An es) 9 j:Nat):Int)
theorem Ae3 {n:Nat} {es:List E} {c j:Nat} (h:j<c):at_ I (L2 n es c) j=((CV n (An es) 9 j:Nat):Int):=by
 have hl:j<(L2 n es c).length:=by unfold L2;rw [List.length_map,List.length_range];exact h
 rw [Aw (e:=I) hl]
 exact (List.getElem_map (f:=fun j=>((CV n (An es) 9 j:Nat):Int)) (l:=List.range c) (h:=by rw [List.length_map,List.length_range];exact h)).trans (by rw [List.getElem_range])
theorem Rm {n:Nat} {es:List E} {c:Nat}:(L2 n es c).length=c:=by unfold L2;rw [List.length_map,List.length_range]
theorem Un {n:Nat} {es:List E} {c:Nat}:L2 n es (c+1)=L2 n es c++[((CV n (An es) 9 c:Nat):Int)]:=by
 unfold L2
 rw [List.range_succ,List.map_append]
 rfl
theorem OP {n:Nat} (hn:n<=8) {es:List E} (j:Nat):CV n (An es) 9 j<=134217728:=Aye hn 9 j
theorem Axa (N:Nat) (hN:20<=N) {g:Gr} (hg:grB g=true):∀k f c:Nat,c+k=2 ^ g.1.toNat->k<f->1<=c ->
  Rf N f (g,L2 g.1.toNat g.2.1 c,(c:Int),())=some (.inl (L2 g.1.toNat g.2.1 (2 ^ g.1.toNat),())):=by
 obtain ⟨g1,g2,g3,g4⟩:=AV hg
 have h256:=OU g3
 have h0:decide (0<=g.1)=true:=decide_eq_true (by omega)
 have hsh:shl .i64 (1:Int) g.1=((2 ^ g.1.toNat:Nat):Int):=by
  have:=Aew g.1.toNat (by omega)
  rw [<- g2] at this
  exact this
 intro k
 induction k with
 | zero=>
  intro f c h1 h2 h3
  obtain ⟨f,rfl⟩:∃m,f=m+1:=⟨f-1,by omega⟩
  have e:c=2 ^ g.1.toNat:=by omega
  subst e
  show Ih _ _ _=_
  unfold Ih
  simp only [h0,if_true,hsh,A4,ACn,if_false]
 | succ k ih=>
  intro f c h1 h2 h3
  obtain ⟨f,rfl⟩:∃m,f=m+1:=⟨f-1,by omega⟩
  have hc:c<2 ^ g.1.toNat:=by omega
  have hbits:Bg (g.1,(c:Int),())=some (Ap c.testBit g.1.toNat 0,()):=by
   unfold Bg
   have i1:inB 0 8 g.1=true:=AI.2 (by omega)
   have i2:inB 0 255 (c:Int)=true:=AI.2 (by omega)
   simp only [i1,i2,Bool.and_self,if_true,Int.toNat_natCast]
  have hys:∀x∈(List.range g.1.toNat).filter (Ba g.1.toNat (An g.2.1) c.testBit),x<8/\c.testBit x=true:=fun x hx=>by
   obtain ⟨hx1,hx2⟩:=List.mem_filter.1 hx
   unfold Ba at hx2
   rw [ACo] at hx2
   exact ⟨Nat.lt_of_lt_of_le (List.mem_range.1 hx1) g3,hx2.1⟩
  have hyl:((List.range g.1.toNat).filter (Ba g.1.toNat (An g.2.1) c.testBit)).length<=8:=Nat.le_trans (List.length_filter_le ..) (by rw [List.length_range];exact g3)
  have key:=fun s (hs:s<=1)=>Ayv N g (show c<256 by omega) (fun j=>CV g.1.toNat (An g.2.1) 9 j) (OP g3) (L2 g.1.toNat g.2.1 c) Rm (fun j hj=>Ae3 hj) _ hys hyl _ 0 N s (Nat.zero_add _) (by omega) (by omega)
  simp only [Int.natCast_zero,List.drop_zero] at key
  have hok:∀z:Int,decide ((L2 g.1.toNat g.2.1 c).length+[z].length<=lim)=true:=fun z=>decide_eq_true (by rw [Rm];simp only [List.length_singleton];unfold lim;omega)
  show Ih _ _ _=_
  unfold Ih
  simp only [h0,if_true,hsh,AD hc,hbits,Option.bind_some,BQ,Pb hg]
  rw [D3 g.1.toNat (Ba g.1.toNat (An g.2.1) c.testBit)]
  by_cases ho:Ay g.1.toNat c.testBit=1
  ·have h1':((Ay g.1.toNat c.testBit:Int)==(1:Int))=true:=by rw [ho];rfl
   have hnil:(List.range g.1.toNat).filter (Ba g.1.toNat (An g.2.1) c.testBit)=[]:=by
    rw [List.filter_eq_nil_iff]
    intro x hx
    have:=List.any_eq_false.1 (Il (n:=g.1.toNat) (b:=An g.2.1) (p:=c.testBit) (by omega)) x hx
    exact this
   have k1:=key 1 (by omega)
   simp only [Int.natCast_one] at k1
   rw [hnil] at k1 |-
   simp only [h1',if_true,k1,Option.bind_some,hok,Aq (show c<=100000 by omega),List.foldl_nil]
   have:=ih f (c+1) (by omega) (by omega) (by omega)
   rw [Un,UV ho] at this
   exact this
  ·have h1':((Ay g.1.toNat c.testBit:Int)==(1:Int))=false:=by rw [beq_eq_false_iff_ne];omega
   have k1:=key 0 (by omega)
   simp only [Int.natCast_zero] at k1
   simp only [h1',ACn,if_false,k1,Option.bind_some,hok,if_true,Aq (show c<=100000 by omega)]
   have:=ih f (c+1) (by omega) (by omega) (by omega)
   rw [Un,V4 g3 hc ho] at this
   exact this
theorem Wc (d) (r) (h:G4 d=some r):∃N,VM N d=some r:=by
 obtain ⟨g,v⟩:=d
 unfold G4 at h
 split at h
 ·rename_i ho
  cases h
  refine ⟨300,?_⟩
  unfold VM Fl Bt
  simp only [ho,if_true,Option.bind_some]
  unfold WU DB
  by_cases hgr:A9 g=true
  ·by_cases h0:g.1>0
   ·have hg:grB g=true:=De hgr ho
    obtain ⟨g1,g2,g3,g4⟩:=AV hg
    have h256:=OU g3
    have hpos:=Nat.two_pow_pos g.1.toNat
    have key:=Axa 300 (by omega) hg (2 ^ g.1.toNat-1) 300 1 (by omega) (by omega) (ACr _)
    have e1:L2 g.1.toNat g.2.1 1=[(0:Int)]:=by
     unfold L2
     show [((CV g.1.toNat (An g.2.1) 9 0:Nat):Int)]=_
     rw [XM]
     rfl
    rw [e1] at key
    simp only [Int.natCast_one] at key
    have hw:IntKind.wrap .i64 (((2 ^ g.1.toNat:Nat):Int)-1)=((2 ^ g.1.toNat-1:Nat):Int):=by rw [Yp (by omega) (by omega)];omega
    simp only [hgr,decide_eq_true h0,Bool.and_self,if_true,Option.bind_some,Bool.not_true,ACn,if_false,key,Rm,hw,Ag (show 2 ^ g.1.toNat-1<2 ^ g.1.toNat by omega),Int.toNat_natCast,Ae3 (show 2 ^ g.1.toNat-1<2 ^ g.1.toNat by omega)]
   ·simp only [hgr,decide_eq_false h0,Bool.and_false,ACn,if_false,if_true,Option.bind_some,Bool.not_false]
  ·have hgr':A9 g=false:=by simpa using hgr
   simp only [hgr',Bool.false_and,ACn,if_false,Option.bind_some,Bool.not_false,if_true]
 ·cases h
theorem Ao8:∀m:Nat,m<256 -> ∀x:Nat,x<8->m.testBit x=true->GI m (2 ^ x)=m-2 ^ x:=by decide +kernel
theorem AAg (N:Nat) (w:Nt) {m:Nat} (hm:m<256) (C:Nat->Nat) (hC:∀j,C j<=134217728) (T:List Int) (hT:m<T.length) (hTC:∀j,j<m->at_ I T j=(C j:Int)) (ys:List Nat) (hys:∀x∈ys,x<8/\m.testBit x=true) (hl:ys.length<=8) :
  ∀k i f s:Nat,i+k=ys.length->k<f->s+k*134217728<=10000000000 ->
  QO N f (w,T.set m (s:Int),(m:Int),AO ys,((AO ys).length:Int),(i:Int),())=some (.inl (w,T.set m (((ys.drop i).foldl (fun s x=>s+C (m-2 ^ x)) s:Nat):Int),(m:Int),())):=by
 have hnl:(AO ys).length=ys.length:=by unfold AO;exact List.length_map ..
 intro k
 induction k with
 | zero=>
  intro i f s h1 h2 h3
  obtain ⟨f,rfl⟩:∃m,f=m+1:=⟨f-1,by omega⟩
  have e:i=(AO ys).length:=by omega
  rw [ACu (by omega)]
  subst e
  show G7 _ _ _=_
  unfold G7
  simp only [A4,ACn,if_false,List.foldl_nil]
 | succ k ih=>
  intro i f s h1 h2 h3
  obtain ⟨f,rfl⟩:∃m,f=m+1:=⟨f-1,by omega⟩
  have hi:i<ys.length:=by omega
  obtain ⟨e,hi2⟩:=IX hi
  obtain ⟨x8,xb⟩:=hys ys[i] (ACw hi)
  have hge:=Amz xb
  have hpos:=Nat.two_pow_pos ys[i]
  have hba:bits .andNot .i64 (m:Int) ((2 ^ ys[i]:Nat):Int)=((m-2 ^ ys[i]:Nat):Int):=by
   have:bits .andNot .i64 (m:Int) ((2 ^ ys[i]:Nat):Int)=((GI m (2 ^ ys[i]):Nat):Int):=GS hm (CL x8)
   rw [this,Ao8 m hm _ x8 xb]
  have hls:∀z:Int,(T.set m z).length=T.length:=fun z=>List.length_set ..
  have hlt:m-2 ^ ys[i]<(T.set m (s:Int)).length:=by rw [hls];omega
  have hlm:m<(T.set m (s:Int)).length:=by rw [hls];exact hT
  have hc:=hC (m-2 ^ ys[i])
  have hat:at_ I (T.set m (s:Int)) m=(s:Int):=by
   rw [Aw (e:=I) hlm]
   show (T.set m (s:Int))[m]=_
   rw [List.getElem_set_self]
  have hat2:at_ I (T.set m (s:Int)) (m-2 ^ ys[i])=(C (m-2 ^ ys[i]):Int):=by
   rw [Afk (by omega)]
   exact hTC _ (by omega)
  have hsum:IntKind.wrap .i64 ((s:Int)+(C (m-2 ^ ys[i]):Int))=((s+C (m-2 ^ ys[i]):Nat):Int):=by rw [Yp (by omega) (by omega)];omega
  rw [ACv hi,List.foldl_cons]
  show G7 _ _ _=_
  unfold G7
  simp only [AD hi2,if_true,Ag hi2,Int.toNat_natCast,e,AN,GO x8,hba,Ag hlt,Ag hlm,hat,hat2,hsum,Aq (show i<=100000 by omega),List.set_set]
  exact ih (i+1) f _ (by omega) (by omega) (by omega)
def Fg (n:Nat) (es:List E) (L c:Nat):List Int:=(List.range L).map fun j=>if j<c then ((CV n (An es) 9 j:Nat):Int) else 0
theorem D1 {n:Nat} {es:List E} {L c:Nat}:(Fg n es L c).length=L:=by unfold Fg;rw [List.length_map,List.length_range]
theorem Hl {n:Nat} {es:List E} {L c j:Nat} (h:j<(Fg n es L c).length):(Fg n es L c)[j]=if j<c then ((CV n (An es) 9 j:Nat):Int) else 0:=by
 have h2:j<L:=by rw [D1] at h;exact h
 exact (List.getElem_map (f:=fun j=>if j<c then ((CV n (An es) 9 j:Nat):Int) else 0) (l:=List.range L) (h:=by rw [List.length_map,List.length_range];exact h2)).trans (by rw [List.getElem_range])
theorem Xc {n:Nat} {es:List E} {L c j:Nat} (h:j<c) (hc:c<=L):at_ I (Fg n es L c) j=((CV n (An es) 9 j:Nat):Int):=by
 have hl:j<(Fg n es L c).length:=by rw [D1];omega
 rw [Aw (e:=I) hl]
 show (Fg n es L c)[j]=_
 rw [Hl hl,if_pos h]
theorem Us {n:Nat} {es:List E} {L c:Nat}:(Fg n es L c).set c ((CV n (An es) 9 c:Nat):Int)=Fg n es L (c+1):=by
 apply List.ext_getElem
 ·rw [List.length_set,D1,D1]
 ·intro i h1 h2
  rw [List.getElem_set,Hl,Hl]
  by_cases e:c=i
  ·subst e;simp
  ·rw [if_neg e]
   by_cases h:i<c
   ·rw [if_pos h,if_pos (by omega)]
   ·rw [if_neg h,if_neg (by omega)]
theorem Abw {n:Nat} {es:List E} {L c:Nat}:(Fg n es L c).set c 0=Fg n es L c:=by
 apply List.ext_getElem
 ·rw [List.length_set]
 ·intro i h1 h2
  rw [List.getElem_set]
  split
  ·rename_i e
   subst e
   rw [Hl,if_neg (Nat.lt_irrefl _)]
  ·rfl
theorem Az8 (N:Nat) (hN:20<=N) {a:Nat} {es:List E} (h8:a<=8) (hes:es.all (BI (a:Int))=true) (u:Unit):∀k f c:Nat,c+k=2 ^ a->k<f->1<=c ->
  QD N f ((toI (Dn a es),u),Fg a es (2 ^ a) c,(c:Int),())=some (.inl ((toI (Dn a es),u),Fg a es (2 ^ a) (2 ^ a),())):=by
 obtain ⟨n1,n2⟩:=Gz h8 hes
 have h256:=OU h8
 intro k
 induction k with
 | zero=>
  intro f c h1 h2 h3
  obtain ⟨f,rfl⟩:∃m,f=m+1:=⟨f-1,by omega⟩
  have e:c=2 ^ a:=by omega
  subst e
  show HS _ _ _=_
  unfold HS
  simp only [D1,A4,ACn,if_false]
 | succ k ih=>
  intro f c h1 h2 h3
  obtain ⟨f,rfl⟩:∃m,f=m+1:=⟨f-1,by omega⟩
  have hc:c<2 ^ a:=by omega
  have htest:=XN c (by omega) (by omega)
  rw [Su h8 hc] at htest
  have hcl:c<(Fg a es (2 ^ a) c).length:=by rw [D1];exact hc
  have hnext:=ih f (c+1) (by omega) (by omega) (by omega)
  have hlt2:decide ((c:Int)<((Fg a es (2 ^ a) c).length:Int))=true:=AD hcl
  show HS _ _ _=_
  unfold HS
  by_cases ho:Ay a c.testBit=1
  ·rw [ho] at htest
   have h0:(bits .and .i64 (c:Int) (IntKind.wrap .i64 ((c:Int)-1))==(0:Int))=true:=by
    cases hb:(bits .and .i64 (c:Int) (IntKind.wrap .i64 ((c:Int)-1))==(0:Int)) with
    | true=>rfl
    | false=>unfold bne at htest;rw [hb] at htest;simp at htest
   simp only [hlt2,if_true,h0,Ag hcl,Int.toNat_natCast,Aq (show c<=100000 by omega)]
   rw [<- Us (n:=a) (es:=es) (L:=2 ^ a) (c:=c),UV ho] at hnext
   exact hnext
  ·have h0:(bits .and .i64 (c:Int) (IntKind.wrap .i64 ((c:Int)-1))==(0:Int))=false:=by
    cases hb:(bits .and .i64 (c:Int) (IntKind.wrap .i64 ((c:Int)-1))==(0:Int)) with
    | false=>rfl
    | true=>unfold bne at htest;rw [hb,decide_eq_false ho] at htest;simp at htest
   have hcor:Lc 0 ((toI (Dn a es),u),(c:Int),())=some (AO ((List.range a).filter (Ba a (An es) c.testBit)),()):=by
    have:=Fu n1 u () (m:=c) (by rw [n2];exact hc)
    rw [n2] at this
    have hse:Ap (Ba a (Cr (toI (Dn a es))) c.testBit) a 0=Ap (Ba a (An es) c.testBit) a 0:=Bm fun y _ hy=>In (fun x y _ _=>IL h8 hes x y) (fun _ _=>rfl) (by omega)
    rw [this,hse,D3]
   have hys:∀x∈(List.range a).filter (Ba a (An es) c.testBit),x<8/\c.testBit x=true:=fun x hx=>by
    obtain ⟨hx1,hx2⟩:=List.mem_filter.1 hx
    unfold Ba at hx2
    rw [ACo] at hx2
    exact ⟨Nat.lt_of_lt_of_le (List.mem_range.1 hx1) h8,hx2.1⟩
   have hyl:((List.range a).filter (Ba a (An es) c.testBit)).length<=8:=Nat.le_trans (List.length_filter_le ..) (by rw [List.length_range];exact h8)
   have key:=AAg N (toI (Dn a es),u) (show c<256 by omega) (fun j=>CV a (An es) 9 j) (OP h8) (Fg a es (2 ^ a) c) hcl (fun j hj=>Xc hj (by omega)) _ hys hyl _ 0 N 0 (Nat.zero_add _) (by omega) (by omega)
   simp only [Int.natCast_zero,List.drop_zero,Abw] at key
   simp only [hlt2,if_true,h0,ACn,if_false,hcor,Option.bind_some,key,Aq (show c<=100000 by omega)]
   rw [<- Us (n:=a) (es:=es) (L:=2 ^ a) (c:=c),V4 h8 hc ho] at hnext
   exact hnext
theorem Wd (d) (r) (h:G4 d=some r):∃N,Ws N d=some r:=by
 obtain ⟨⟨n,es,w⟩,v⟩:=d
 unfold G4 at h
 split at h
 ·rename_i ho
  cases h
  have ho:okL es=true:=ho
  refine ⟨300,?_⟩
  unfold Ws Bt
  simp only [ho,if_true,Option.bind_some]
  unfold WU DB
  by_cases hgr:A9 (n,es,w)=true
  ·have hg:grB (n,es,w)=true:=De hgr ho
   obtain ⟨g1,g2,g3,g4⟩:=AV hg
   obtain ⟨a,ha⟩:∃a,a=n.toNat:=⟨_,rfl⟩
   simp only at g1 g2 g3 g4
   rw [<- ha] at g2 g3 g4
   subst g2
   by_cases h0:a=0
   ·subst h0
    simp [hgr]
   ·have hne:((a:Int)==(0:Int))=false:=by rw [beq_eq_false_iff_ne];omega
    have h256:=OU g3
    have hpos:=Nat.two_pow_pos a
    have hsh:=Aew a (by omega)
    have hc1:decide (((2 ^ a:Nat):Int)<=((2 ^ a:Nat):Int))=true:=decide_eq_true (Int.le_refl _)
    have hc2:decide (((2 ^ a:Nat):Int)<=(lim:Int))=true:=decide_eq_true (by unfold lim;omega)
    have e1:List.replicate (2 ^ a) (0:Int)=Fg a es (2 ^ a) 1:=by
     apply List.ext_getElem
     ·rw [List.length_replicate,D1]
     ·intro i h1 h2
      rw [List.getElem_replicate,Hl]
      split
      ·rename_i h
       have:i=0:=by omega
       subst this
       rw [XM]
       rfl
      ·rfl
    have key:=Az8 300 (by omega) g3 g4 () (2 ^ a-1) 300 1 (by omega) (by omega) (ACr _)
    rw [<- e1] at key
    simp only [Int.natCast_one] at key
    simp only [hgr,hne,Bool.not_true,ACn,if_false,Option.bind_some,GG hgr ho,AN,if_true,hsh,hc1,hc2,Bool.and_self,Int.toNat_natCast,key,Au8 g3 g4 () (),D1,Ag (show 2 ^ a-1<2 ^ a by omega),Xc (show 2 ^ a-1<2 ^ a by omega) (ACr _),decide_eq_true (show (a:Int)>0 by omega),Bool.and_self]
  ·have hgr':A9 (n,es,w)=false:=by simpa using hgr
   simp only [hgr',Bool.false_and,ACn,if_false,Option.bind_some,Bool.not_false,if_true]
 ·cases h
open Go.Proofs
theorem Ag6 (d) (r) (h:Bg d=some r):∃N,FR N d=some r:=by
 obtain ⟨n,m,_⟩:=d
 unfold Bg at h
 split at h
 ·rename_i hc
  simp only [ACo] at hc
  obtain ⟨hn,hm⟩:=hc
  have hn:=AI.1 hn
  have hm:=AI.1 hm
  obtain ⟨a,rfl⟩:=En hn.1
  obtain ⟨b,rfl⟩:=En hm.1
  have h:=ACs h
  subst h
  refine ⟨20,?_⟩
  unfold FR
  have:=F5 (L:=E3 20) (r:=DO 20) (fun _ _=>rfl) (List.range' 0 a) (mk:=fun i A=>((a:Int),(b:Int),A,(i:Int),())) (f:=fun y=>if b.testBit y=true then [(y:Int)] else []) (o:=fun A=>.inl (A,())) (fun x=>UA) (by
    intro back i hi A hA
    simp only [List.length_range'] at hi
    unfold DO
    have hle:decide (A.length+List.length [(i:Int)]<=lim)=true:=by unfold lim;simp;omega
    simp only [AD hi,if_true,AN,U1 (show b<256 by omega) (show i<8 by omega),hle,Jy hi (by omega),List.getElem_range',Nat.one_mul,Nat.zero_add]
    by_cases hb:b.testBit i=true
    ·simp only [hb,if_true]
    ·simp only [hb,if_false,List.append_nil,ACn])
   (by
    intro back A hA
    unfold DO
    simp only [List.length_range',A4,ACn,if_false]) 19 (by simp;omega)
  rw [TI] at this
  simp only [Int.natCast_zero] at this
  simp only [this,Option.bind_some,Int.toNat_natCast]
 ·cases h
theorem Acn {g:Gr} (hg:grB g=true) (x y:Nat) (v:Unit):Iw (g,(x:Int),(y:Int),v)=some (An g.2.1 x y,()):=by
 obtain ⟨g1,g2,g3,g4⟩:=AV hg
 unfold Iw
 rw [if_pos (show okL (g,(x:Int),(y:Int),v).1.2.1=true from g1)]
 have e:((x:Int)==(y:Int))=decide (y=x):=by
  by_cases h:y=x
  ·subst h;simp
  ·rw [decide_eq_false h,beq_eq_false_iff_ne]
   omega
 show some (((x:Int)==(y:Int))||BH g.2.1 (x:Int) (y:Int),())=_
 unfold An
 rw [e,Bool.or_comm]
theorem AA0 (N:Nat) {g:Gr} (hg:grB g=true) (ys:List Nat) (hl:ys.length<=8) (self:((Int×(List (Int×Int×Unit))×Unit)×List Int×Unit)->Option (Int×Unit)) (acc:Int) {i j:Nat} (hi:i<ys.length) (hj:j<ys.length) (cor:Bool) :
  ∀r f k (c:Bool),k+r=ys.length->r<f->Kt N self f (AO ys,g,acc,(i:Int),cor,(j:Int),c,(k:Int),()) =
   some (.inl (AO ys,g,acc,(i:Int),cor,(j:Int),(c&&(ys.drop k).all fun z => !An g.2.1 ys[i] z||An g.2.1 ys[j] z),())):=by
 obtain ⟨ei,hi2⟩:=IX hi
 obtain ⟨ej,hj2⟩:=IX hj
 intro r
 induction r with
 | zero=>
  intro f k c h1 h2
  obtain ⟨f,rfl⟩:∃m,f=m+1:=⟨f-1,by omega⟩
  have hnl:(AO ys).length=ys.length:=by unfold AO;exact List.length_map ..
  have e:k=(AO ys).length:=by omega
  rw [ACu (by omega)]
  subst e
  show Gc _ _ _ _=_
  unfold Gc
  simp only [A4,ACn,if_false,List.all_nil,Bool.and_true]
 | succ r ih=>
  intro f k c h1 h2
  obtain ⟨f,rfl⟩:∃m,f=m+1:=⟨f-1,by omega⟩
  have hk:k<ys.length:=by omega
  obtain ⟨ek,hk2⟩:=IX hk
  rw [ACv hk,List.all_cons]
  show Gc _ _ _ _=_
  unfold Gc
  simp only [AD hk2,if_true,Aq (show k<=100000 by omega)]
  cases c with
  | false=>
   simp only [ACn,if_false,Bool.false_and]
   have:=ih f (k+1) false (by omega) (by omega)
   simp only [Bool.false_and] at this
   exact this
  | true=>
   simp only [if_true,Ag hi2,Ag hk2,Ag hj2,Int.toNat_natCast,ei,ej,ek,Acn hg,Option.bind_some,Bool.true_and]
   cases hb:An g.2.1 ys[i] ys[k] with
   | false=>
    simp only [Bool.not_false,if_true,Bool.true_or,Bool.true_and]
    have:=ih f (k+1) true (by omega) (by omega)
    simp only [Bool.true_and] at this
    exact this
   | true=>
    simp only [Bool.not_true,ACn,if_false,Bool.false_or]
    exact ih f (k+1) (An g.2.1 ys[j] ys[k]) (by omega) (by omega)
def UY (es:List E) (ys:List Nat) (x y:Nat):Bool := !decide (y=x)&&ys.all fun z => !An es x z||An es y z
theorem AA6 (N:Nat) (hN:20<=N) {g:Gr} (hg:grB g=true) (ys:List Nat) (hnd:ys.Nodup) (hl:ys.length<=8) (self:((Int×(List (Int×Int×Unit))×Unit)×List Int×Unit)->Option (Int×Unit)) (acc:Int) {i:Nat} (hi:i<ys.length) :
  ∀r f k (c:Bool),k+r=ys.length->r<f->KN N self f (AO ys,g,acc,(i:Int),c,(k:Int),()) =
   some (.inl (AO ys,g,acc,(i:Int),(c||(ys.drop k).any (UY g.2.1 ys ys[i])),())):=by
 intro r
 induction r with
 | zero=>
  intro f k c h1 h2
  obtain ⟨f,rfl⟩:∃m,f=m+1:=⟨f-1,by omega⟩
  have hnl:(AO ys).length=ys.length:=by unfold AO;exact List.length_map ..
  have e:k=(AO ys).length:=by omega
  rw [ACu (by omega)]
  subst e
  show Ga _ _ _ _=_
  unfold Ga
  simp only [A4,ACn,if_false,List.any_nil,Bool.or_false]
 | succ r ih=>
  intro f k c h1 h2
  obtain ⟨f,rfl⟩:∃m,f=m+1:=⟨f-1,by omega⟩
  have hk:k<ys.length:=by omega
  obtain ⟨ek,hk2⟩:=IX hk
  have key:=AA0 N hg ys hl self acc hi hk c ys.length N 0 ((k:Int) != (i:Int)) (Nat.zero_add _) (by omega)
  simp only [Int.natCast_zero,List.drop_zero] at key
  have hc:((k:Int) != (i:Int)) = !decide (ys[k]=ys[i]):=by
   by_cases e:k=i
   ·subst e;simp
   ·have h1:((k:Int)==(i:Int))=false:=by rw [beq_eq_false_iff_ne];omega
    have h2:ys[k]≠ys[i]:=fun h=>e ((List.getElem_inj hnd).1 h)
    simp [bne,h1,h2]
  rw [hc] at key
  rw [ACv hk,List.any_cons]
  show Ga _ _ _ _=_
  unfold Ga
  simp only [AD hk2,if_true,hc,key,Option.bind_some,Aq (show k<=100000 by omega)]
  have he:(!decide (ys[k]=ys[i])&&ys.all fun z => !An g.2.1 ys[i] z||An g.2.1 ys[k] z)=UY g.2.1 ys ys[i] ys[k]:=rfl
  simp only [he]
  cases hcv:UY g.2.1 ys ys[i] ys[k] with
  | true=>
   simp only [if_true,Bool.true_or,Bool.or_true]
   have:=ih f (k+1) true (by omega) (by omega)
   simp only [Bool.true_or] at this
   split<;>exact this
  | false=>
   simp only [ACn,if_false,Bool.false_or]
   cases c with
   | true=>exact ih f (k+1) true (by omega) (by omega)
   | false=>exact ih f (k+1) false (by omega) (by omega)
theorem Mg:∀(l:List Nat) (i:Nat) (h:i<l.length),l.Nodup->l.take i++l.drop (i+1)=l.filter fun y => !decide (y=l[i]):=by
 intro l
 induction l with
 | nil=>intro i h;simp at h
 | cons a l ih=>
  intro i h hn
  rw [List.nodup_cons] at hn
  cases i with
  | zero=>
   simp only [List.take_zero,List.nil_append,List.drop_succ_cons,List.drop_zero,List.getElem_cons_zero,List.filter_cons,decide_true,Bool.not_true,ACn,if_false]
   symm
   rw [List.filter_eq_self]
   intro x hx
   simpa using fun e=>hn.1 (by rw [<- e];exact hx)
  | succ i=>
   have hi:i<l.length:=by simpa using h
   have hne:a≠l[i]:=fun e=>hn.1 (by rw [e];exact ACw hi)
   simp only [List.take_succ_cons,List.drop_succ_cons,List.cons_append,List.getElem_cons_succ,List.filter_cons,hne,decide_false,Bool.not_false,if_true]
   rw [ih i hi hn.2]
theorem ABv (N:Nat) (hN:20<=N) {g:Gr} (hg:grB g=true) (ys:List Nat) (hnd:ys.Nodup) (hl:ys.length<=8) (self:((Int×(List (Int×Int×Unit))×Unit)×List Int×Unit)->Option (Int×Unit)) (C:Nat->Nat) (hC:∀x,C x<=134217728)
  (hself:∀x∈ys,self (g,AO (ys.filter fun y => !decide (y=x)),())=some ((C x:Int),())) :
  ∀r f i s,i+r=ys.length->r<f->s+r*134217728<=10000000000->LX N self f (AO ys,g,((s:Nat):Int),(i:Int),()) =
   some (.inl ((((ys.drop i).foldl (fun s x=>if ys.any (UY g.2.1 ys x)=true then s+C x else s) s:Nat):Int),())):=by
 have hnl:(AO ys).length=ys.length:=by unfold AO;exact List.length_map ..
 intro r
 induction r with
 | zero=>
  intro f i s h1 h2 h3
  obtain ⟨f,rfl⟩:∃m,f=m+1:=⟨f-1,by omega⟩
  have e:i=(AO ys).length:=by omega
  rw [ACu (by omega)]
  subst e
  show Gd _ _ _ _=_
  unfold Gd
  simp only [A4,ACn,if_false,List.foldl_nil]
 | succ r ih=>
  intro f i s h1 h2 h3
  obtain ⟨f,rfl⟩:∃m,f=m+1:=⟨f-1,by omega⟩
  have hi:i<ys.length:=by omega
  have h3'':s+134217728+r*134217728<=10000000000:=by
   rw [Nat.add_mul,Nat.one_mul] at h3
   generalize r*134217728=z at h3 |-
   clear hself hC ih
   omega
  have h3':s+r*134217728<=10000000000:=Nat.le_trans (Nat.add_le_add_right (Nat.le_add_right _ _) _) h3''
  obtain ⟨ei,hi2⟩:=IX hi
  have key:=AA6 N hN hg ys hnd hl self (s:Int) hi ys.length N 0 false (Nat.zero_add _) (by omega)
  simp only [Int.natCast_zero,List.drop_zero,Bool.false_or] at key
  rw [ACv hi,List.foldl_cons]
  show Gd _ _ _ _=_
  unfold Gd
  simp only [AD hi2,if_true,key,Option.bind_some,Aq (show i<=100000 by omega)]
  cases hc:ys.any (UY g.2.1 ys ys[i]) with
  | false=>
   simp only [ACn,if_false]
   exact ih f (i+1) s (by omega) (by omega) h3'
  | true=>
   have c1:(decide (0<=(0:Int))&&decide ((0:Int)<=(i:Int))&&decide ((i:Int)<=((AO ys).length:Int)))=true:=by
    rw [AN,decide_eq_true (show (i:Int)<=((AO ys).length:Int) by omega)]
    rfl
   have c2:(decide (0<=((i+1:Nat):Int))&&decide (((i+1:Nat):Int)<=((AO ys).length:Int))&&decide (((AO ys).length:Int)<=((AO ys).length:Int)))=true:=by
    rw [AN,decide_eq_true (show ((i+1:Nat):Int)<=((AO ys).length:Int) by omega)]
    simp
   have hlist:((AO ys).take i)++((AO ys).drop (i+1))=AO (ys.filter fun y => !decide (y=ys[i])):=by
    rw [<- Mg ys i hi hnd]
    unfold AO
    rw [List.map_append,List.map_take,List.map_drop]
   have l1:decide (([]:List Int).length+((AO ys).take i).length<=lim)=true:=decide_eq_true (by rw [List.length_take];simp only [List.length_nil];unfold lim;omega)
   have l2:decide ((([]:List Int)++(AO ys).take i).length+((AO ys).drop (i+1)).length<=lim)=true:=decide_eq_true (by rw [List.nil_append,List.length_take,List.length_drop];unfold lim;omega)
   have hs:=hself ys[i] (ACw hi)
   have hcb:=hC ys[i]
   have hsum:IntKind.wrap .i64 ((s:Int)+(C ys[i]:Int))=((s+C ys[i]:Nat):Int):=by rw [Yp (by omega) (by omega)];omega
   simp only [if_true,MX,NZ,c1,c2,l1,l2]
   rw [List.nil_append,hlist]
   simp only [hs,Option.bind_some,hsum]
   exact ih f (i+1) _ (by omega) (by omega) (Nat.le_trans (Nat.add_le_add_right (Nat.add_le_add_left hcb s) _) h3'')
theorem Apz {n:Nat} {es:List E} {p:Nat->Bool} {x y:Nat} (hy:p y=true):UY es ((List.range n).filter p) x y=Ce n (An es) p x y:=by
 unfold UY Ce
 rw [hy,Bool.and_true,List.all_filter]
 congr 1
 ·congr 1;exact decide_eq_decide.2 eq_comm
 ·congr 1
  funext z
  cases p z<;>simp
theorem Anp {n:Nat} {es:List E} {p:Nat->Bool} {x:Nat} (hx:p x=true):((List.range n).filter p).any (UY es ((List.range n).filter p) x)=Ba n (An es) p x:=by
 unfold Ba
 rw [hx,Bool.true_and,List.any_filter]
 refine DW fun y hy => ?_
 cases hp:p y with
 | false=>
  unfold Ce
  rw [hp]
  simp
 | true=>rw [Bool.true_and,Apz hp]
theorem Am8 {n:Nat} (hn:n<=8) {p:Nat->Bool} {x:Nat} (hx:SP n p x):BA (Ap (BC p x) n 0)=BA (Ap p n 0)-2 ^ x:=by
 obtain ⟨a1,a2,_⟩:=Hf hn p
 obtain ⟨b1,b2,_⟩:=Hf hn (BC p x)
 have h256:=OU hn
 have hb:(BA (Ap p n 0)).testBit x=true:=by rw [a2 x hx.1];exact hx.2
 apply Nat.eq_of_testBit_eq
 intro y
 by_cases hy:y<n
 ·rw [b2 y hy,Qr _ (by omega) x (Nat.lt_of_lt_of_le hx.1 hn) hb y (by omega),a2 y hy]
  rfl
 ·rw [E6 b1 (by omega),E6 (Nat.lt_of_le_of_lt (Nat.sub_le _ _) a1) (by omega)]
theorem Atm {g:Gr} (hg:grB g=true):∀(k:Nat) (p:Nat->Bool) (v:Unit),Ay g.1.toNat p<=k->CZ (20+k+1) (g,Ap p g.1.toNat 0,v)=some (((CV g.1.toNat (An g.2.1) 9 (BA (Ap p g.1.toNat 0)):Nat):Int),()):=by
 obtain ⟨g1,g2,g3,g4⟩:=AV hg
 have step:∀(N:Nat) (p:Nat->Bool) (v:Unit),20<=N->(∀x,SP g.1.toNat p x->CZ N (g,Ap (BC p x) g.1.toNat 0,())=some (((CV g.1.toNat (An g.2.1) 9 (BA (Ap (BC p x) g.1.toNat 0)):Nat):Int),())) ->
   CZ (N+1) (g,Ap p g.1.toNat 0,v)=some (((CV g.1.toNat (An g.2.1) 9 (BA (Ap p g.1.toNat 0)):Nat):Int),()):=by
  intro N p v hN hself
  obtain ⟨a1,a2,a3⟩:=Hf g3 p
  unfold CZ
  simp only [BQ]
  by_cases h1:Ay g.1.toNat p=1
  ·have:((Ay g.1.toNat p:Int)==(1:Int))=true:=by rw [h1];rfl
   simp only [this,if_true]
   rw [UV (by rw [a3];exact h1)]
   rfl
  ·have:((Ay g.1.toNat p:Int)==(1:Int))=false:=by rw [beq_eq_false_iff_ne];omega
   simp only [this,ACn,if_false]
   obtain ⟨ys,hys⟩:∃ys,ys=(List.range g.1.toNat).filter p:=⟨_,rfl⟩
   have hset:Ap p g.1.toNat 0=AO ys:=by rw [hys,D3]
   have hmem:∀x∈ys,SP g.1.toNat p x:=fun x hx=>by
    rw [hys] at hx
    obtain ⟨h1,h2⟩:=List.mem_filter.1 hx
    exact ⟨List.mem_range.1 h1,h2⟩
   have hnd:ys.Nodup:=by rw [hys];exact List.nodup_range.sublist List.filter_sublist
   have hl:ys.length<=8:=by rw [hys];exact Nat.le_trans (List.length_filter_le ..) (by rw [List.length_range];exact g3)
   have hout:∀x,AO (ys.filter fun y => !decide (y=x))=Ap (BC p x) g.1.toNat 0:=fun x=>by
    rw [hys,List.filter_filter,D3]
    congr 2
    funext y
    unfold BC
    exact Bool.and_comm ..
   have key:=ABv N hN hg ys hnd hl (CZ N) (fun x=>CV g.1.toNat (An g.2.1) 9 (BA (Ap p g.1.toNat 0)-2 ^ x)) (fun x=>OP g3 _)
    (fun x hx=>by rw [hout x,hself x (hmem x hx),Am8 g3 (hmem x hx)]) ys.length N 0 0 (Nat.zero_add _) (by omega) (by omega)
   simp only [Int.natCast_zero,List.drop_zero] at key
   rw [<- hset] at key
   simp only [key,Option.bind_some]
   rw [V4 g3 a1 (by rw [a3];exact h1)]
   congr 2
   rw [List.foldl_filter,hys,List.foldl_filter]
   have:∀(l:List Nat) (s:Nat),(∀x∈l,x<g.1.toNat)->List.foldl (fun s x=>if p x=true then (if ((List.range g.1.toNat).filter p).any (UY g.2.1 ((List.range g.1.toNat).filter p) x)=true then s+CV g.1.toNat (An g.2.1) 9 (BA (Ap p g.1.toNat 0)-2 ^ x) else s) else s) s l =
     List.foldl (fun s x=>if Ba g.1.toNat (An g.2.1) (BA (Ap p g.1.toNat 0)).testBit x=true then s+CV g.1.toNat (An g.2.1) 9 (BA (Ap p g.1.toNat 0)-2 ^ x) else s) s l:=by
    intro l
    induction l with
    | nil=>intro s _;rfl
    | cons x l ih=>
     intro s hx
     have hxn:=hx x (List.mem_cons_self ..)
     rw [List.foldl_cons,List.foldl_cons,In (b:=An g.2.1) (b':=An g.2.1) (fun _ _ _ _=>rfl) a2 hxn]
     cases hp:p x with
     | false=>
      have:Ba g.1.toNat (An g.2.1) p x=false:=by unfold Ba;rw [hp];rfl
      rw [this]
      simp only [ACn,if_false]
      exact ih s fun y hy=>hx y (List.mem_cons_of_mem _ hy)
     | true=>
      rw [if_pos rfl,Anp hp]
      exact ih _ fun y hy=>hx y (List.mem_cons_of_mem _ hy)
   exact congrArg _ (this _ 0 fun x hx=>List.mem_range.1 hx)
 intro k
 induction k with
 | zero=>
  intro p v h
  exact step 20 p v (ACr _) fun x hx=>by
   have:=C8 hx
   omega
 | succ k ih=>
  intro p v h
  exact step (20+k+1) p v (by omega) fun x hx=>ih (BC p x) () (by have:=C8 hx;omega)
theorem WS (d) (r) (h:DZ d=some r):∃N,CZ N d=some r:=by
 obtain ⟨g,s,v⟩:=d
 unfold DZ at h
 split at h
 ·rename_i hc
  simp only [ACo] at hc
  obtain ⟨hg,hs⟩:=hc
  cases h
  have:=Atm hg g.1.toNat (BR s) v (Js _ _)
  rw [<- Km hs] at this
  exact ⟨_,this⟩
 ·cases h
open Go.Proofs
theorem Aoo (x:Int) (u:Unit):(Fp (x,8,u)).1<=8:=by
 unfold Fp
 simp only
 split
 ·rename_i hh
  have:=of_decide_eq_true hh
  simp only
  omega
 ·exact Int.le_refl _
theorem Ahh (N:Nat) (g:Gr):∀(k f i:Nat) (c:Cur) (l:List Int),i+k=8->k<f->I8 c->c.2.1+10*(k:Int)<=GU->l.length=i ->
  Ok (Qt N f (c,g,l,(i:Int),())) fun o => ∃c' l',o=.inl (c',l',())/\Adv (10*(k:Int)) c c'/\l'.length<=8:=by
 intro k
 induction k with
 | zero=>
  intro f i c l h1 h2 h3 h4 h5
  obtain ⟨f,rfl⟩:∃m,f=m+1:=⟨f-1,by omega⟩
  have hlt:decide ((i:Int)<(Fp (g.1,8,())).1)=false:=decide_eq_false (by have:=Aoo g.1 ();omega)
  show Ok (Hy _ _ _) _
  unfold Hy
  simp only [hlt,ACn,if_false]
  exact Ok.some ⟨c,l,rfl,⟨h3,by omega⟩,by omega⟩
 | succ k ih=>
  intro f i c l h1 h2 h3 h4 h5
  obtain ⟨f,rfl⟩:∃m,f=m+1:=⟨f-1,by omega⟩
  show Ok (Hy _ _ _) _
  unfold Hy
  simp only
  refine Ok.ite (fun _ => ?_) fun _=>Ok.some ⟨c,l,rfl,⟨h3,by omega⟩,by omega⟩
  rw [Aq (show l.length<=100000 by omega),Aq (show i<=100000 by omega)]
  refine Ok.bind (CF h3 (by omega)) fun r hr => ?_
  obtain ⟨r0,r1,ra⟩:=hr
  have b:=ra.2
  obtain ⟨q,hq⟩:=En r0
  have hql:q<=l.length:=by rw [hq] at r1;omega
  rw [hq,MX,NZ]
  refine Ok.pos (by rw [AN,decide_eq_true (show (q:Int)<=(l.length:Int) by omega)];rfl) ?_
  refine Ok.pos (decide_eq_true (by rw [List.length_take];simp only [List.length_nil];unfold lim;omega)) ?_
  refine Ok.pos (decide_eq_true (by simp only [List.nil_append,List.length_take,List.length_singleton];unfold lim;omega)) ?_
  refine Ok.pos (by rw [AN,decide_eq_true (show (q:Int)<=(l.length:Int) by omega)];simp) ?_
  refine Ok.pos (decide_eq_true (by simp only [List.nil_append,List.length_append,List.length_take,List.length_drop,List.length_singleton];unfold lim;omega)) ?_
  refine (ih f (i+1) r.2.1 _ (by omega) (by omega) ra.1 (by omega) (by simp only [List.nil_append,List.length_append,List.length_take,List.length_drop,List.length_singleton];omega)).mono fun o ho => ?_
  obtain ⟨c',l',e1,e2,e3⟩:=ho
  exact ⟨c',l',e1,(ra.trans e2).le (by omega),e3⟩
theorem Ajd {c:Cur} {g:Gr} (h:I8 c) (hf:c.2.1+200<=GU):Ok (Cq JM Hu (c,g,())) (Hu (c,g,())):=by
 refine Ok.pick 20 ?_
 unfold JM
 simp only
 have h0:=Ahh 20 g 8 20 0 c [] rfl (by omega) h (by omega) rfl
 simp only [Int.natCast_zero] at h0
 refine Ok.bind h0 fun o ho => ?_
 obtain ⟨c',l',rfl,a2,l2⟩:=ho
 have b2:=a2.2
 refine Ok.bind (Jz a2.1 (by simp only;omega)) fun s hs => ?_
 have b3:=hs.2
 simp only at b3
 refine Ok.ite (fun _ => ?_) fun _=>Ok.some ⟨(a2.trans hs).le (by omega),by simp only;omega⟩
 refine Ok.bind (LJ hs.1 (by omega) (by simp)) fun t ht => ?_
 refine Ok.pos (decide_eq_true (by simp only [List.length_singleton];unfold lim;omega)) ?_
 exact Ok.some ⟨((a2.trans hs).trans ht.2).le (by omega),by simp only [List.length_append,List.length_singleton];omega⟩
theorem Als (g:Gr) (hg:g.1<=8):(Dk g).1.length<=17:=by
 unfold Dk
 split
 ·split
  ·have h1:(Bc g).1.length<=9:=Mr _ _
   have h2:(Ap (Bc g).2 g.1.toNat 0).length<=g.1.toNat:=C3
   simp only [List.length_append,List.length_map]
   omega
  ·simp
 ·simp
theorem AAd {g:Gr} (h:DB g=true):g.1<=8:=by
 obtain ⟨n,es,v⟩:=g
 exact (DG (PE h).1).2
theorem JF (g:Gr):(Dk g).1.length<=17:=by
 by_cases h:DB g=true
 ·exact Als g (AAd h)
 ·unfold Dk
  rw [if_neg h]
  simp
theorem Am3 {code:List Int} {u:Unit} (hb:∀x∈code,0<=x/\x<=255):Ok (Ot 0 (code,u)) fun r=>okL r.1.2.1=true/\r.2.1.length<=17:=by
 have hc:I8 (code,(0:Int),(0:Int),()):=⟨hb,Int.le_refl _⟩
 unfold Ot
 simp only
 refine Ok.bind (Ajs hc (by unfold GU;simp)) fun r hr => ?_
 have b1:r.2.1.2.1<=0+400:=hr.1.2
 have ho:okL r.1.2.1=true:=Et (Nat.le_trans hr.2 (by omega))
 have hd:EF (r.1,())=some (Dk r.1):=by
  unfold EF
  exact if_pos ho
 have hlen:=JF r.1
 rw [hd,Option.bind_some]
 have ord:∀c:Cur,I8 c->c.2.1<=500->Ok ((Cq JM Hu (c,r.1,())).bind fun r22=>some ((r.1,(r22.1,())):Gr×List Int×Unit)) fun r=>okL r.1.2.1=true/\r.2.1.length<=17:=fun c h1 h2=>
  Ok.bind (Ajd h1 (by unfold GU;omega)) fun s hs=>Ok.some ⟨ho,by have:=hs.2;simp only;omega⟩
 refine Ok.ite (fun hok => ?_) fun _=>ord r.2.1 hr.1.1 (by omega)
 refine Ok.bind (Jz hr.1.1 (by unfold GU;omega)) fun s hs => ?_
 have b2:=hs.2
 refine Ok.ite (fun _ => ?_) fun _=>ord s.2.1 hs.1 (by omega)
 refine Ok.bind (CF hs.1 (by unfold GU;omega)) fun t ht => ?_
 obtain ⟨t0,t1,ta⟩:=ht
 have b3:=ta.2
 have hw:IntKind.wrap .i64 (t.1+1)=t.1+1:=by rw [IntKind.wrap_i64];omega
 rw [hw]
 refine Ok.ite (fun hlt => ?_) fun _=>Ok.some ⟨ho,hlen⟩
 have hlt:=of_decide_eq_true hlt
 refine Ok.bind (Jz ta.1 (by unfold GU;omega)) fun x hx => ?_
 refine Ok.ite (fun _ => ?_) fun _=>Ok.some ⟨ho,hlen⟩
 have i1:Ak t.1 (Dk r.1).1.length=true:=by unfold Ak;rw [decide_eq_true t0,decide_eq_true (show t.1<((Dk r.1).1.length:Int) by omega)];rfl
 have i2:Ak (t.1+1) (Dk r.1).1.length=true:=by unfold Ak;rw [decide_eq_true (show 0<=t.1+1 by omega),decide_eq_true hlt];rfl
 refine Ok.pos i1 (Ok.pos i2 (Ok.pos i1 (Ok.pos (by rw [List.length_set];exact i2) (Ok.some ⟨ho,?_⟩))))
 simp only [List.length_set]
 exact hlen
theorem Pu (a:Nat) (es:List E) (w:Unit) (h0:0<a) (h8:a<=8):C0 (BN es) (fun x=>x<a)↔Ay a (Bc ((a:Int),es,w)).2=1:=by
 have h1:=Afm (n:=a) (es:=es) (k:=9) (p:=fun _=>true) (by rw [F8];omega) (by rw [F8];exact h0)
 refine Iff.trans ⟨fun h=>h.congr fun x => ?_,fun h=>h.congr fun x => ?_⟩ h1
 ·exact ⟨fun h=>⟨h,rfl⟩,fun h=>h.1⟩
 ·exact ⟨fun h=>h.1,fun h=>⟨h,rfl⟩⟩
theorem Ue {a:Nat} {es:List E} {w:Unit} (h0:0<a) (h8:a<=8):S8 (tmG ((a:Int),es,w) 1)=decide (Ay a (Bc ((a:Int),es,w)).2=1):=by
 rw [Bool.eq_iff_iff,decide_eq_true_eq,<- Pu a es w h0 h8,<- Al7 h8 es,Au7 (Awm ((a:Int),es,w) 1),Apr h8]
 constructor
 ·rintro ⟨c,hc,h⟩
  have hc:c<(AB ((a:Int)).toNat 1).length:=hc
  rw [C1] at hc
  exact ⟨c,by simpa using hc,fun r hr=>h r (by simpa using hr)⟩
 ·rintro ⟨c,hc,h⟩
  refine ⟨c,?_,fun r hr=>h r (by simpa using hr)⟩
  show c<(AB ((a:Int)).toNat 1).length
  rw [C1]
  simpa using hc
theorem Asa {a:Nat} {es:List E} {w:Unit} (hg:A9 ((a:Int),es,w)=true) (h8:a<=8):(Eo ((a:Int),es,w)).2.2.1=S8 (tmG ((a:Int),es,w) 1):=by
 rw [Apr h8,<- Xl []]
 unfold Eo
 rw [if_pos hg]
 show (Ds (Bx (AS a (Ax a es)) 0 (-1) 0)).2.2.1=_
 unfold Ds J6
 split<;>rfl
theorem Art {a:Nat} {es:List E} {w:Unit} (h0:0<a) (h8:a<=8):decide (((CV a (An es) 9 (2 ^ a-1):Nat):Int)>0)=decide (Ay a (Bc ((a:Int),es,w)).2=1):=by
 have h256:=OU h8
 have hpos:=Nat.two_pow_pos a
 have ho:Ay a (2 ^ a-1).testBit=a:=by
  rw [IV (q:=fun _=>true) fun x hx=>Gq hx]
  exact F8
 refine decide_eq_decide.2 ?_
 rw [<- Pu a es w h0 h8]
 have h1:=As7 h8 (es:=es) 9 (2 ^ a-1) (by omega) (by omega) (by omega)
 refine Iff.trans (by omega) (h1.trans ⟨fun h=>h.congr fun x => ?_,fun h=>h.congr fun x => ?_⟩)
 ·exact ⟨fun h=>h.1,fun h=>⟨h,Gq h⟩⟩
 ·exact ⟨fun h=>⟨h,Gq h⟩,fun h=>h.1⟩
theorem Ar1 {a:Nat} {es:List E} {w:Unit} (h0:0<a) (h8:a<=8) {o:List Int} (h:El a o=true) (h2:G6 a (An es) (fun _=>true) (o.map Int.toNat)=true):Ay a (Bc ((a:Int),es,w)).2=1:=by
 obtain ⟨os,rfl,hp⟩:=Jm h
 rw [EL] at h2
 rw [<- Pu a es w h0 h8]
 have hlen:os.length=a:=by rw [hp.length_eq,List.length_range]
 have:=Asr os (fun _=>true) (fun e=>by rw [e] at hlen;simp at hlen;omega) (hp.symm.nodup List.nodup_range) (fun x=>⟨fun hx=>hp.mem_iff.2 (List.mem_range.2 hx.1),fun hx=>⟨List.mem_range.1 (hp.mem_iff.1 hx),rfl⟩⟩) h2
 exact this.congr fun x=>⟨fun h=>h.1,fun h=>⟨h,rfl⟩⟩
theorem X6 {n:Nat} {es:List E}:∀(k:Nat) (p:Nat->Bool),Ay n p<k->Ay n (A7 n (An es) k p).2=1 -> ∃os:List Nat,(A7 n (An es) k p).1.map (fun e=>e.1)++(List.range n).filter (A7 n (An es) k p).2=os/\os≠[]/\os.Nodup/\(∀x,x∈os↔SP n p x)/\G6 n (An es) p os=true:=by
 intro k
 induction k with
 | zero=>intro p h;omega
 | succ k ih=>
  intro p hk h1
  by_cases hc:(List.range n).any (Ba n (An es) p)=true
  ·obtain ⟨k3,k4⟩:=Kj hc
   rw [LA hc] at h1 |-
   generalize Bh (Ba n (An es) p) n 0=x at *
   have ho:=C8 k3
   obtain ⟨os,e1,e2,e3,e4,e5⟩:=ih (BC p x) (by omega) h1
   have hx:x∉os:=fun hx=>by
    have:=((e4 x).1 hx).2
    unfold BC at this
    simp at this
   refine ⟨x::os,by simp only [List.map_cons,List.cons_append,e1],by simp,List.nodup_cons.2 ⟨hx,e3⟩,fun y => ?_,?_⟩
   ·rw [List.mem_cons,e4 y]
    unfold SP BC
    constructor
    ·rintro (rfl | ⟨h1,h2⟩)
     ·exact k3
     ·rw [ACo] at h2
      exact ⟨h1,h2.1⟩
    ·rintro ⟨h1,h2⟩
     by_cases e:y=x
     ·exact .inl e
     ·exact .inr ⟨h1,by rw [h2];simp [e]⟩
   ·match os,e2,e5 with
    | y::l,_,e5=>
     simp only [G6,k4,e5,Bool.and_self]
  ·have hf:(List.range n).any (Ba n (An es) p)=false:=by simpa using hc
   rw [CR hf] at h1 |-
   obtain ⟨c,c1,c2⟩:=RW h1
   have hl:((List.range n).filter p).length=1:=by rw [<- List.countP_eq_length_filter];exact h1
   refine ⟨(List.range n).filter p,by simp,fun e=>by rw [e] at hl;simp at hl,List.nodup_range.sublist List.filter_sublist,fun x => ?_,?_⟩
   ·rw [List.mem_filter,List.mem_range]
    rfl
   ·match hz:(List.range n).filter p,hl with
    | [z],_=>rfl
theorem Aqn {a:Nat} {es:List E} {w:Unit} (hgr:A9 ((a:Int),es,w)=true) (h0:0<a) (h8:a<=8) (h1:Ay a (Bc ((a:Int),es,w)).2=1):DT ((a:Int),es,w) (Dk ((a:Int),es,w)).1=(true,true,()):=by
 have hs:DB ((a:Int),es,w)=true:=by
  unfold DB
  rw [hgr,decide_eq_true (show (a:Int)>0 by omega)]
  rfl
 obtain ⟨os,e1,e2,e3,e4,e5⟩:=X6 (n:=a) (es:=es) 9 (fun _=>true) (by rw [F8];omega) h1
 have hL:(Dk ((a:Int),es,w)).1=AO os:=by
  unfold Dk
  simp only [hs,if_true,h1,Int.toNat_natCast]
  rw [<- e1,D3]
  unfold AO
  rw [List.map_append,List.map_map]
  rfl
 have hp:os.Perm (List.range a):=(R1 (List.range a) os List.nodup_range (fun x hx=>(e4 x).2 ⟨List.mem_range.1 hx,rfl⟩) (by
  have:=(R1 os (List.range a) e3 (fun x hx=>List.mem_range.2 ((e4 x).1 hx).1) (by
   apply Classical.byContradiction
   intro hlt
   have hsub:∀l1 l2:List Nat,l1.Nodup->(∀x∈l1,x∈l2)->l1.length<=l2.length:=by
    intro l1
    induction l1 with
    | nil=>intro l2 _ _;exact Nat.zero_le _
    | cons b t ih=>
     intro l2 hn hs
     rw [List.nodup_cons] at hn
     have hb:=hs b (List.mem_cons_self ..)
     have:=ih (l2.erase b) hn.2 fun x hx=>(List.mem_erase_of_ne (fun e=>hn.1 (by rw [<- e];exact hx))).2 (hs x (List.mem_cons_of_mem _ hx))
     have h1:=List.length_erase_of_mem hb
     have h2:=List.length_pos_of_mem hb
     simp only [List.length_cons]
     omega
   exact hlt (hsub (List.range a) os List.nodup_range fun x hx=>(e4 x).2 ⟨List.mem_range.1 hx,rfl⟩))).length_eq
  omega)).symm
 unfold DT
 rw [if_pos hs,hL]
 show (El a (AO os)&&G6 a (An es) (fun _=>true) ((AO os).map Int.toNat),true,())=_
 rw [Atw hp,EL,e5]
 rfl
open Go.Proofs
theorem Adb {L:List Int} (h:L.length<=1000) (u:Unit):J3 (L,L,u)=some (true,()):=by
 have ho:okL L=true:=Et (by omega)
 unfold J3
 simp only [ho,decide_true,Bool.and_self,if_true]
theorem Aud {g:Gr} (ho:okL g.2.1=true) {o:List Int} (hl:okL o=true) (u:Unit):RS 0 (g,o,u)=some (DT g o):=by
 unfold RS Fl Bt DT DB
 simp only [ho,if_true,Option.bind_some]
 by_cases hgr:A9 g=true
 ·by_cases h0:g.1>0
  ·have hg:grB g=true:=De hgr ho
   simp only [hgr,decide_eq_true h0,Bool.and_self,if_true,Option.bind_some,Bool.not_true,ACn,if_false,Ht,hg,hl]
  ·simp only [hgr,decide_eq_false h0,Bool.and_false,ACn,if_false,if_true,Option.bind_some,Bool.not_false]
 ·have hgr':A9 g=false:=by simpa using hgr
  simp only [hgr',Bool.false_and,ACn,if_false,Option.bind_some,Bool.not_false,if_true]
theorem XK (p:Nat->Bool):∀k x,E4 (Ap p k x)=true:=by
 have key:∀k x y,x<=y->(∀z∈Ap p k y,(x:Int)<=z):=fun k x y h z hz=>by
  obtain ⟨w,h1,_,_,rfl⟩:=Cs.1 hz
  omega
 intro k
 induction k with
 | zero=>intro x;rfl
 | succ k ih=>
  intro x
  unfold Ap
  split
  ·have h1:=ih (x+1)
   have h2:=key k (x+1) (x+1) (ACr _)
   match hs:Ap p k (x+1),h1,h2 with
   | [],_,_=>rfl
   | b::l,h1,h2=>
    have:=h2 b (List.mem_cons_self ..)
    unfold E4
    rw [h1,decide_eq_true (show (x:Int)<b by omega)]
    rfl
  ·exact ih (x+1)
def Rk (g:Gr) (o:List Int) (is:Bool):Option (Bool×Unit):=
 if is=true then
  if (decide ((List.length o:Int)>(1:Int)))=true then
   if (decide (0<=g.1))=true then
   let x18:Int:=IntKind.wrap .i64 (shl .i64 (1:Int) g.1-(1:Int))
   (Bg ((g.1,(x18,())))).bind fun r19=>
   if (Ak (0:Int) (List.length o))=true then
   ((EI 0) ((g,(r19.1,(at_ I o (0:Int).toNat,()))))).bind fun r20=>
   if (r20.2.1)=true then
    some (r20.1,())
   else
    some (false,())
   else none
   else none
  else
   some (true,())
 else
  some (true,())
def SY (g:Gr) (o L:List Int) (is W:Bool):Option (Bool×Unit):=
 if W=true then
  (CK ((g,(L,())))).bind fun r17=>
  if (!r17.2.1)=true then
   some (false,())
  else
   if (!r17.1)=true then
    some (false,())
   else Rk g o is
 else Rk g o is
def Acz (g:Gr) (o L:List Int) (is W:Bool) (C:Int):Option (Bool×Unit):=
 if (decide (g.1<=(5:Int)))=true then
  if (decide (0<=g.1))=true then
  let x14:Int:=IntKind.wrap .i64 (shl .i64 (1:Int) g.1-(1:Int))
  (Bg ((g.1,(x14,())))).bind fun r15=>
  (DZ ((g,(r15.1,())))).bind fun r16=>
  if (C != r16.1)=true then
   some (false,())
  else SY g o L is W
  else none
 else SY g o L is W
theorem TO {a:Nat} (h8:a<=8):Bg ((a:Int),((2 ^ a-1:Nat):Int),())=some (Ap (2 ^ a-1).testBit a 0,()):=by
 have h256:=OU h8
 have i1:inB 0 8 (a:Int)=true:=AI.2 (by omega)
 have i2:inB 0 255 ((2 ^ a-1:Nat):Int)=true:=AI.2 (by omega)
 unfold Bg
 simp only [i1,i2,Bool.and_self,if_true,Int.toNat_natCast]
theorem Aib {a:Nat} {es:List E} {w:Unit} (hgr:A9 ((a:Int),es,w)=true) (ho:okL es=true) (h8:a<=8) {x:Nat} (hx:x<a) (hc:(List.range a).any (Ce a (An es) (fun _=>true) x)=true) :
  EI 0 (((a:Int),es,w),Ap (2 ^ a-1).testBit a 0,(x:Int),())=some (true,true,()):=by
 have hg:grB ((a:Int),es,w)=true:=De hgr ho
 obtain ⟨g1,g2,g3,g4⟩:=AV hg
 simp only [Int.toNat_natCast] at g2 g3 g4
 obtain ⟨n1,n2⟩:=Gz h8 g4
 have hpos:=Nat.two_pow_pos a
 have hl:(Ap (2 ^ a-1).testBit a 0).length<=8:=Nat.le_trans C3 h8
 have hok:okL (Ap (2 ^ a-1).testBit a 0)=true:=Et (by omega)
 have hr:∀z∈Ap (2 ^ a-1).testBit a 0,0<=z/\z<=(a:Int)-1:=fun z hz=>by
  obtain ⟨y,_,h,_,rfl⟩:=Cs.1 hz
  omega
 have hall:(Ap (2 ^ a-1).testBit a 0).all (inB 0 ((a:Int)-1))=true:=List.all_eq_true.2 fun z hz=>AI.2 (hr z hz)
 have hset:Es 0 (((a:Int),es,w),Ap (2 ^ a-1).testBit a 0,())=some (true,()):=by
  unfold Es
  simp only [Aj7 (a:Int) es w () _ ho hok,hgr,hall,Bool.and_self,Option.bind_some,Ef,hok,if_true,XK]
 have hhas:Jg 0 (Ap (2 ^ a-1).testBit a 0,(x:Int),())=some (true,()):=by
  rw [Xv _ _ _ hok,Lv hx,Gq hx]
 have hcov:=Eu n1 () () (m:=2 ^ a-1) (x:=x) (by rw [n2];omega) (by rw [n2];exact hx)
 rw [n2] at hcov
 have hany:(List.range a).any (Ce a (Cr (toI (Dn a es))) (2 ^ a-1).testBit x)=true:=by
  rw [<- hc]
  exact DW fun y hy=>EP (fun x y _ _=>IL h8 g4 x y) (fun z hz=>Gq hz) hx hy
 have hlen:=(EC hany).1
 unfold EI
 simp only [hset,hhas,Option.bind_some,Bool.not_true,ACn,if_false,GG hgr ho,K4 h8 hr (by omega),Kr h8 (show 2 ^ a-1<2 ^ a by omega),hcov]
 have hgt:∀l:List Int,0<l.length->decide ((l.length:Int)>0)=true:=fun l h=>decide_eq_true (by omega)
 rw [hgt _ hlen]
theorem Uf {a:Nat} {es:List E} {w:Unit} (hgr:A9 ((a:Int),es,w)=true) (ho:okL es=true) (h0:0<a) (h8:a<=8) {o:List Int}:Rk ((a:Int),es,w) o (DT ((a:Int),es,w) o).1=some (true,()):=by
 unfold Rk
 cases his:(DT ((a:Int),es,w) o).1 with
 | false=>simp only [ACn,if_false]
 | true=>
  have hs:DB ((a:Int),es,w)=true:=by
   unfold DB
   rw [hgr,decide_eq_true (show (a:Int)>0 by omega)]
   rfl
  unfold DT at his
  rw [if_pos hs] at his
  have his:(El a o&&G6 a (An es) (fun _=>true) (o.map Int.toNat))=true:=his
  rw [ACo] at his
  obtain ⟨he,hord⟩:=his
  obtain ⟨os,rfl,hp⟩:=Jm he
  rw [EL] at hord
  have hnl:(AO os).length=os.length:=by unfold AO;exact List.length_map ..
  by_cases hl:os.length>1
  ·match os,hl,hp,hord,hnl with
   | x::y::l,hl,hp,hord,hnl=>
    have hx:x<a:=List.mem_range.1 (hp.mem_iff.1 (List.mem_cons_self ..))
    simp only [G6,ACo] at hord
    have e:at_ I (AO (x::y::l)) 0=(x:Int):=rfl
    have hgt:((AO (x::y::l)).length:Int)>1:=by rw [hnl];simp only [List.length_cons];omega
    have hi:=Ag (i:=0) (n:=(AO (x::y::l)).length) (by omega)
    simp only [Int.natCast_zero] at hi
    simp only [if_true,decide_eq_true hgt,AN,Rx a (by omega),TO h8,Option.bind_some,hi,show (0:Int).toNat=0 from rfl,e,Aib hgr ho h8 hx hord.1]
  ·have hgt:¬((AO os).length:Int)>1:=by rw [hnl];omega
   simp only [if_true,decide_eq_false hgt,ACn,if_false]
theorem Ur {a:Nat} {es:List E} {w:Unit} (hgr:A9 ((a:Int),es,w)=true) (ho:okL es=true) (h0:0<a) (h8:a<=8) {o:List Int}:SY ((a:Int),es,w) o (Dk ((a:Int),es,w)).1 (DT ((a:Int),es,w) o).1 (decide (Ay a (Bc ((a:Int),es,w)).2=1))=some (true,()):=by
 unfold SY
 by_cases h1:Ay a (Bc ((a:Int),es,w)).2=1
 ·have hL:CK (((a:Int),es,w),(Dk ((a:Int),es,w)).1,())=some (true,true,()):=by
   have hl:=JF ((a:Int),es,w)
   have hok:okL (Dk ((a:Int),es,w)).1=true:=Et (by omega)
   unfold CK
   simp only [ho,hok,Bool.and_self,if_true]
   rw [Aqn hgr h0 h8 h1]
  simp only [decide_eq_true h1,if_true,hL,Option.bind_some,Bool.not_true,ACn,if_false]
  exact Uf hgr ho h0 h8
 ·simp only [decide_eq_false h1,ACn,if_false]
  exact Uf hgr ho h0 h8
theorem Aki {a:Nat} {es:List E} {w:Unit} (hgr:A9 ((a:Int),es,w)=true) (ho:okL es=true) (h0:0<a) (h8:a<=8) {o:List Int}:Acz ((a:Int),es,w) o (Dk ((a:Int),es,w)).1 (DT ((a:Int),es,w) o).1 (decide (Ay a (Bc ((a:Int),es,w)).2=1)) ((CV a (An es) 9 (2 ^ a-1):Nat):Int)=some (true,()):=by
 have hg:grB ((a:Int),es,w)=true:=De hgr ho
 have hpos:=Nat.two_pow_pos a
 have hS:DZ (((a:Int),es,w),Ap (2 ^ a-1).testBit a 0,())=some (((CV a (An es) 9 (2 ^ a-1):Nat):Int),()):=by
  unfold DZ
  have hb:Pi a (Ap (2 ^ a-1).testBit a 0)=true:=J4 _ _
  simp only [hg,Int.toNat_natCast,hb,Bool.and_self,if_true,Kr h8 (show 2 ^ a-1<2 ^ a by omega)]
 unfold Acz
 by_cases h5:(a:Int)<=5
 ·simp only [decide_eq_true h5,if_true,AN,Rx a (by omega),TO h8,Option.bind_some,hS,bne_self_eq_false,ACn,if_false]
  exact Ur hgr ho h0 h8
 ·simp only [decide_eq_false h5,ACn,if_false]
  exact Ur hgr ho h0 h8
theorem Av4 {g:Gr} (ho:okL g.2.1=true) (u:Unit):SW 0 (g,u)=some (if DB g=true then ((Eo g).2.2.1,true,()) else (false,false,())):=by
 obtain ⟨n,es,w⟩:=g
 unfold SW Bt DB
 have ho:okL es=true:=ho
 simp only [ho,if_true,Option.bind_some]
 cases hg:A9 (n,es,w) with
 | false=>simp
 | true=>
  obtain ⟨n0,n8⟩:=DG hg
  obtain ⟨a,rfl⟩:=En n0
  by_cases h0:a=0
  ·subst h0;simp
  ·have hne:((a:Int)==(0:Int))=false:=by rw [beq_eq_false_iff_ne];omega
   obtain ⟨ha,g1,g2⟩:=Amn hg
   obtain ⟨nb,nl⟩:=Gz ha g1
   have hTT:AS (toI (Dn a es)).length (AF (toI (Dn a es)))=AS a (Ax a es):=by
    rw [nl]
    exact Dv (Vv (fun x hx=>M9 ha g1 hx) 65 1 A0 A0 fun _ _ _ _=>rfl)
   have hT:Ab8 ((a:Int),es,w)=AS a (Ax a es):=rfl
   simp only [Bool.not_true,ACn,if_false,hne,GG hg ho,Option.bind_some,Hh,nb,hTT,if_true,decide_eq_true (show (a:Int)>0 by omega),Bool.and_self]
   unfold Eo
   rw [if_pos hg,hT]
theorem Asn {g:Gr} (ho:okL g.2.1=true) (u:Unit):SR 0 (g,u)=some (if DB g=true then ((Eo g).2.2.1,true,()) else (false,false,())):=by
 unfold SR Fl Bt DB
 simp only [ho,if_true,Option.bind_some]
 cases hg:A9 g with
 | false=>simp
 | true=>
  have hc:H6 (g,())=some (Eo g):=by
   unfold H6
   exact if_pos ho
  by_cases h0:g.1>0
  ·simp only [decide_eq_true h0,if_true,Option.bind_some,Bool.not_true,ACn,if_false,hc,Bool.and_self]
  ·simp only [decide_eq_false h0,if_true,Option.bind_some,Bool.not_false,ACn,if_false,Bool.and_false]
theorem Apj {a:Nat} {es:List E} {w:Unit} (hgr:A9 ((a:Int),es,w)=true) (ho:okL es=true) (h0:0<a) (h8:a<=8) (u:Unit):Sm 0 (((a:Int),es,w),u)=some (Ap (Bc ((a:Int),es,w)).2 a 0,true,()):=by
 have hg:grB ((a:Int),es,w)=true:=De hgr ho
 obtain ⟨g1,g2,g3,g4⟩:=AV hg
 simp only [Int.toNat_natCast] at g2 g3 g4
 obtain ⟨m1,m2,m3⟩:=Hf h8 (Bc ((a:Int),es,w)).2
 have h256:=OU h8
 have hset:Ap (fun y=>(BA (Ap (Bc ((a:Int),es,w)).2 a 0)).testBit y) 8 0=Ap (Bc ((a:Int),es,w)).2 a 0:=by
  rw [Gk h8 fun y hy=>E6 m1 hy]
  exact Bm fun y _ hy=>m2 y (by omega)
 have hne:((a:Int)==(0:Int))=false:=by rw [beq_eq_false_iff_ne];omega
 unfold Sm Bt
 simp only [ho,if_true,Option.bind_some,hgr,Bool.not_true,ACn,if_false,hne,GG hgr ho,Uc (w:=w) h8 g4,IA (show BA (Ap (Bc ((a:Int),es,w)).2 a 0)<256 by omega),hset]
theorem Aun {code:List Int} {u0:Unit} (hbig:(Ea (code,())).1=false) {n:Int} {es:List E} {w w0:Unit} {o:List Int} (d0:Ot 0 (code,())=some ((n,es,w),o,w0)) (ho:okL es=true) (hol:o.length<=17):Bu 0 (code,u0)=some (true,()):=by
 have hlo:okL o=true:=Et (by omega)
 have hI:CK ((n,es,w),o,())=some (DT (n,es,w) o):=by
  unfold CK
  simp only [ho,hlo,Bool.and_self,if_true]
 have hI2:=Aud (g:=(n,es,w)) ho hlo ()
 have hD:EF ((n,es,w),())=some (Dk (n,es,w)):=by
  unfold EF
  exact if_pos ho
 have hC:G4 ((n,es,w),())=some (WU (n,es,w)):=by
  unfold G4
  exact if_pos ho
 have hO1:=Av4 (g:=(n,es,w)) ho ()
 have hO2:=Asn (g:=(n,es,w)) ho ()
 have hV:=Adb (L:=(Dk (n,es,w)).1) (by have:=JF (n,es,w);omega) ()
 unfold Bu
 simp only [hbig,ACn,if_false,d0,hI,hI2,hD,hC,hO1,hO2,hV,Option.bind_some,beq_self_eq_true,bne_self_eq_false,Bool.not_true]
 cases hs:DB (n,es,w) with
 | false=>
  have e1:(Dk (n,es,w)).2.1=false:=by unfold Dk;rw [hs];rfl
  have e2:(WU (n,es,w)).2.1=false:=by unfold WU;rw [hs];rfl
  simp only [ACn,if_false,Bool.not_false,if_true,e1,e2]
 | true=>
  obtain ⟨hgr,hn0⟩:=PE hs
  obtain ⟨_,n8⟩:=DG hgr
  obtain ⟨a,rfl⟩:=En (show 0<=n by simp only at hn0;omega)
  have h0:0<a:=by simp only at hn0;omega
  have h8:a<=8:=by omega
  have hW:(Eo ((a:Int),es,w)).2.2.1=decide (Ay a (Bc ((a:Int),es,w)).2=1):=by rw [Asa hgr h8,Ue h0 h8]
  have hdk:(Dk ((a:Int),es,w)).2.1=decide (Ay a (Bc ((a:Int),es,w)).2=1):=by
   unfold Dk
   simp only [hs,if_true,Int.toNat_natCast]
   split
   ·rename_i h;rw [decide_eq_true h]
   ·rename_i h;rw [decide_eq_false h]
  have hct:WU ((a:Int),es,w)=(((CV a (An es) 9 (2 ^ a-1):Nat):Int),true,()):=by
   unfold WU
   simp only [hs,if_true,Int.toNat_natCast]
  have hcore:((((Ap (Bc ((a:Int),es,w)).2 a 0).length:Nat):Int)==(1:Int))=decide (Ay a (Bc ((a:Int),es,w)).2=1):=by
   rw [BQ,Bool.eq_iff_iff,beq_iff_eq,decide_eq_true_eq]
   omega
  have hcan:O9 0 (((a:Int),es,w),1,())=some (decide (Ay a (Bc ((a:Int),es,w)).2=1),true,()):=by
   rw [Axt ho]
   unfold Axd
   have hf:Jl ((a:Int),es,w) 1=true:=by
    unfold Jl
    have:decide ((a:Int)>0)=true:=decide_eq_true (by omega)
    simp only [hgr,this,Bool.and_self,Bool.true_and]
    rfl
   rw [if_pos hf]
   have:=Ue (es:=es) (w:=w) h0 h8
   rw [<- this]
   rfl
  have tail:=Aki (o:=o) hgr ho h0 h8
  have his:(DT ((a:Int),es,w) o).1=true->decide (Ay a (Bc ((a:Int),es,w)).2=1)=true:=fun h=>by
   unfold DT at h
   rw [if_pos hs] at h
   have h:(El a o&&G6 a (An es) (fun _=>true) (o.map Int.toNat))=true:=h
   rw [ACo] at h
   exact decide_eq_true (Ar1 h0 h8 h.1 h.2)
  simp only [if_true,Bool.not_true,ACn,if_false,Apj hgr ho h0 h8,hcan,Option.bind_some,hW,hdk,hct,hcore,Art (w:=w) h0 h8,beq_self_eq_true]
  unfold Acz SY Rk at tail
  cases hi:(DT ((a:Int),es,w) o).1 with
  | true=>
   rw [hi] at tail
   have hd:=his hi
   rw [hd] at tail |-
   simp only [if_true,Bool.not_true,ACn,if_false] at tail |-
   exact tail
  | false=>
   rw [hi] at tail
   simp only [ACn,if_false] at tail |-
   exact tail
theorem Xz (d:List Int×Unit) (r:Bool×Unit) (h:Xs d=some r):∃N,Bu N d=some r:=by
 obtain ⟨code,u⟩:=d
 unfold Xs at h
 split at h
 ·rename_i hh
  cases ACs h
  simp only [ACo,List.all_eq_true] at hh
  have hb:∀x∈code,0<=x/\x<=255:=fun x hx=>by
   have:=hh.1 x hx
   unfold inB at this
   simpa using this
  cases hbig:(Ea (code,())).1 with
  | true=>
   refine ⟨0,?_⟩
   unfold Bu
   simp only [hbig,if_true]
  | false=>
   obtain ⟨⟨⟨n,es,v⟩,o,w0⟩,d0,o0,o1⟩:=Am3 (u:=()) hb
   exact ⟨0,Aun hbig d0 o0 o1⟩
 ·cases h
open Go.Proofs
structure LogIs (d p:List UInt8) (c:Int):Prop where
 size:d.length+p.length<=30000
 all:(W4 60 0 (d++p)).2=(d++p).length
 durable:(W4 60 0 d).2=d.length
 count:((W4 60 0 (d++p)).1.length:Int)=c
open Go.Proofs Go.Shelf Go.RowKit
-- import Derived.Shelf.Lays
-- import Derived.Shelf.LaysM
-- import Derived.Test.XvLib3
-- import Derived.Shelf.SortM.Plain
-- import Derived.Shelf.SortM.SortNone
-- import Derived.Shelf.SlSortCmp.NoneTotal
def Aja:Go.Shelf.Ren:=
{
  f:=fun x=>
    match x with
    | 5=>176
    | 8=>192
    | 7=>191
    | 19=>204
    | 20=>205
    | 10=>196
    | 11=>197
    | 12=>198
    | 13=>199
    | 14=>200
    | 15=>201
    | 16=>190
    | 17=>202
    | 18=>203
    | 30=>215
    | 31=>216
    | 32=>217
    | 33=>218
    | 34=>219
    | 35=>166
    | 40=>223
    | n=>n,
  t:=fun x=>
    match x with
    | 23=>45
    | 25=>3
    | 3=>3
    | 32=>142
    | 22=>45
    | 0=>0
    | 44=>158
    | 46=>70
    | 4=>4
    | 36=>169
    | 35=>168
    | 41=>39
    | 5=>5
    | 9=>9
    | 53=>178
    | 57=>182
    | 63=>186
    | 64=>187
    | n=>n,
  g:=fun x=>
    x }
set_option maxRecDepth 1000000 in
theorem Awi:Go.Proofs.SlLaysM.n5 Go.Proofs.Tryz.prog Aja:=
{ mixed:=by kernel_rfl,
  f5:=⟨Go.Proofs.Tryz.f176.name,of_decide_eq_true (by kernel_rfl),(Go.Proofs.Tryz.func176).trans (congrArg some (by kernel_rfl))⟩,
  f7:=⟨Go.Proofs.Tryz.f191.name,of_decide_eq_true (by kernel_rfl),(Go.Proofs.Tryz.func191).trans (congrArg some (by kernel_rfl))⟩,
  f8:=(Go.Proofs.Tryz.func192).trans (congrArg some (by kernel_rfl)),
  f10:=⟨Go.Proofs.Tryz.f196.name,of_decide_eq_true (by kernel_rfl),(Go.Proofs.Tryz.func196).trans (congrArg some (by kernel_rfl))⟩,
  f11:=⟨Go.Proofs.Tryz.f197.name,of_decide_eq_true (by kernel_rfl),(Go.Proofs.Tryz.func197).trans (congrArg some (by kernel_rfl))⟩,
  f12:=⟨Go.Proofs.Tryz.f198.name,of_decide_eq_true (by kernel_rfl),(Go.Proofs.Tryz.func198).trans (congrArg some (by kernel_rfl))⟩,
  f13:=⟨Go.Proofs.Tryz.f199.name,of_decide_eq_true (by kernel_rfl),(Go.Proofs.Tryz.func199).trans (congrArg some (by kernel_rfl))⟩,
  f14:=⟨Go.Proofs.Tryz.f200.name,of_decide_eq_true (by kernel_rfl),(Go.Proofs.Tryz.func200).trans (congrArg some (by kernel_rfl))⟩,
  f15:=⟨Go.Proofs.Tryz.f201.name,of_decide_eq_true (by kernel_rfl),(Go.Proofs.Tryz.func201).trans (congrArg some (by kernel_rfl))⟩,
  f16:=⟨Go.Proofs.Tryz.f190.name,of_decide_eq_true (by kernel_rfl),(Go.Proofs.Tryz.func190).trans (congrArg some (by kernel_rfl))⟩,
  f17:=⟨Go.Proofs.Tryz.f202.name,of_decide_eq_true (by kernel_rfl),(Go.Proofs.Tryz.func202).trans (congrArg some (by kernel_rfl))⟩,
  f18:=⟨Go.Proofs.Tryz.f203.name,of_decide_eq_true (by kernel_rfl),(Go.Proofs.Tryz.func203).trans (congrArg some (by kernel_rfl))⟩,
  f19:=(Go.Proofs.Tryz.func204).trans (congrArg some (by kernel_rfl)),
  f20:=(Go.Proofs.Tryz.func205).trans (congrArg some (by kernel_rfl)),
  f30:=⟨Go.Proofs.Tryz.f215.name,of_decide_eq_true (by kernel_rfl),(Go.Proofs.Tryz.func215).trans (congrArg some (by kernel_rfl))⟩,
  f31:=(Go.Proofs.Tryz.func216).trans (congrArg some (by kernel_rfl)),
  f32:=(Go.Proofs.Tryz.func217).trans (congrArg some (by kernel_rfl)),
  f33:=⟨Go.Proofs.Tryz.f218.name,of_decide_eq_true (by kernel_rfl),(Go.Proofs.Tryz.func218).trans (congrArg some (by kernel_rfl))⟩,
  f34:=⟨Go.Proofs.Tryz.f219.name,of_decide_eq_true (by kernel_rfl),(Go.Proofs.Tryz.func219).trans (congrArg some (by kernel_rfl))⟩,
  f35:=⟨Go.Proofs.Tryz.f166.name,of_decide_eq_true (by kernel_rfl),(Go.Proofs.Tryz.func166).trans (congrArg some (by kernel_rfl))⟩,
  f40:=⟨Go.Proofs.Tryz.f223.name,of_decide_eq_true (by kernel_rfl),(Go.Proofs.Tryz.func223).trans (congrArg some (by kernel_rfl))⟩,
  t0:=Go.Proofs.Tryz.underlying0,
  a0:=Go.Proofs.Tryz.isAgg0,
  z0:=Go.Proofs.Tryz.sizeOf0,
  v0:=Go.Proofs.Tryz.zeroValue0,
  t3:=Go.Proofs.Tryz.underlying3,
  a3:=Go.Proofs.Tryz.isAgg3,
  z3:=Go.Proofs.Tryz.sizeOf3,
  v3:=Go.Proofs.Tryz.zeroValue3,
  t4:=Go.Proofs.Tryz.underlying4,
  a4:=Go.Proofs.Tryz.isAgg4,
  z4:=Go.Proofs.Tryz.sizeOf4,
  v4:=Go.Proofs.Tryz.zeroValue4,
  t5:=Go.Proofs.Tryz.underlying5,
  a5:=Go.Proofs.Tryz.isAgg5,
  z5:=Go.Proofs.Tryz.sizeOf5,
  v5:=Go.Proofs.Tryz.zeroValue5,
  t9:=Go.Proofs.Tryz.underlying9,
  a9:=Go.Proofs.Tryz.isAgg9,
  z9:=Go.Proofs.Tryz.sizeOf9,
  v9:=Go.Proofs.Tryz.zeroValue9,
  t22:=Go.Proofs.Tryz.underlying45,
  a22:=Go.Proofs.Tryz.isAgg45,
  z22:=Go.Proofs.Tryz.sizeOf45,
  v22:=Go.Proofs.Tryz.zeroValue45,
  t23:=Go.Proofs.Tryz.underlying45,
  a23:=Go.Proofs.Tryz.isAgg45,
  z23:=Go.Proofs.Tryz.sizeOf45,
  v23:=Go.Proofs.Tryz.zeroValue45,
  t25:=Go.Proofs.Tryz.underlying3,
  a25:=Go.Proofs.Tryz.isAgg3,
  z25:=Go.Proofs.Tryz.sizeOf3,
  v25:=Go.Proofs.Tryz.zeroValue3,
  t32:=Go.Proofs.Tryz.underlying142,
  a32:=Go.Proofs.Tryz.isAgg142,
  z32:=Go.Proofs.Tryz.sizeOf142,
  v32:=Go.Proofs.Tryz.zeroValue142,
  t35:=Go.Proofs.Tryz.underlying168,
  a35:=Go.Proofs.Tryz.isAgg168,
  z35:=Go.Proofs.Tryz.sizeOf168,
  v35:=Go.Proofs.Tryz.zeroValue168,
  t36:=Go.Proofs.Tryz.underlying169,
  a36:=Go.Proofs.Tryz.isAgg169,
  z36:=Go.Proofs.Tryz.sizeOf169,
  v36:=Go.Proofs.Tryz.zeroValue169,
  t41:=Go.Proofs.Tryz.underlying39,
  a41:=Go.Proofs.Tryz.isAgg39,
  z41:=Go.Proofs.Tryz.sizeOf39,
  v41:=Go.Proofs.Tryz.zeroValue39,
  t44:=Go.Proofs.Tryz.underlying158,
  a44:=Go.Proofs.Tryz.isAgg158,
  z44:=Go.Proofs.Tryz.sizeOf158,
  v44:=Go.Proofs.Tryz.zeroValue158,
  t46:=Go.Proofs.Tryz.underlying70,
  a46:=Go.Proofs.Tryz.isAgg70,
  z46:=Go.Proofs.Tryz.sizeOf70,
  v46:=Go.Proofs.Tryz.zeroValue70,
  t53:=Go.Proofs.Tryz.underlying178,
  a53:=Go.Proofs.Tryz.isAgg178,
  z53:=Go.Proofs.Tryz.sizeOf178,
  v53:=Go.Proofs.Tryz.zeroValue178,
  t57:=Go.Proofs.Tryz.underlying182,
  a57:=Go.Proofs.Tryz.isAgg182,
  z57:=Go.Proofs.Tryz.sizeOf182,
  v57:=Go.Proofs.Tryz.zeroValue182,
  t63:=Go.Proofs.Tryz.underlying186,
  a63:=Go.Proofs.Tryz.isAgg186,
  z63:=Go.Proofs.Tryz.sizeOf186,
  v63:=Go.Proofs.Tryz.zeroValue186,
  t64:=Go.Proofs.Tryz.underlying187,
  a64:=Go.Proofs.Tryz.isAgg187,
  z64:=Go.Proofs.Tryz.sizeOf187,
  v64:=Go.Proofs.Tryz.zeroValue187 }
def Akl:Go.Shelf.Ren:=
{
  f:=fun x=>
    match x with
    | 6=>177
    | 15=>192
    | 14=>193
    | 28=>204
    | 29=>205
    | 20=>206
    | 21=>207
    | 22=>208
    | 23=>209
    | 24=>210
    | 25=>211
    | 26=>212
    | 27=>213
    | 46=>220
    | 47=>216
    | 48=>217
    | 49=>221
    | 50=>222
    | 57=>224
    | n=>n,
  t:=fun x=>
    match x with
    | 22=>26
    | 24=>45
    | 25=>81
    | 3=>3
    | 39=>142
    | 0=>0
    | 53=>158
    | 55=>70
    | 4=>4
    | 46=>169
    | 45=>168
    | 50=>39
    | 5=>5
    | 9=>9
    | 66=>178
    | 70=>182
    | 76=>186
    | 77=>187
    | n=>n,
  g:=fun x=>
    x }
set_option maxRecDepth 1000000 in
theorem Awr:Go.Proofs.SlLaysF.n6 Go.Proofs.Tryz.prog Akl:=
{ mixed:=by kernel_rfl,
  f6:=⟨Go.Proofs.Tryz.f177.name,of_decide_eq_true (by kernel_rfl),(Go.Proofs.Tryz.func177).trans (congrArg some (by kernel_rfl))⟩,
  f14:=⟨Go.Proofs.Tryz.f193.name,of_decide_eq_true (by kernel_rfl),(Go.Proofs.Tryz.func193).trans (congrArg some (by kernel_rfl))⟩,
  f15:=(Go.Proofs.Tryz.func192).trans (congrArg some (by kernel_rfl)),
  f20:=⟨Go.Proofs.Tryz.f206.name,of_decide_eq_true (by kernel_rfl),(Go.Proofs.Tryz.func206).trans (congrArg some (by kernel_rfl))⟩,
  f21:=⟨Go.Proofs.Tryz.f207.name,of_decide_eq_true (by kernel_rfl),(Go.Proofs.Tryz.func207).trans (congrArg some (by kernel_rfl))⟩,
  f22:=⟨Go.Proofs.Tryz.f208.name,of_decide_eq_true (by kernel_rfl),(Go.Proofs.Tryz.func208).trans (congrArg some (by kernel_rfl))⟩,
  f23:=⟨Go.Proofs.Tryz.f209.name,of_decide_eq_true (by kernel_rfl),(Go.Proofs.Tryz.func209).trans (congrArg some (by kernel_rfl))⟩,
  f24:=⟨Go.Proofs.Tryz.f210.name,of_decide_eq_true (by kernel_rfl),(Go.Proofs.Tryz.func210).trans (congrArg some (by kernel_rfl))⟩,
  f25:=⟨Go.Proofs.Tryz.f211.name,of_decide_eq_true (by kernel_rfl),(Go.Proofs.Tryz.func211).trans (congrArg some (by kernel_rfl))⟩,
  f26:=⟨Go.Proofs.Tryz.f212.name,of_decide_eq_true (by kernel_rfl),(Go.Proofs.Tryz.func212).trans (congrArg some (by kernel_rfl))⟩,
  f27:=⟨Go.Proofs.Tryz.f213.name,of_decide_eq_true (by kernel_rfl),(Go.Proofs.Tryz.func213).trans (congrArg some (by kernel_rfl))⟩,
  f28:=(Go.Proofs.Tryz.func204).trans (congrArg some (by kernel_rfl)),
  f29:=(Go.Proofs.Tryz.func205).trans (congrArg some (by kernel_rfl)),
  f46:=⟨Go.Proofs.Tryz.f220.name,of_decide_eq_true (by kernel_rfl),(Go.Proofs.Tryz.func220).trans (congrArg some (by kernel_rfl))⟩,
  f47:=(Go.Proofs.Tryz.func216).trans (congrArg some (by kernel_rfl)),
  f48:=(Go.Proofs.Tryz.func217).trans (congrArg some (by kernel_rfl)),
  f49:=⟨Go.Proofs.Tryz.f221.name,of_decide_eq_true (by kernel_rfl),(Go.Proofs.Tryz.func221).trans (congrArg some (by kernel_rfl))⟩,
  f50:=⟨Go.Proofs.Tryz.f222.name,of_decide_eq_true (by kernel_rfl),(Go.Proofs.Tryz.func222).trans (congrArg some (by kernel_rfl))⟩,
  f57:=⟨Go.Proofs.Tryz.f224.name,of_decide_eq_true (by kernel_rfl),(Go.Proofs.Tryz.func224).trans (congrArg some (by kernel_rfl))⟩,
  t0:=Go.Proofs.Tryz.underlying0,
  a0:=Go.Proofs.Tryz.isAgg0,
  z0:=Go.Proofs.Tryz.sizeOf0,
  v0:=Go.Proofs.Tryz.zeroValue0,
  t3:=Go.Proofs.Tryz.underlying3,
  a3:=Go.Proofs.Tryz.isAgg3,
  z3:=Go.Proofs.Tryz.sizeOf3,
  v3:=Go.Proofs.Tryz.zeroValue3,
  t4:=Go.Proofs.Tryz.underlying4,
  a4:=Go.Proofs.Tryz.isAgg4,
  z4:=Go.Proofs.Tryz.sizeOf4,
  v4:=Go.Proofs.Tryz.zeroValue4,
  t5:=Go.Proofs.Tryz.underlying5,
  a5:=Go.Proofs.Tryz.isAgg5,
  z5:=Go.Proofs.Tryz.sizeOf5,
  v5:=Go.Proofs.Tryz.zeroValue5,
  t9:=Go.Proofs.Tryz.underlying9,
  a9:=Go.Proofs.Tryz.isAgg9,
  z9:=Go.Proofs.Tryz.sizeOf9,
  v9:=Go.Proofs.Tryz.zeroValue9,
  t22:=Go.Proofs.Tryz.underlying26,
  a22:=Go.Proofs.Tryz.isAgg26,
  z22:=Go.Proofs.Tryz.sizeOf26,
  v22:=Go.Proofs.Tryz.zeroValue26,
  a24:=Go.Proofs.Tryz.isAgg45,
  z24:=Go.Proofs.Tryz.sizeOf45,
  t25:=Go.Proofs.Tryz.underlying81,
  a25:=Go.Proofs.Tryz.isAgg81,
  z25:=Go.Proofs.Tryz.sizeOf81,
  v25:=Go.Proofs.Tryz.zeroValue81,
  t39:=Go.Proofs.Tryz.underlying142,
  a39:=Go.Proofs.Tryz.isAgg142,
  z39:=Go.Proofs.Tryz.sizeOf142,
  v39:=Go.Proofs.Tryz.zeroValue142,
  t45:=Go.Proofs.Tryz.underlying168,
  a45:=Go.Proofs.Tryz.isAgg168,
  z45:=Go.Proofs.Tryz.sizeOf168,
  v45:=Go.Proofs.Tryz.zeroValue168,
  t46:=Go.Proofs.Tryz.underlying169,
  a46:=Go.Proofs.Tryz.isAgg169,
  z46:=Go.Proofs.Tryz.sizeOf169,
  v46:=Go.Proofs.Tryz.zeroValue169,
  t50:=Go.Proofs.Tryz.underlying39,
  a50:=Go.Proofs.Tryz.isAgg39,
  z50:=Go.Proofs.Tryz.sizeOf39,
  v50:=Go.Proofs.Tryz.zeroValue39,
  t53:=Go.Proofs.Tryz.underlying158,
  a53:=Go.Proofs.Tryz.isAgg158,
  z53:=Go.Proofs.Tryz.sizeOf158,
  v53:=Go.Proofs.Tryz.zeroValue158,
  t55:=Go.Proofs.Tryz.underlying70,
  a55:=Go.Proofs.Tryz.isAgg70,
  z55:=Go.Proofs.Tryz.sizeOf70,
  v55:=Go.Proofs.Tryz.zeroValue70,
  t66:=Go.Proofs.Tryz.underlying178,
  a66:=Go.Proofs.Tryz.isAgg178,
  z66:=Go.Proofs.Tryz.sizeOf178,
  v66:=Go.Proofs.Tryz.zeroValue178,
  t70:=Go.Proofs.Tryz.underlying182,
  a70:=Go.Proofs.Tryz.isAgg182,
  z70:=Go.Proofs.Tryz.sizeOf182,
  v70:=Go.Proofs.Tryz.zeroValue182,
  t76:=Go.Proofs.Tryz.underlying186,
  a76:=Go.Proofs.Tryz.isAgg186,
  z76:=Go.Proofs.Tryz.sizeOf186,
  v76:=Go.Proofs.Tryz.zeroValue186,
  t77:=Go.Proofs.Tryz.underlying187,
  a77:=Go.Proofs.Tryz.isAgg187,
  z77:=Go.Proofs.Tryz.sizeOf187,
  v77:=Go.Proofs.Tryz.zeroValue187 }
theorem tab:BZ Tryz.prog (Ad tks) (Ad ars):=Azq (by kernel_rfl)
theorem mixed:Tryz.prog.follows .mixedOrders=true:=by kernel_rfl
theorem ABb:Aa Tryz.prog 177 Aww:=
  Agy (enters_of Tryz.func177 (by kernel_rfl) rfl) (fun w v1 v2 xs ys h1 h2 l1 l2=>ACb h1 h2 l1 l2) (fun n enc cf blk off cap w h1 hO hcmp hH hb hs=>Any.slices_SortFunc Awr enc h1 cf hO 68 #[] blk off cap (idA n) w (enters_of Tryz.func68 (by kernel_rfl) rfl) hcmp hH hb hs) (AnyF.slices_SortFunc_none { Awr with })
theorem Azr:Aa Tryz.prog 176 Aoz:=
  Ais (enters_of Tryz.func176 (by kernel_rfl) rfl) (fun blk off cap zs w h1 h2 h3=>AnyM.slices_Sort_int Awi blk off cap zs w h1 h2 h3) (fun p cap w=>AnyM.slices_Sort_int_none Awi p cap w)
theorem Qc (N:Nat):Aa Tryz.prog 34 ⟨[(K_Su8,false)],[.bool],true,GQ N⟩:=
  have E:Env Tryz.prog UB:=Av tab trivial
  Ar (body:=Ao Tryz.f34) (Pc:=[]) E rfl mixed Tryz.func34 (by kernel_rfl) (by kernel_rfl) (by kernel_rfl) (by kernel_rfl) (fun A hA=>trivial) (fun _=>by kernel_rfl)
theorem Ye:Aa Tryz.prog 34 PB:=Aa.less (fun N:Nat=>GQ N) Qc (fun d r h=>⟨0,(P0 0 d).trans h⟩)
theorem Aa2 (N:Nat):Aa Tryz.prog 123 ⟨[(AW,true)],[I],true,O4 N⟩:=
  have E:Env Tryz.prog Avo:=Av tab trivial
  Ar (body:=Ao Tryz.f123) (Pc:=[]) E rfl mixed Tryz.func123 (by kernel_rfl) (by kernel_rfl) (by kernel_rfl) (by kernel_rfl) (fun A hA=>trivial) (fun _=>by kernel_rfl)
theorem Azy:Aa Tryz.prog 123 Am9:=Aa2 0
theorem YP (N:Nat):Aa Tryz.prog 63 ⟨[(AW,true),(I,false)],[I],true,CD N⟩:=
  have E:Env Tryz.prog Ar7:=Av tab ⟨Azy,trivial⟩
  Ar (body:=Ao Tryz.f63) (Pc:=[]) E rfl mixed Tryz.func63 (by kernel_rfl) (by kernel_rfl) (by kernel_rfl) (by kernel_rfl) (fun A hA=>trivial) (fun _=>by kernel_rfl)
theorem Ln:Aa Tryz.prog 63 JJ:=YP 0
theorem Ab2 (N:Nat):Aa Tryz.prog 62 ⟨[(AW,true),(I,false)],[.bool],true,DR N⟩:=
  have E:Env Tryz.prog Atu:=Av tab ⟨Ln,trivial⟩
  Ar (body:=Ao Tryz.f62) (Pc:=[]) E rfl mixed Tryz.func62 (by kernel_rfl) (by kernel_rfl) (by kernel_rfl) (by kernel_rfl) (fun A hA=>trivial) (fun _=>by kernel_rfl)
theorem SZ:Aa Tryz.prog 62 NO:=Ab2 0
theorem Zq (N:Nat):Aa Tryz.prog 121 ⟨[(Ac,false),(I,false),(I,false)],[.bool],true,UG N⟩:=
  have E:Env Tryz.prog Asp:=Av tab trivial
  Ar (body:=Ao Tryz.f121) (Pc:=[(0,⟨Ak5,Aga,Qz N N⟩)]) E rfl mixed Tryz.func121 (by kernel_rfl) (by kernel_rfl) (by kernel_rfl) (by kernel_rfl) (fun A hA=>⟨AK (body:=Au Tryz.f121 0) (inner:=[]) E mixed hA (by kernel_rfl) (by kernel_rfl) (by kernel_rfl) trivial (fun _=>rfl) (fun _ _=>by kernel_rfl) N,trivial⟩) (fun _=>by kernel_rfl)
theorem Abi:Aa Tryz.prog 121 VQ:=Aa.less (fun N:Nat=>UG N) Zq Acm
theorem Y5 (N:Nat):Aa Tryz.prog 173 ⟨[(Ac,false),(I,false)],[Af],true,WG N⟩:=
  have E:Env Tryz.prog Aup:=Av tab ⟨Abi,trivial⟩
  Ar (body:=Ao Tryz.f173) (Pc:=[(0,⟨Aij,Af9,J8 N N⟩)]) E rfl mixed Tryz.func173 (by kernel_rfl) (by kernel_rfl) (by kernel_rfl) (by kernel_rfl) (fun A hA=>⟨AK (body:=Au Tryz.f173 0) (inner:=[]) E mixed hA (by kernel_rfl) (by kernel_rfl) (by kernel_rfl) trivial (fun _=>rfl) (fun _ _=>by kernel_rfl) N,trivial⟩) (fun _=>by kernel_rfl)
theorem Azb:Aa Tryz.prog 173 Amq:=Aa.less (fun N:Nat=>WG N) Y5 P5
theorem Aac (N:Nat):AR Tryz.prog 159 (⟨[(Af,true),(I,false)],[Af],true,VG N⟩,{ gone:=[0],deep:=[] }):=
  have E:Env Tryz.prog Avg:=Dx tab trivial trivial (fun _ h=>by cases h) trivial (by kernel_rfl)
  LM (body:=Ao Tryz.f159) (Pc:=[(0,⟨Ah7,Agu,Ke N N⟩)]) E mixed Tryz.func159 (by kernel_rfl) (by kernel_rfl) (by kernel_rfl) (by kernel_rfl) (fun A hA=>⟨AK (body:=Au Tryz.f159 0) (inner:=[]) E mixed hA (by kernel_rfl) (by kernel_rfl) (by kernel_rfl) trivial (fun _=>rfl) (fun _ _=>by kernel_rfl) N,trivial⟩) (fun _=>by kernel_rfl)
theorem Ayl:AR Tryz.prog 159 (Ara,{ gone:=[0],deep:=[] }):=AR.less (fun N:Nat=>VG N) Aac Abc
theorem YW (N:Nat):Aa Tryz.prog 137 ⟨[(Ac,false),(I,false)],[Af],true,GW N⟩:=
  have E:Env Tryz.prog Asu:=Dx tab ⟨Azb,trivial⟩ trivial (fun _ h=>by cases h) ⟨Ayl,trivial⟩ (by kernel_rfl)
  Ar (body:=Ao Tryz.f137) (Pc:=[]) E rfl mixed Tryz.func137 (by kernel_rfl) (by kernel_rfl) (by kernel_rfl) (by kernel_rfl) (fun A hA=>trivial) (fun _=>by kernel_rfl)
theorem Wm:Aa Tryz.prog 137 RM:=YW 0
theorem Zt (N:Nat):Aa Tryz.prog 131 ⟨[(Aj,false),(Aj,false)],[.bool],true,WK N⟩:=
  have E:Env Tryz.prog Avp:=Av tab trivial
  Ar (body:=Ao Tryz.f131) (Pc:=[]) E rfl mixed Tryz.func131 (by kernel_rfl) (by kernel_rfl) (by kernel_rfl) (by kernel_rfl) (fun A hA=>trivial) (fun _=>by kernel_rfl)
theorem Aow:Aa Tryz.prog 131 Zx:=Aa.less (fun N:Nat=>WK N) Zt (fun d r h=>⟨0,(ZE 0 d).trans h⟩)
theorem Ov (N:Nat):Aa Tryz.prog 119 ⟨[(Bw,false),(Aj,false)],[Bw],true,FT N⟩:=
  have E:Env Tryz.prog Tx:=Av tab ⟨Aow,trivial⟩
  Ar (body:=Ao Tryz.f119) (Pc:=[(0,⟨P6,Qh,EY N N⟩)]) E rfl mixed Tryz.func119 (by kernel_rfl) (by kernel_rfl) (by kernel_rfl) (by kernel_rfl) (fun A hA=>⟨AK (body:=Au Tryz.f119 0) (inner:=[]) E mixed hA (by kernel_rfl) (by kernel_rfl) (by kernel_rfl) trivial (fun _=>rfl) (fun _ _=>by kernel_rfl) N,trivial⟩) (fun _=>by kernel_rfl)
theorem Ip:Aa Tryz.prog 119 FS:=Aa.less (fun N:Nat=>FT N) Ov Aik
theorem Ab3 (N:Nat):Aa Tryz.prog 78 ⟨[(AW,true),(Af,false)],[I],true,Gw N⟩:=
  have E:Env Tryz.prog Au6:=Av tab ⟨Ln,trivial⟩
  Ar (body:=Ao Tryz.f78) (Pc:=[]) E rfl mixed Tryz.func78 (by kernel_rfl) (by kernel_rfl) (by kernel_rfl) (by kernel_rfl) (fun A hA=>trivial) (fun _=>by kernel_rfl)
theorem Acv:Aa Tryz.prog 78 WJ:=Ab3 0
theorem Zu (N:Nat):AR Tryz.prog 122 (⟨[(AW,true),(Ac,true)],[Ac],true,BV N⟩,{ gone:=[1],deep:=[] }):=
  have E:Env Tryz.prog Avt:=Dx tab ⟨Ln,⟨Acv,trivial⟩⟩ trivial (fun _ h=>by cases h) trivial (by kernel_rfl)
  LM (body:=Ao Tryz.f122) (Pc:=[]) E mixed Tryz.func122 (by kernel_rfl) (by kernel_rfl) (by kernel_rfl) (by kernel_rfl) (fun A hA=>trivial) (fun _=>by kernel_rfl)
theorem Aqq:AR Tryz.prog 122 (Y0,{ gone:=[1],deep:=[] }):=Zu 0
theorem Abo (N:Nat):Aa Tryz.prog 145 ⟨[(AW,true),(I,false)],[Ac],true,MH N⟩:=
  have E:Env Tryz.prog Asm:=Dx tab ⟨SZ,⟨Ln,⟨Ip,⟨Wm,trivial⟩⟩⟩⟩ trivial (fun _ h=>by cases h) ⟨Aqq,trivial⟩ (by kernel_rfl)
  Ar (body:=Ao Tryz.f145) (Pc:=[(0,⟨Ak0,Af7,QI N N⟩)]) E rfl mixed Tryz.func145 (by kernel_rfl) (by kernel_rfl) (by kernel_rfl) (by kernel_rfl) (fun A hA=>⟨AK (body:=Au Tryz.f145 0) (inner:=[(2,⟨Akn,Ajx,L6 N N⟩)]) E mixed hA (by kernel_rfl) (by kernel_rfl) (by kernel_rfl) ⟨AK (body:=Au Tryz.f145 2) (inner:=[]) E mixed hA (by kernel_rfl) (by kernel_rfl) (by kernel_rfl) trivial (fun _=>rfl) (fun _ _=>by kernel_rfl) N,trivial⟩ (fun _=>rfl) (fun _ _=>by kernel_rfl) N,trivial⟩) (fun _=>by kernel_rfl)
theorem Ayq:Aa Tryz.prog 145 Ao2:=Aa.less (fun N:Nat=>MH N) Abo H4
theorem Add (N:Nat):Aa Tryz.prog 116 ⟨[(I,false),(I,false)],[I],true,Vg N⟩:=
  have E:Env Tryz.prog Auo:=Av tab trivial
  Ar (body:=Ao Tryz.f116) (Pc:=[]) E rfl mixed Tryz.func116 (by kernel_rfl) (by kernel_rfl) (by kernel_rfl) (by kernel_rfl) (fun A hA=>trivial) (fun _=>by kernel_rfl)
theorem Al8:Aa Tryz.prog 116 Abm:=Aa.less (fun N:Nat=>Vg N) Add (fun d r h=>⟨0,(YY 0 d).trans h⟩)
theorem Abn (N:Nat):Aa Tryz.prog 117 ⟨[(I,false)],[Ac],true,G0 N⟩:=
  have E:Env Tryz.prog Avz:=Av tab trivial
  Ar (body:=Ao Tryz.f117) (Pc:=[(0,⟨Ajt,Ajc,Q9 N N⟩)]) E rfl mixed Tryz.func117 (by kernel_rfl) (by kernel_rfl) (by kernel_rfl) (by kernel_rfl) (fun A hA=>⟨AK (body:=Au Tryz.f117 0) (inner:=[]) E mixed hA (by kernel_rfl) (by kernel_rfl) (by kernel_rfl) trivial (fun _=>rfl) (fun _ _=>by kernel_rfl) N,trivial⟩) (fun _=>by kernel_rfl)
theorem Aod:Aa Tryz.prog 117 Ac0:=Aa.less (fun N:Nat=>G0 N) Abn H4
theorem Z8 (N:Nat):Aa Tryz.prog 118 ⟨[(I,false)],[Ac],true,Jf N⟩:=
  have E:Env Tryz.prog Aug:=Av tab ⟨Aod,⟨Ip,trivial⟩⟩
  Ar (body:=Ao Tryz.f118) (Pc:=[]) E rfl mixed Tryz.func118 (by kernel_rfl) (by kernel_rfl) (by kernel_rfl) (by kernel_rfl) (fun A hA=>trivial) (fun _=>by kernel_rfl)
theorem Ax1:Aa Tryz.prog 118 Aq7:=Z8 0
theorem Zc (N:Nat):Aa Tryz.prog 82 ⟨[(I,false)],[Ac],true,IW N⟩:=
  have E:Env Tryz.prog As6:=Av tab trivial
  Ar (body:=Ao Tryz.f82) (Pc:=[(0,⟨Alo,Af5,Qp N N⟩)]) E rfl mixed Tryz.func82 (by kernel_rfl) (by kernel_rfl) (by kernel_rfl) (by kernel_rfl) (fun A hA=>⟨AK (body:=Au Tryz.f82 0) (inner:=[(2,⟨Ai7,Afu,QV N N⟩)]) E mixed hA (by kernel_rfl) (by kernel_rfl) (by kernel_rfl) ⟨AK (body:=Au Tryz.f82 2) (inner:=[]) E mixed hA (by kernel_rfl) (by kernel_rfl) (by kernel_rfl) trivial (fun _=>rfl) (fun _ _=>by kernel_rfl) N,trivial⟩ (fun _=>rfl) (fun _ _=>by kernel_rfl) N,trivial⟩) (fun _=>by kernel_rfl)
theorem Axw:Aa Tryz.prog 82 Ann:=Aa.less (fun N:Nat=>IW N) Zc H4
theorem Aai (N:Nat):Aa Tryz.prog 120 ⟨[(I,false),(I,false)],[I],true,Ux N⟩:=
  have E:Env Tryz.prog Auv:=Av tab trivial
  Ar (body:=Ao Tryz.f120) (Pc:=[]) E rfl mixed Tryz.func120 (by kernel_rfl) (by kernel_rfl) (by kernel_rfl) (by kernel_rfl) (fun A hA=>trivial) (fun _=>by kernel_rfl)
theorem YU:Aa Tryz.prog 120 U7:=Aa.less (fun N:Nat=>Ux N) Aai (fun d r h=>⟨0,(Ac9 0 d).trans h⟩)
theorem Aan (N:Nat):Aa Tryz.prog 61 ⟨[(AW,true),(I,false)],[Ac],true,Oz N⟩:=
  have E:Env Tryz.prog Av7:=Dx tab ⟨SZ,⟨Ln,⟨Acv,⟨Axw,⟨Al8,⟨Aod,⟨Ax1,⟨Ip,⟨YU,⟨Abi,trivial⟩⟩⟩⟩⟩⟩⟩⟩⟩⟩ trivial (fun _ h=>by cases h) ⟨Aqq,trivial⟩ (by kernel_rfl)
  Ar (body:=Ao Tryz.f61) (Pc:=[(1,⟨Akx,Ak1,GM N N⟩)]) E rfl mixed Tryz.func61 (by kernel_rfl) (by kernel_rfl) (by kernel_rfl) (by kernel_rfl) (fun A hA=>⟨AK (body:=Au Tryz.f61 1) (inner:=[(3,⟨Ait,Akw,Q7 N N⟩)]) E mixed hA (by kernel_rfl) (by kernel_rfl) (by kernel_rfl) ⟨AK (body:=Au Tryz.f61 3) (inner:=[]) E mixed hA (by kernel_rfl) (by kernel_rfl) (by kernel_rfl) trivial (fun _=>rfl) (fun _ _=>by kernel_rfl) N,trivial⟩ (fun _=>rfl) (fun _ _=>by kernel_rfl) N,trivial⟩) (fun _=>by kernel_rfl)
theorem Awy:Aa Tryz.prog 61 Anh:=Aa.less (fun N:Nat=>Oz N) Aan H4
theorem Zi (N:Nat):Aa Tryz.prog 146 ⟨[(AW,true)],[Ac],true,Vy N⟩:=
  have E:Env Tryz.prog Avl:=Av tab ⟨Awy,trivial⟩
  Ar (body:=Ao Tryz.f146) (Pc:=[]) E rfl mixed Tryz.func146 (by kernel_rfl) (by kernel_rfl) (by kernel_rfl) (by kernel_rfl) (fun A hA=>trivial) (fun _=>by kernel_rfl)
theorem Axc:Aa Tryz.prog 146 Arl:=Zi 0
theorem Ac2 (N:Nat):Aa Tryz.prog 83 ⟨[(AW,true)],[Ac],true,RU N⟩:=
  have E:Env Tryz.prog Asy:=Av tab ⟨SZ,⟨Ayq,⟨Axc,trivial⟩⟩⟩
  Ar (body:=Ao Tryz.f83) (Pc:=[]) E rfl mixed Tryz.func83 (by kernel_rfl) (by kernel_rfl) (by kernel_rfl) (by kernel_rfl) (fun A hA=>trivial) (fun _=>by kernel_rfl)
theorem Azj:Aa Tryz.prog 83 Ap8:=Ac2 0
theorem P8 (N:Nat):Aa Tryz.prog 104 ⟨[(I,false),(I,false),(I,false)],[.bool],true,GP N⟩:=
  have E:Env Tryz.prog Wr:=Av tab trivial
  Ar (body:=Ao Tryz.f104) (Pc:=[]) E rfl mixed Tryz.func104 (by kernel_rfl) (by kernel_rfl) (by kernel_rfl) (by kernel_rfl) (fun A hA=>trivial) (fun _=>by kernel_rfl)
theorem XD:Aa Tryz.prog 104 PJ:=Aa.less (fun N:Nat=>GP N) P8 (fun d r h=>⟨0,(Qd 0 d).trans h⟩)
theorem Aco (N:Nat):Aa Tryz.prog 70 ⟨[(Ac,false)],[.bool],true,WA N⟩:=
  have E:Env Tryz.prog Auj:=Av tab ⟨XD,⟨Aow,trivial⟩⟩
  Ar (body:=Ao Tryz.f70) (Pc:=[(0,⟨Afe,Aj2,QS N N⟩)]) E rfl mixed Tryz.func70 (by kernel_rfl) (by kernel_rfl) (by kernel_rfl) (by kernel_rfl) (fun A hA=>⟨AK (body:=Au Tryz.f70 0) (inner:=[]) E mixed hA (by kernel_rfl) (by kernel_rfl) (by kernel_rfl) trivial (fun _=>rfl) (fun _ _=>by kernel_rfl) N,trivial⟩) (fun _=>by kernel_rfl)
theorem Azm:Aa Tryz.prog 70 An4:=Aa.less (fun N:Nat=>WA N) Aco Aaw
theorem Acb (N:Nat):Aa Tryz.prog 88 ⟨[(Ac,false)],[.bool],true,Fl N⟩:=
  have E:Env Tryz.prog Atv:=Av tab ⟨Azm,trivial⟩
  Ar (body:=Ao Tryz.f88) (Pc:=[]) E rfl mixed Tryz.func88 (by kernel_rfl) (by kernel_rfl) (by kernel_rfl) (by kernel_rfl) (fun A hA=>trivial) (fun _=>by kernel_rfl)
theorem RF:Aa Tryz.prog 88 Pp:=Acb 0
theorem Abl (N:Nat):Aa Tryz.prog 98 ⟨[(I,false),(I,false)],[Af],true,Vh N⟩:=
  have E:Env Tryz.prog Aso:=Av tab trivial
  Ar (body:=Ao Tryz.f98) (Pc:=[(0,⟨Air,Alj,Qm N N⟩)]) E rfl mixed Tryz.func98 (by kernel_rfl) (by kernel_rfl) (by kernel_rfl) (by kernel_rfl) (fun A hA=>⟨AK (body:=Au Tryz.f98 0) (inner:=[]) E mixed hA (by kernel_rfl) (by kernel_rfl) (by kernel_rfl) trivial (fun _=>rfl) (fun _ _=>by kernel_rfl) N,trivial⟩) (fun _=>by kernel_rfl)
theorem Ar3:Aa Tryz.prog 98 ZO:=Aa.less (fun N:Nat=>Vh N) Abl Acx
theorem NF (N:Nat):Aa Tryz.prog 93 ⟨[(Ac,false)],[Af],true,B7 N⟩:=
  have E:Env Tryz.prog Tp:=Av tab ⟨Ar3,trivial⟩
  Ar (body:=Ao Tryz.f93) (Pc:=[]) E rfl mixed Tryz.func93 (by kernel_rfl) (by kernel_rfl) (by kernel_rfl) (by kernel_rfl) (fun A hA=>trivial) (fun _=>by kernel_rfl)
theorem Mb:Aa Tryz.prog 93 Is:=NF 0
theorem Pv (N:Nat):Aa Tryz.prog 138 ⟨[(Af,false),(I,false)],[.bool],true,FX N⟩:=
  have E:Env Tryz.prog Th:=Av tab trivial
  Ar (body:=Ao Tryz.f138) (Pc:=[(0,⟨Qf,PT,EZ N N⟩)]) E rfl mixed Tryz.func138 (by kernel_rfl) (by kernel_rfl) (by kernel_rfl) (by kernel_rfl) (fun A hA=>⟨AK (body:=Au Tryz.f138 0) (inner:=[]) E mixed hA (by kernel_rfl) (by kernel_rfl) (by kernel_rfl) trivial (fun _=>rfl) (fun _ _=>by kernel_rfl) N,trivial⟩) (fun _=>by kernel_rfl)
theorem LD:Aa Tryz.prog 138 Iu:=Aa.less (fun N:Nat=>FX N) Pv Ail
theorem Aad (N:Nat):Aa Tryz.prog 179 ⟨[(Ac,false),(Af,false),(I,false),(I,false)],[.bool],true,Wx N⟩:=
  have E:Env Tryz.prog As3:=Av tab ⟨Abi,⟨Wm,⟨LD,trivial⟩⟩⟩
  Ar (body:=Ao Tryz.f179) (Pc:=[(0,⟨Af6,Aj8,Q0 N N⟩)]) E rfl mixed Tryz.func179 (by kernel_rfl) (by kernel_rfl) (by kernel_rfl) (by kernel_rfl) (fun A hA=>⟨AK (body:=Au Tryz.f179 0) (inner:=[]) E mixed hA (by kernel_rfl) (by kernel_rfl) (by kernel_rfl) trivial (fun _=>rfl) (fun _ _=>by kernel_rfl) N,trivial⟩) (fun _=>by kernel_rfl)
theorem Ayy:Aa Tryz.prog 179 Am2:=Aa.less (fun N:Nat=>Wx N) Aad Wf
theorem Zo (N:Nat):Aa Tryz.prog 150 ⟨[(Ac,false),(Af,false),(I,false)],[I],true,WL N⟩:=
  have E:Env Tryz.prog Auh:=Av tab ⟨Ayy,trivial⟩
  Ar (body:=Ao Tryz.f150) (Pc:=[(0,⟨Akb,Afx,Qi N N⟩)]) E rfl mixed Tryz.func150 (by kernel_rfl) (by kernel_rfl) (by kernel_rfl) (by kernel_rfl) (fun A hA=>⟨AK (body:=Au Tryz.f150 0) (inner:=[]) E mixed hA (by kernel_rfl) (by kernel_rfl) (by kernel_rfl) trivial (fun _=>rfl) (fun _ _=>by kernel_rfl) N,trivial⟩) (fun _=>by kernel_rfl)
theorem Amb:Aa Tryz.prog 150 Aa0:=Aa.less (fun N:Nat=>WL N) Zo WX
theorem Zm (N:Nat):Aa Tryz.prog 94 ⟨[(Ac,false),(Af,false)],[Af],true,Wl N⟩:=
  have E:Env Tryz.prog Aue:=Av tab ⟨Amb,trivial⟩
  Ar (body:=Ao Tryz.f94) (Pc:=[(0,⟨Aj5,Ai6,QK N N⟩)]) E rfl mixed Tryz.func94 (by kernel_rfl) (by kernel_rfl) (by kernel_rfl) (by kernel_rfl) (fun A hA=>⟨AK (body:=Au Tryz.f94 0) (inner:=[]) E mixed hA (by kernel_rfl) (by kernel_rfl) (by kernel_rfl) trivial (fun _=>rfl) (fun _ _=>by kernel_rfl) N,trivial⟩) (fun _=>by kernel_rfl)
theorem Ac1:Aa Tryz.prog 94 VN:=Aa.less (fun N:Nat=>Wl N) Zm To
theorem Zf (N:Nat):Aa Tryz.prog 95 ⟨[(Af,false),(I,false)],[Af],true,VX N⟩:=
  have E:Env Tryz.prog At2:=Av tab trivial
  Ar (body:=Ao Tryz.f95) (Pc:=[(0,⟨Aks,Ah8,Qn N N⟩)]) E rfl mixed Tryz.func95 (by kernel_rfl) (by kernel_rfl) (by kernel_rfl) (by kernel_rfl) (fun A hA=>⟨AK (body:=Au Tryz.f95 0) (inner:=[]) E mixed hA (by kernel_rfl) (by kernel_rfl) (by kernel_rfl) trivial (fun _=>rfl) (fun _ _=>by kernel_rfl) N,trivial⟩) (fun _=>by kernel_rfl)
theorem Aar:Aa Tryz.prog 95 VW:=Aa.less (fun N:Nat=>VX N) Zf TA
theorem Pl (N:Nat):Aa Tryz.prog 92 ⟨[(Ac,false),(Af,false)],[.bool],true,FU N⟩:=
  have E:Env Tryz.prog Ts:=FZ tab ⟨Ac1,⟨Aar,trivial⟩⟩ trivial (fun _ h=>by cases h)
  Ar (body:=Ao Tryz.f92) (Pc:=[(0,⟨PZ,PS,E5 N N⟩)]) E rfl mixed Tryz.func92 (by kernel_rfl) (by kernel_rfl) (by kernel_rfl) (by kernel_rfl) (fun A hA=>⟨AK (body:=Au Tryz.f92 0) (inner:=[]) E mixed hA (by kernel_rfl) (by kernel_rfl) (by kernel_rfl) trivial (fun _=>rfl) (fun _ _=>by kernel_rfl) N,trivial⟩) (fun _=>by kernel_rfl)
theorem UR:Aa Tryz.prog 92 L8:=Aa.less (fun N:Nat=>FU N) Pl Ajl
theorem Acc (N:Nat):Aa Tryz.prog 39 ⟨[(Ac,false)],[Af,.bool],true,Wj N⟩:=
  have E:Env Tryz.prog At3:=Av tab ⟨RF,⟨UR,⟨Mb,⟨Ac1,⟨Aar,trivial⟩⟩⟩⟩⟩
  Ar (body:=Ao Tryz.f39) (Pc:=[(0,⟨Aiw,Aih,QQ N N⟩)]) E rfl mixed Tryz.func39 (by kernel_rfl) (by kernel_rfl) (by kernel_rfl) (by kernel_rfl) (fun A hA=>⟨AK (body:=Au Tryz.f39 0) (inner:=[]) E mixed hA (by kernel_rfl) (by kernel_rfl) (by kernel_rfl) trivial (fun _=>rfl) (fun _ _=>by kernel_rfl) N,trivial⟩) (fun _=>by kernel_rfl)
theorem Ap4:Aa Tryz.prog 39 Abt:=Aa.less (fun N:Nat=>Wj N) Acc VD
theorem Z3 (N:Nat):Aa Tryz.prog 84 ⟨[(AW,true),(Ac,false)],[Af],true,JM N⟩:=
  have E:Env Tryz.prog Avh:=Dx tab ⟨SZ,⟨Ln,⟨Acv,⟨Al8,trivial⟩⟩⟩⟩ trivial (fun _ h=>by cases h) trivial (by kernel_rfl)
  Ar (body:=Ao Tryz.f84) (Pc:=[(0,⟨Aho,Ala,Qt N N⟩)]) E rfl mixed Tryz.func84 (by kernel_rfl) (by kernel_rfl) (by kernel_rfl) (by kernel_rfl) (fun A hA=>⟨AK (body:=Au Tryz.f84 0) (inner:=[]) E mixed hA (by kernel_rfl) (by kernel_rfl) (by kernel_rfl) trivial (fun _=>rfl) (fun _ _=>by kernel_rfl) N,trivial⟩) (fun _=>by kernel_rfl)
theorem Axv:Aa Tryz.prog 84 Ap1:=Aa.less (fun N:Nat=>JM N) Z3 H4
theorem Aau (N:Nat):Aa Tryz.prog 35 ⟨[(K_Su8,false)],[Ac,Af],false,Ot N⟩:=
  have E:Env Tryz.prog Ar9:=Dx tab ⟨Ap4,⟨SZ,⟨Ln,⟨Azj,⟨Axv,trivial⟩⟩⟩⟩⟩ trivial (fun _ h=>by cases h) trivial (by kernel_rfl)
  Ar (body:=Ao Tryz.f35) (Pc:=[]) E rfl mixed Tryz.func35 (by kernel_rfl) (by kernel_rfl) (by kernel_rfl) (by kernel_rfl) (fun A hA=>trivial) (fun _=>by kernel_rfl)
theorem Axh:Aa Tryz.prog 35 Ans:=Aau 0
theorem ZJ (N:Nat):Aa Tryz.prog 67 ⟨[(I,false),(I,false),(I,false)],[.bool],true,V2 N⟩:=
  have E:Env Tryz.prog At9:=Av tab trivial
  Ar (body:=Ao Tryz.f67) (Pc:=[]) E rfl mixed Tryz.func67 (by kernel_rfl) (by kernel_rfl) (by kernel_rfl) (by kernel_rfl) (fun A hA=>trivial) (fun _=>by kernel_rfl)
theorem YX:Aa Tryz.prog 67 Wv:=Aa.less (fun N:Nat=>V2 N) ZJ (fun d r h=>⟨0,(ZM 0 d).trans h⟩)
theorem Aaf (N:Nat):Aa Tryz.prog 166 ⟨[(I,false)],[.bool],true,V1 N⟩:=
  have E:Env Tryz.prog Ar8:=Av tab trivial
  Ar (body:=Ao Tryz.f166) (Pc:=[]) E rfl mixed Tryz.func166 (by kernel_rfl) (by kernel_rfl) (by kernel_rfl) (by kernel_rfl) (fun A hA=>trivial) (fun _=>by kernel_rfl)
theorem Ax9:Aa Tryz.prog 166 Apo:=Aa.less (fun N:Nat=>V1 N) Aaf (fun d r h=>⟨0,(ZI 0 d).trans h⟩)
theorem Aas (N:Nat):Aa Tryz.prog 128 ⟨[(I,false),(I,false)],[I],true,Wh N⟩:=
  have E:Env Tryz.prog Ase:=Av tab ⟨Ax9,trivial⟩
  Ar (body:=Ao Tryz.f128) (Pc:=[]) E rfl mixed Tryz.func128 (by kernel_rfl) (by kernel_rfl) (by kernel_rfl) (by kernel_rfl) (fun A hA=>trivial) (fun _=>by kernel_rfl)
theorem Ayt:Aa Tryz.prog 128 Anq:=Aa.less (fun N:Nat=>Wh N) Aas (fun d r h=>⟨0,(Ac3 0 d).trans h⟩)
theorem Aba (N:Nat):Aa Tryz.prog 68 ⟨[(Af,false),(Af,false)],[I],true,WB N⟩:=
  have E:Env Tryz.prog Avv:=Av tab ⟨Ayt,trivial⟩
  Ar (body:=Ao Tryz.f68) (Pc:=[(0,⟨Ai4,Ali,It N N⟩)]) E rfl mixed Tryz.func68 (by kernel_rfl) (by kernel_rfl) (by kernel_rfl) (by kernel_rfl) (fun A hA=>⟨AK (body:=Au Tryz.f68 0) (inner:=[]) E mixed hA (by kernel_rfl) (by kernel_rfl) (by kernel_rfl) trivial (fun _=>rfl) (fun _ _=>by kernel_rfl) N,trivial⟩) (fun _=>by kernel_rfl)
theorem Arj:Aa Tryz.prog 68 Aom:=Aa.less (fun N:Nat=>WB N) Aba Xi
theorem Zr (N:Nat):Aa Tryz.prog 20 ⟨[(Ac,false)],[.bool],true,Vx N⟩:=
  have E:Env Tryz.prog Au0:=Av tab ⟨YX,⟨Arj,trivial⟩⟩
  Ar (body:=Ao Tryz.f20) (Pc:=[(0,⟨Aia,Ai1,QM N N⟩)]) E rfl mixed Tryz.func20 (by kernel_rfl) (by kernel_rfl) (by kernel_rfl) (by kernel_rfl) (fun A hA=>⟨AK (body:=Au Tryz.f20 0) (inner:=[]) E mixed hA (by kernel_rfl) (by kernel_rfl) (by kernel_rfl) trivial (fun _=>rfl) (fun _ _=>by kernel_rfl) N,trivial⟩) (fun _=>by kernel_rfl)
theorem K8:Aa Tryz.prog 20 JI:=Aa.less (fun N:Nat=>Vx N) Zr WZ
theorem Abj (N:Nat):Aa Tryz.prog 147 ⟨[(Af,false),(I,false),(I,false)],[.bool],true,UI N⟩:=
  have E:Env Tryz.prog Avn:=Av tab ⟨YX,trivial⟩
  Ar (body:=Ao Tryz.f147) (Pc:=[(0,⟨Akz,Aii,Qq N N⟩)]) E rfl mixed Tryz.func147 (by kernel_rfl) (by kernel_rfl) (by kernel_rfl) (by kernel_rfl) (fun A hA=>⟨AK (body:=Au Tryz.f147 0) (inner:=[]) E mixed hA (by kernel_rfl) (by kernel_rfl) (by kernel_rfl) trivial (fun _=>rfl) (fun _ _=>by kernel_rfl) N,trivial⟩) (fun _=>by kernel_rfl)
theorem Ama:Aa Tryz.prog 147 YN:=Aa.less (fun N:Nat=>UI N) Abj Tv
theorem YO (N:Nat):Aa Tryz.prog 87 ⟨[(Af,false)],[I],true,VP N⟩:=
  have E:Env Tryz.prog As9:=Av tab trivial
  Ar (body:=Ao Tryz.f87) (Pc:=[(0,⟨Ajn,Ahj,KG N N⟩)]) E rfl mixed Tryz.func87 (by kernel_rfl) (by kernel_rfl) (by kernel_rfl) (by kernel_rfl) (fun A hA=>⟨AK (body:=Au Tryz.f87 0) (inner:=[]) E mixed hA (by kernel_rfl) (by kernel_rfl) (by kernel_rfl) trivial (fun _=>rfl) (fun _ _=>by kernel_rfl) N,trivial⟩) (fun _=>by kernel_rfl)
theorem Ab5:Aa Tryz.prog 87 WP:=Aa.less (fun N:Nat=>VP N) YO ZW
theorem Y4 (N:Nat):Aa Tryz.prog 85 ⟨[(Ac,false),(Af,false)],[.bool],true,SC N⟩:=
  have E:Env Tryz.prog Aui:=Av tab ⟨Ab5,⟨Ama,trivial⟩⟩
  Ar (body:=Ao Tryz.f85) (Pc:=[]) E rfl mixed Tryz.func85 (by kernel_rfl) (by kernel_rfl) (by kernel_rfl) (by kernel_rfl) (fun A hA=>trivial) (fun _=>by kernel_rfl)
theorem Axs:Aa Tryz.prog 85 Aov:=Y4 0
theorem Pt (N:Nat):Aa Tryz.prog 54 ⟨[(Ac,false)],[AL],true,F3 N⟩:=
  have E:Env Tryz.prog Tu:=Av tab trivial
  Ar (body:=Ao Tryz.f54) (Pc:=[(0,⟨PV,PW,CC N N⟩)]) E rfl mixed Tryz.func54 (by kernel_rfl) (by kernel_rfl) (by kernel_rfl) (by kernel_rfl) (fun A hA=>⟨AK (body:=Au Tryz.f54 0) (inner:=[]) E mixed hA (by kernel_rfl) (by kernel_rfl) (by kernel_rfl) trivial (fun _=>rfl) (fun _ _=>by kernel_rfl) N,trivial⟩) (fun _=>by kernel_rfl)
theorem CY:Aa Tryz.prog 54 Cv:=Aa.less (fun N:Nat=>F3 N) Pt Af8
theorem Of (N:Nat):Aa Tryz.prog 91 ⟨[(I,false)],[Af],true,F1 N⟩:=
  have E:Env Tryz.prog Tt:=Av tab trivial
  Ar (body:=Ao Tryz.f91) (Pc:=[(0,⟨Qb,P7,Df N N⟩)]) E rfl mixed Tryz.func91 (by kernel_rfl) (by kernel_rfl) (by kernel_rfl) (by kernel_rfl) (fun A hA=>⟨AK (body:=Au Tryz.f91 0) (inner:=[]) E mixed hA (by kernel_rfl) (by kernel_rfl) (by kernel_rfl) trivial (fun _=>rfl) (fun _ _=>by kernel_rfl) N,trivial⟩) (fun _=>by kernel_rfl)
theorem CS:Aa Tryz.prog 91 Cn:=Aa.less (fun N:Nat=>F1 N) Of Ahc
theorem Aby (N:Nat):Aa Tryz.prog 148 ⟨[(AL,false),(I,false)],[I],true,IE N⟩:=
  have E:Env Tryz.prog Aut:=Av tab trivial
  Ar (body:=Ao Tryz.f148) (Pc:=[]) E rfl mixed Tryz.func148 (by kernel_rfl) (by kernel_rfl) (by kernel_rfl) (by kernel_rfl) (fun A hA=>trivial) (fun _=>by kernel_rfl)
theorem UK:Aa Tryz.prog 148 Rv:=Aby 0
theorem ZZ (N:Nat):Aa Tryz.prog 86 ⟨[(AL,false),(I,false),(I,false)],[Af],true,UZ N⟩:=
  have E:Env Tryz.prog Aum:=Av tab ⟨CS,⟨UK,trivial⟩⟩
  Ar (body:=Ao Tryz.f86) (Pc:=[(0,⟨Ahg,Age,Qj N N⟩)]) E rfl mixed Tryz.func86 (by kernel_rfl) (by kernel_rfl) (by kernel_rfl) (by kernel_rfl) (fun A hA=>⟨AK (body:=Au Tryz.f86 0) (inner:=[]) E mixed hA (by kernel_rfl) (by kernel_rfl) (by kernel_rfl) trivial (fun _=>rfl) (fun _ _=>by kernel_rfl) N,trivial⟩) (fun _=>by kernel_rfl)
theorem VZ:Aa Tryz.prog 86 S7:=Aa.less (fun N:Nat=>UZ N) ZZ Tb
theorem Aca (N:Nat):Aa Tryz.prog 36 ⟨[(Ac,false),(Af,false)],[.bool,.bool],true,UT N⟩:=
  have E:Env Tryz.prog Awb:=Av tab ⟨K8,⟨CY,⟨Axs,⟨VZ,⟨Ab5,trivial⟩⟩⟩⟩⟩
  Ar (body:=Ao Tryz.f36) (Pc:=[(0,⟨Alk,Alh,Qy N N⟩)]) E rfl mixed Tryz.func36 (by kernel_rfl) (by kernel_rfl) (by kernel_rfl) (by kernel_rfl) (fun A hA=>⟨AK (body:=Au Tryz.f36 0) (inner:=[]) E mixed hA (by kernel_rfl) (by kernel_rfl) (by kernel_rfl) trivial (fun _=>rfl) (fun _ _=>by kernel_rfl) N,trivial⟩) (fun _=>by kernel_rfl)
theorem Ayp:Aa Tryz.prog 36 Anz:=Aa.less (fun N:Nat=>UT N) Aca WV
theorem Acs (N:Nat):Aa Tryz.prog 149 ⟨[(Ac,false),(Af,false)],[.bool],true,Vt N⟩:=
  have E:Env Tryz.prog Aux:=Av tab ⟨LD,trivial⟩
  Ar (body:=Ao Tryz.f149) (Pc:=[(0,⟨Aiz,Ale,Ri N N⟩)]) E rfl mixed Tryz.func149 (by kernel_rfl) (by kernel_rfl) (by kernel_rfl) (by kernel_rfl) (fun A hA=>⟨AK (body:=Au Tryz.f149 0) (inner:=[]) E mixed hA (by kernel_rfl) (by kernel_rfl) (by kernel_rfl) trivial (fun _=>rfl) (fun _ _=>by kernel_rfl) N,trivial⟩) (fun _=>by kernel_rfl)
theorem Aw9:Aa Tryz.prog 149 Amg:=Aa.less (fun N:Nat=>Vt N) Acs Ace
theorem Z1 (N:Nat):Aa Tryz.prog 89 ⟨[(Ac,false),(Af,false)],[.bool],true,Vw N⟩:=
  have E:Env Tryz.prog Av8:=Av tab ⟨Mb,⟨Aar,⟨Aw9,⟨Amb,trivial⟩⟩⟩⟩
  Ar (body:=Ao Tryz.f89) (Pc:=[(0,⟨Aji,Ak6,QX N N⟩)]) E rfl mixed Tryz.func89 (by kernel_rfl) (by kernel_rfl) (by kernel_rfl) (by kernel_rfl) (fun A hA=>⟨AK (body:=Au Tryz.f89 0) (inner:=[]) E mixed hA (by kernel_rfl) (by kernel_rfl) (by kernel_rfl) trivial (fun _=>rfl) (fun _ _=>by kernel_rfl) N,trivial⟩) (fun _=>by kernel_rfl)
theorem Ay1:Aa Tryz.prog 89 Am1:=Aa.less (fun N:Nat=>Vw N) Z1 WY
theorem Ac5 (N:Nat):Aa Tryz.prog 37 ⟨[(Ac,false),(Af,false)],[.bool,.bool],true,RS N⟩:=
  have E:Env Tryz.prog As4:=Av tab ⟨RF,⟨Ay1,trivial⟩⟩
  Ar (body:=Ao Tryz.f37) (Pc:=[]) E rfl mixed Tryz.func37 (by kernel_rfl) (by kernel_rfl) (by kernel_rfl) (by kernel_rfl) (fun A hA=>trivial) (fun _=>by kernel_rfl)
theorem Ay0:Aa Tryz.prog 37 Ame:=Ac5 0
theorem Aa5 (N:Nat):Aa Tryz.prog 97 ⟨[(AL,false)],[I],true,Jv N⟩:=
  have E:Env Tryz.prog Auz:=Av tab trivial
  Ar (body:=Ao Tryz.f97) (Pc:=[]) E rfl mixed Tryz.func97 (by kernel_rfl) (by kernel_rfl) (by kernel_rfl) (by kernel_rfl) (fun A hA=>trivial) (fun _=>by kernel_rfl)
theorem Anf:Aa Tryz.prog 97 Acp:=Aa5 0
theorem ZV (N:Nat):Aa Tryz.prog 152 ⟨[(I,false),(Kl,false),(Yj,false)],[.bool],true,VH N⟩:=
  have E:Env Tryz.prog Ath:=Av tab ⟨VZ,trivial⟩
  Ar (body:=Ao Tryz.f152) (Pc:=[]) E rfl mixed Tryz.func152 (by kernel_rfl) (by kernel_rfl) (by kernel_rfl) (by kernel_rfl) (fun A hA=>trivial) (fun _=>by kernel_rfl)
theorem Ay7:Aa Tryz.prog 152 Aym:=ZV 0
theorem Ad3:CH Tryz.prog Ve:=SS Ay7
theorem Aim (N:Nat):Aa Tryz.prog 180 ⟨[(Af,false),(Br,false)],[I],true,Aes N⟩:=
  have E:Env Tryz.prog Aw6:=FZ tab trivial ⟨Ad3,trivial⟩ (fun _ h=>by cases h)
  Ar (body:=Ao Tryz.f180) (Pc:=[(0,⟨Aru,Amp,VR N N⟩)]) E rfl mixed Tryz.func180 (by kernel_rfl) (by kernel_rfl) (by kernel_rfl) (by kernel_rfl) (fun A hA=>⟨AK (body:=Au Tryz.f180 0) (inner:=[]) E mixed hA (by kernel_rfl) (by kernel_rfl) (by kernel_rfl) trivial (fun _=>rfl) (fun _ _=>by kernel_rfl) N,trivial⟩) (fun _=>by kernel_rfl)
theorem AAf:Aa Tryz.prog 180 Awd:=Aa.less (fun N:Nat=>Aes N) Aim U6
theorem Ajr (N:Nat):AR Tryz.prog 151 (⟨[(Af,true),(Br,false)],[Af],false,Aez N⟩,{ gone:=[0],deep:=[] }):=
  have E:Env Tryz.prog Ay9:=Dx tab ⟨AAf,trivial⟩ ⟨Ad3,trivial⟩ (fun _ h=>by cases h) trivial (by kernel_rfl)
  LM (body:=Ao Tryz.f151) (Pc:=[(0,⟨Apk,Anj,WF N N⟩)]) E mixed Tryz.func151 (by kernel_rfl) (by kernel_rfl) (by kernel_rfl) (by kernel_rfl) (fun A hA=>⟨AK (body:=Au Tryz.f151 0) (inner:=[]) E mixed hA (by kernel_rfl) (by kernel_rfl) (by kernel_rfl) trivial (fun _=>rfl) (fun _ _=>by kernel_rfl) N,trivial⟩) (fun _=>by kernel_rfl)
theorem AAa:AR Tryz.prog 151 (Awj,{ gone:=[0],deep:=[] }):=AR.less (fun N:Nat=>Aez N) Ajr Aax
theorem Aa4 (N:Nat):Aa Tryz.prog 96 ⟨[(AL,false),(I,false)],[Af],false,Lc N⟩:=
  have E:Env Tryz.prog Asq:=Dx tab ⟨CS,trivial⟩ trivial (fun _ h=>by cases h) ⟨AAa,trivial⟩ (by kernel_rfl)
  Ar (body:=Ao Tryz.f96) (Pc:=[]) E rfl mixed Tryz.func96 (by kernel_rfl) (by kernel_rfl) (by kernel_rfl) (by kernel_rfl) (fun A hA=>trivial) (fun _=>by kernel_rfl)
theorem Anl:Aa Tryz.prog 96 Ab0:=Aa4 0
theorem Aab (N:Nat):Aa Tryz.prog 90 ⟨[(AL,false)],[Bw,I],true,WO N⟩:=
  have E:Env Tryz.prog Avm:=Av tab ⟨VZ,⟨Anl,⟨Anf,trivial⟩⟩⟩
  Ar (body:=Ao Tryz.f90) (Pc:=[(0,⟨Aie,Ak7,Qk N N⟩)]) E rfl mixed Tryz.func90 (by kernel_rfl) (by kernel_rfl) (by kernel_rfl) (by kernel_rfl) (fun A hA=>⟨AK (body:=Au Tryz.f90 0) (inner:=[]) E mixed hA (by kernel_rfl) (by kernel_rfl) (by kernel_rfl) trivial (fun _=>rfl) (fun _ _=>by kernel_rfl) N,trivial⟩) (fun _=>by kernel_rfl)
theorem Am5:Aa Tryz.prog 90 Aao:=Aa.less (fun N:Nat=>WO N) Aab Vr
theorem Abk (N:Nat):Aa Tryz.prog 38 ⟨[(Ac,false)],[Af,.bool],true,UQ N⟩:=
  have E:Env Tryz.prog Aur:=Av tab ⟨K8,⟨CY,⟨Am5,⟨CS,trivial⟩⟩⟩⟩
  Ar (body:=Ao Tryz.f38) (Pc:=[(0,⟨Akq,Ajo,Q3 N N⟩)]) E rfl mixed Tryz.func38 (by kernel_rfl) (by kernel_rfl) (by kernel_rfl) (by kernel_rfl) (fun A hA=>⟨AK (body:=Au Tryz.f38 0) (inner:=[]) E mixed hA (by kernel_rfl) (by kernel_rfl) (by kernel_rfl) trivial (fun _=>rfl) (fun _ _=>by kernel_rfl) N,trivial⟩) (fun _=>by kernel_rfl)
theorem Ax3:Aa Tryz.prog 38 Ar2:=Aa.less (fun N:Nat=>UQ N) Abk UH
theorem Acd (N:Nat):Aa Tryz.prog 40 ⟨[(Ac,false)],[I,.bool],true,Ws N⟩:=
  have E:Env Tryz.prog Au1:=Av tab ⟨K8,⟨CY,⟨Anl,⟨Anf,trivial⟩⟩⟩⟩
  Ar (body:=Ao Tryz.f40) (Pc:=[(0,⟨Ahy,Afh,QD N N⟩)]) E rfl mixed Tryz.func40 (by kernel_rfl) (by kernel_rfl) (by kernel_rfl) (by kernel_rfl) (fun A hA=>⟨AK (body:=Au Tryz.f40 0) (inner:=[(2,⟨Alz,Ah1,QO N N⟩)]) E mixed hA (by kernel_rfl) (by kernel_rfl) (by kernel_rfl) ⟨AK (body:=Au Tryz.f40 2) (inner:=[]) E mixed hA (by kernel_rfl) (by kernel_rfl) (by kernel_rfl) trivial (fun _=>rfl) (fun _ _=>by kernel_rfl) N,trivial⟩ (fun _=>rfl) (fun _ _=>by kernel_rfl) N,trivial⟩) (fun _=>by kernel_rfl)
theorem Azx:Aa Tryz.prog 40 Aqk:=Aa.less (fun N:Nat=>Ws N) Acd Wd
theorem Aak (N:Nat):Aa Tryz.prog 41 ⟨[(Ac,false)],[I,.bool],true,VM N⟩:=
  have E:Env Tryz.prog Avf:=Av tab ⟨RF,⟨Ac1,⟨Ar3,trivial⟩⟩⟩
  Ar (body:=Ao Tryz.f41) (Pc:=[(0,⟨Ag7,Al3,Rf N N⟩)]) E rfl mixed Tryz.func41 (by kernel_rfl) (by kernel_rfl) (by kernel_rfl) (by kernel_rfl) (fun A hA=>⟨AK (body:=Au Tryz.f41 0) (inner:=[(2,⟨Aj9,Ah3,Ma N N⟩)]) E mixed hA (by kernel_rfl) (by kernel_rfl) (by kernel_rfl) ⟨AK (body:=Au Tryz.f41 2) (inner:=[]) E mixed hA (by kernel_rfl) (by kernel_rfl) (by kernel_rfl) trivial (fun _=>rfl) (fun _ _=>by kernel_rfl) N,trivial⟩ (fun _=>rfl) (fun _ _=>by kernel_rfl) N,trivial⟩) (fun _=>by kernel_rfl)
theorem Aw3:Aa Tryz.prog 41 Aoa:=Aa.less (fun N:Nat=>VM N) Aak Wc
theorem Adh (N:Nat):Aa Tryz.prog 125 ⟨[(AL,false)],[I],true,WE N⟩:=
  have E:Env Tryz.prog Atb:=Av tab trivial
  Ar (body:=Ao Tryz.f125) (Pc:=[]) E rfl mixed Tryz.func125 (by kernel_rfl) (by kernel_rfl) (by kernel_rfl) (by kernel_rfl) (fun A hA=>trivial) (fun _=>by kernel_rfl)
theorem Acl:Aa Tryz.prog 125 UU:=Aa.less (fun N:Nat=>WE N) Adh (fun d r h=>⟨0,(Zk 0 d).trans h⟩)
theorem Ada (N:Nat):Aa Tryz.prog 165 ⟨[(AL,false),(Af,false),(I,false)],[I],true,Uw N⟩:=
  have E:Env Tryz.prog Ava:=Av tab ⟨CS,⟨UK,trivial⟩⟩
  Ar (body:=Ao Tryz.f165) (Pc:=[(0,⟨Agm,Ahk,FO N N⟩)]) E rfl mixed Tryz.func165 (by kernel_rfl) (by kernel_rfl) (by kernel_rfl) (by kernel_rfl) (fun A hA=>⟨AK (body:=Au Tryz.f165 0) (inner:=[]) E mixed hA (by kernel_rfl) (by kernel_rfl) (by kernel_rfl) trivial (fun _=>rfl) (fun _ _=>by kernel_rfl) N,trivial⟩) (fun _=>by kernel_rfl)
theorem Ani:Aa Tryz.prog 165 ZA:=Aa.less (fun N:Nat=>Uw N) Ada Tl
theorem Y2 (N:Nat):Aa Tryz.prog 194 ⟨[(I,false),(Yj,false),(Kl,false),(Abh,false)],[.bool],true,WI N⟩:=
  have E:Env Tryz.prog Auw:=Av tab ⟨Ani,trivial⟩
  Ar (body:=Ao Tryz.f194) (Pc:=[]) E rfl mixed Tryz.func194 (by kernel_rfl) (by kernel_rfl) (by kernel_rfl) (by kernel_rfl) (fun A hA=>trivial) (fun _=>by kernel_rfl)
theorem Ayr:Aa Tryz.prog 194 Azl:=Y2 0
theorem Av6:CH Tryz.prog Aex:=ZH Ayr
theorem Ahx (N:Nat):Aa Tryz.prog 180 ⟨[(Af,false),(Bn,false)],[I],true,Ael N⟩:=
  have E:Env Tryz.prog Awz:=FZ tab trivial ⟨Av6,trivial⟩ (fun _ h=>by cases h)
  Ar (body:=Ao Tryz.f180) (Pc:=[(0,⟨Aop,Arq,VB N N⟩)]) E rfl mixed Tryz.func180 (by kernel_rfl) (by kernel_rfl) (by kernel_rfl) (by kernel_rfl) (fun A hA=>⟨AK (body:=Au Tryz.f180 0) (inner:=[]) E mixed hA (by kernel_rfl) (by kernel_rfl) (by kernel_rfl) trivial (fun _=>rfl) (fun _ _=>by kernel_rfl) N,trivial⟩) (fun _=>by kernel_rfl)
theorem ABh:Aa Tryz.prog 180 Awv:=Aa.less (fun N:Nat=>Ael N) Ahx WM
theorem Agf (N:Nat):Aa Tryz.prog 163 ⟨[(Af,false),(Bn,false)],[.bool],true,Adz N⟩:=
  have E:Env Tryz.prog Azn:=Av tab ⟨ABh,trivial⟩
  Ar (body:=Ao Tryz.f163) (Pc:=[]) E rfl mixed Tryz.func163 (by kernel_rfl) (by kernel_rfl) (by kernel_rfl) (by kernel_rfl) (fun A hA=>trivial) (fun _=>by kernel_rfl)
theorem ABg:Aa Tryz.prog 163 Awf:=Agf 0
theorem ZQ (N:Nat):Aa Tryz.prog 181 ⟨[(AL,false),(AH,false),(I,false),(I,false)],[.bool],true,RO N⟩:=
  have E:Env Tryz.prog Atj:=FZ tab ⟨CS,⟨UK,⟨ABg,trivial⟩⟩⟩ trivial (fun _ h=>by cases h)
  Ar (body:=Ao Tryz.f181) (Pc:=[]) E rfl mixed Tryz.func181 (by kernel_rfl) (by kernel_rfl) (by kernel_rfl) (by kernel_rfl) (fun A hA=>trivial) (fun _=>by kernel_rfl)
theorem Ayx:Aa Tryz.prog 181 Amc:=ZQ 0
theorem ZS (N:Nat):Aa Tryz.prog 153 ⟨[(AL,false)],[AH],true,V3 N⟩:=
  have E:Env Tryz.prog Av5:=Av tab ⟨Aqe,⟨Acl,⟨Ayx,trivial⟩⟩⟩
  Ar (body:=Ao Tryz.f153) (Pc:=[(0,⟨Alr,Akg,Ku N N⟩),(2,⟨Aiu,Agh,LF N N⟩)]) E rfl mixed Tryz.func153 (by kernel_rfl) (by kernel_rfl) (by kernel_rfl) (by kernel_rfl) (fun A hA=>⟨AK (body:=Au Tryz.f153 0) (inner:=[]) E mixed hA (by kernel_rfl) (by kernel_rfl) (by kernel_rfl) trivial (fun _=>rfl) (fun _ _=>by kernel_rfl) N,⟨AK (body:=Au Tryz.f153 2) (inner:=[(4,⟨Afd,Ajy,Ka N N⟩),(8,⟨Aht,Aj6,KO N N⟩)]) E mixed hA (by kernel_rfl) (by kernel_rfl) (by kernel_rfl) ⟨AK (body:=Au Tryz.f153 4) (inner:=[(6,⟨Afo,Alp,J0 N N⟩)]) E mixed hA (by kernel_rfl) (by kernel_rfl) (by kernel_rfl) ⟨AK (body:=Au Tryz.f153 6) (inner:=[]) E mixed hA (by kernel_rfl) (by kernel_rfl) (by kernel_rfl) trivial (fun _=>rfl) (fun _ _=>by kernel_rfl) N,trivial⟩ (fun _=>rfl) (fun _ _=>by kernel_rfl) N,⟨AK (body:=Au Tryz.f153 8) (inner:=[]) E mixed hA (by kernel_rfl) (by kernel_rfl) (by kernel_rfl) trivial (fun _=>rfl) (fun _ _=>by kernel_rfl) N,trivial⟩⟩ (fun _=>rfl) (fun _ _=>by kernel_rfl) N,trivial⟩⟩) (fun _=>by kernel_rfl)
theorem Ayj:Aa Tryz.prog 153 Ami:=Aa.less (fun N:Nat=>V3 N) ZS VJ
theorem Abg (N:Nat):Aa Tryz.prog 158 ⟨[(Af,false),(I,false)],[I],true,UL N⟩:=
  have E:Env Tryz.prog Asi:=Av tab trivial
  Ar (body:=Ao Tryz.f158) (Pc:=[(0,⟨Ag8,Agn,Q8 N N⟩)]) E rfl mixed Tryz.func158 (by kernel_rfl) (by kernel_rfl) (by kernel_rfl) (by kernel_rfl) (fun A hA=>⟨AK (body:=Au Tryz.f158 0) (inner:=[]) E mixed hA (by kernel_rfl) (by kernel_rfl) (by kernel_rfl) trivial (fun _=>rfl) (fun _ _=>by kernel_rfl) N,trivial⟩) (fun _=>by kernel_rfl)
theorem Axe:Aa Tryz.prog 158 Amf:=Aa.less (fun N:Nat=>UL N) Abg Agl
theorem Afp (N:Nat):Aa Tryz.prog 103 ⟨[(Af,false),(I,false)],[.bool],true,Jg N⟩:=
  have E:Env Tryz.prog Aw7:=Av tab ⟨Axe,trivial⟩
  Ar (body:=Ao Tryz.f103) (Pc:=[]) E rfl mixed Tryz.func103 (by kernel_rfl) (by kernel_rfl) (by kernel_rfl) (by kernel_rfl) (fun A hA=>trivial) (fun _=>by kernel_rfl)
theorem Aet:Aa Tryz.prog 103 Yo:=Afp 0
theorem Aa3 (N:Nat):Aa Tryz.prog 127 ⟨[(Af,false)],[I],true,UW N⟩:=
  have E:Env Tryz.prog Au2:=Av tab trivial
  Ar (body:=Ao Tryz.f127) (Pc:=[(0,⟨Aje,Al1,KJ N N⟩)]) E rfl mixed Tryz.func127 (by kernel_rfl) (by kernel_rfl) (by kernel_rfl) (by kernel_rfl) (fun A hA=>⟨AK (body:=Au Tryz.f127 0) (inner:=[]) E mixed hA (by kernel_rfl) (by kernel_rfl) (by kernel_rfl) trivial (fun _=>rfl) (fun _ _=>by kernel_rfl) N,trivial⟩) (fun _=>by kernel_rfl)
theorem Aps:Aa Tryz.prog 127 Aaz:=Aa.less (fun N:Nat=>UW N) Aa3 Avb
theorem ZC (N:Nat):Aa Tryz.prog 99 ⟨[(AL,false)],[I,I,.bool],true,VY N⟩:=
  have E:Env Tryz.prog Atq:=Av tab ⟨Aet,⟨Aps,⟨Ayj,trivial⟩⟩⟩
  Ar (body:=Ao Tryz.f99) (Pc:=[(0,⟨Afa,Agq,QC N N⟩)]) E rfl mixed Tryz.func99 (by kernel_rfl) (by kernel_rfl) (by kernel_rfl) (by kernel_rfl) (fun A hA=>⟨AK (body:=Au Tryz.f99 0) (inner:=[]) E mixed hA (by kernel_rfl) (by kernel_rfl) (by kernel_rfl) trivial (fun _=>rfl) (fun _ _=>by kernel_rfl) N,trivial⟩) (fun _=>by kernel_rfl)
theorem Azf:Aa Tryz.prog 99 Apg:=Aa.less (fun N:Nat=>VY N) ZC XS
theorem ZN (N:Nat):Aa Tryz.prog 42 ⟨[(Ac,false)],[.bool,.bool],true,SW N⟩:=
  have E:Env Tryz.prog Atx:=Av tab ⟨K8,⟨CY,⟨Azf,trivial⟩⟩⟩
  Ar (body:=Ao Tryz.f42) (Pc:=[]) E rfl mixed Tryz.func42 (by kernel_rfl) (by kernel_rfl) (by kernel_rfl) (by kernel_rfl) (fun A hA=>trivial) (fun _=>by kernel_rfl)
theorem Ax4:Aa Tryz.prog 42 An8:=ZN 0
theorem Acu (N:Nat):Aa Tryz.prog 182 ⟨[(.bool,false)],[I],true,Wu N⟩:=
  have E:Env Tryz.prog Avs:=Av tab trivial
  Ar (body:=Ao Tryz.f182) (Pc:=[]) E rfl mixed Tryz.func182 (by kernel_rfl) (by kernel_rfl) (by kernel_rfl) (by kernel_rfl) (fun A hA=>trivial) (fun _=>by kernel_rfl)
theorem Azv:Aa Tryz.prog 182 Aoj:=Aa.less (fun N:Nat=>Wu N) Acu (fun d r h=>⟨0,(Abz 0 d).trans h⟩)
theorem NH (N:Nat):Aa Tryz.prog 76 ⟨[(Af,false)],[Af],true,Ed N⟩:=
  have E:Env Tryz.prog Tf:=Av tab trivial
  Ar (body:=Ao Tryz.f76) (Pc:=[]) E rfl mixed Tryz.func76 (by kernel_rfl) (by kernel_rfl) (by kernel_rfl) (by kernel_rfl) (fun A hA=>trivial) (fun _=>by kernel_rfl)
theorem V8:Aa Tryz.prog 76 Lq:=NH 0
theorem YZ (N:Nat):Aa Tryz.prog 214 ⟨[(Ac,false),(AH,false),(I,false),(I,false)],[I],true,WH N⟩:=
  have E:Env Tryz.prog Atg:=Av tab ⟨YU,⟨Wm,trivial⟩⟩
  Ar (body:=Ao Tryz.f214) (Pc:=[(0,⟨Ah6,Ag0,F4 N N⟩)]) E rfl mixed Tryz.func214 (by kernel_rfl) (by kernel_rfl) (by kernel_rfl) (by kernel_rfl) (fun A hA=>⟨AK (body:=Au Tryz.f214 0) (inner:=[]) E mixed hA (by kernel_rfl) (by kernel_rfl) (by kernel_rfl) trivial (fun _=>rfl) (fun _ _=>by kernel_rfl) N,trivial⟩) (fun _=>by kernel_rfl)
theorem Az5:Aa Tryz.prog 214 Ap0:=Aa.less (fun N:Nat=>WH N) YZ XT
theorem Aal (N:Nat):Aa Tryz.prog 195 ⟨[(Ac,false),(AH,false),(I,false),(I,false)],[I],true,Sc N⟩:=
  have E:Env Tryz.prog Auf:=Av tab ⟨Az5,trivial⟩
  Ar (body:=Ao Tryz.f195) (Pc:=[]) E rfl mixed Tryz.func195 (by kernel_rfl) (by kernel_rfl) (by kernel_rfl) (by kernel_rfl) (fun A hA=>trivial) (fun _=>by kernel_rfl)
theorem Axm:Aa Tryz.prog 195 Arw:=Aal 0
theorem Ab6 (N:Nat):Aa Tryz.prog 183 ⟨[(Ac,false),(AH,false),(I,false),(I,false)],[I],true,Vc N⟩:=
  have E:Env Tryz.prog Asl:=Av tab ⟨Wm,⟨Axm,trivial⟩⟩
  Ar (body:=Ao Tryz.f183) (Pc:=[(0,⟨Ajh,Aj0,JX N N⟩)]) E rfl mixed Tryz.func183 (by kernel_rfl) (by kernel_rfl) (by kernel_rfl) (by kernel_rfl) (fun A hA=>⟨AK (body:=Au Tryz.f183 0) (inner:=[]) E mixed hA (by kernel_rfl) (by kernel_rfl) (by kernel_rfl) trivial (fun _=>rfl) (fun _ _=>by kernel_rfl) N,trivial⟩) (fun _=>by kernel_rfl)
theorem Azp:Aa Tryz.prog 183 And:=Aa.less (fun N:Nat=>Vc N) Ab6 Zb
theorem Zh (N:Nat):Aa Tryz.prog 154 ⟨[(Ac,false)],[AH],true,UO N⟩:=
  have E:Env Tryz.prog Aty:=Av tab ⟨V8,⟨Azv,⟨Azp,trivial⟩⟩⟩
  Ar (body:=Ao Tryz.f154) (Pc:=[(0,⟨Ald,Alt,J2 N N⟩),(4,⟨Aig,Ahe,Ly N N⟩)]) E rfl mixed Tryz.func154 (by kernel_rfl) (by kernel_rfl) (by kernel_rfl) (by kernel_rfl) (fun A hA=>⟨AK (body:=Au Tryz.f154 0) (inner:=[(2,⟨Ag2,Ahw,KP N N⟩)]) E mixed hA (by kernel_rfl) (by kernel_rfl) (by kernel_rfl) ⟨AK (body:=Au Tryz.f154 2) (inner:=[]) E mixed hA (by kernel_rfl) (by kernel_rfl) (by kernel_rfl) trivial (fun _=>rfl) (fun _ _=>by kernel_rfl) N,trivial⟩ (fun _=>rfl) (fun _ _=>by kernel_rfl) N,⟨AK (body:=Au Tryz.f154 4) (inner:=[(6,⟨Aiv,Afc,Kw N N⟩)]) E mixed hA (by kernel_rfl) (by kernel_rfl) (by kernel_rfl) ⟨AK (body:=Au Tryz.f154 6) (inner:=[(8,⟨Ah0,Akt,Kv N N⟩)]) E mixed hA (by kernel_rfl) (by kernel_rfl) (by kernel_rfl) ⟨AK (body:=Au Tryz.f154 8) (inner:=[]) E mixed hA (by kernel_rfl) (by kernel_rfl) (by kernel_rfl) trivial (fun _=>rfl) (fun _ _=>by kernel_rfl) N,trivial⟩ (fun _=>rfl) (fun _ _=>by kernel_rfl) N,trivial⟩ (fun _=>rfl) (fun _ _=>by kernel_rfl) N,trivial⟩⟩) (fun _=>by kernel_rfl)
theorem Azt:Aa Tryz.prog 154 Aqr:=Aa.less (fun N:Nat=>UO N) Zh Yl
theorem Abd (N:Nat):Aa Tryz.prog 155 ⟨[(AH,false),(I,false)],[I],true,V9 N⟩:=
  have E:Env Tryz.prog Avi:=Av tab ⟨YU,trivial⟩
  Ar (body:=Ao Tryz.f155) (Pc:=[(0,⟨Ah4,Alw,QF N N⟩)]) E rfl mixed Tryz.func155 (by kernel_rfl) (by kernel_rfl) (by kernel_rfl) (by kernel_rfl) (fun A hA=>⟨AK (body:=Au Tryz.f155 0) (inner:=[]) E mixed hA (by kernel_rfl) (by kernel_rfl) (by kernel_rfl) trivial (fun _=>rfl) (fun _ _=>by kernel_rfl) N,trivial⟩) (fun _=>by kernel_rfl)
theorem Azs:Aa Tryz.prog 155 Ap2:=Aa.less (fun N:Nat=>V9 N) Abd YK
theorem Ac8 (N:Nat):Aa Tryz.prog 100 ⟨[(Ac,false)],[I,I,.bool],true,Wa N⟩:=
  have E:Env Tryz.prog Asz:=Av tab ⟨RF,⟨Azt,⟨Azs,trivial⟩⟩⟩
  Ar (body:=Ao Tryz.f100) (Pc:=[(0,⟨Aio,Ajm,Q2 N N⟩)]) E rfl mixed Tryz.func100 (by kernel_rfl) (by kernel_rfl) (by kernel_rfl) (by kernel_rfl) (fun A hA=>⟨AK (body:=Au Tryz.f100 0) (inner:=[]) E mixed hA (by kernel_rfl) (by kernel_rfl) (by kernel_rfl) trivial (fun _=>rfl) (fun _ _=>by kernel_rfl) N,trivial⟩) (fun _=>by kernel_rfl)
theorem Azk:Aa Tryz.prog 100 Ang:=Aa.less (fun N:Nat=>Wa N) Ac8 Sp
theorem ZD (N:Nat):Aa Tryz.prog 43 ⟨[(Ac,false)],[.bool,.bool],true,SR N⟩:=
  have E:Env Tryz.prog At1:=Av tab ⟨RF,⟨Azk,trivial⟩⟩
  Ar (body:=Ao Tryz.f43) (Pc:=[]) E rfl mixed Tryz.func43 (by kernel_rfl) (by kernel_rfl) (by kernel_rfl) (by kernel_rfl) (fun A hA=>trivial) (fun _=>by kernel_rfl)
theorem Ay2:Aa Tryz.prog 43 Apu:=ZD 0
theorem N6 (N:Nat):Aa Tryz.prog 44 ⟨[(Af,false),(Af,false)],[.bool],true,F2 N⟩:=
  have E:Env Tryz.prog Tg:=Av tab trivial
  Ar (body:=Ao Tryz.f44) (Pc:=[(0,⟨P1,Qa,EX N N⟩)]) E rfl mixed Tryz.func44 (by kernel_rfl) (by kernel_rfl) (by kernel_rfl) (by kernel_rfl) (fun A hA=>⟨AK (body:=Au Tryz.f44 0) (inner:=[]) E mixed hA (by kernel_rfl) (by kernel_rfl) (by kernel_rfl) trivial (fun _=>rfl) (fun _ _=>by kernel_rfl) N,trivial⟩) (fun _=>by kernel_rfl)
theorem WD:Aa Tryz.prog 44 LO:=Aa.less (fun N:Nat=>F2 N) N6 Alv
theorem Z9 (N:Nat):Aa Tryz.prog 45 ⟨[(Ac,false)],[Af,.bool],true,Sm N⟩:=
  have E:Env Tryz.prog Au5:=Av tab ⟨K8,⟨CY,⟨Am5,⟨CS,trivial⟩⟩⟩⟩
  Ar (body:=Ao Tryz.f45) (Pc:=[]) E rfl mixed Tryz.func45 (by kernel_rfl) (by kernel_rfl) (by kernel_rfl) (by kernel_rfl) (fun A hA=>trivial) (fun _=>by kernel_rfl)
theorem Ay5:Aa Tryz.prog 45 Aoe:=Z9 0
theorem YR (N:Nat):Aa Tryz.prog 53 ⟨[(Ac,false),(I,false)],[.bool],true,SK N⟩:=
  have E:Env Tryz.prog Avy:=Av tab ⟨K8,⟨YX,trivial⟩⟩
  Ar (body:=Ao Tryz.f53) (Pc:=[]) E rfl mixed Tryz.func53 (by kernel_rfl) (by kernel_rfl) (by kernel_rfl) (by kernel_rfl) (fun A hA=>trivial) (fun _=>by kernel_rfl)
theorem Azc:Aa Tryz.prog 53 An1:=YR 0
theorem ZK (N:Nat):Aa Tryz.prog 114 ⟨[(Af,false)],[Af],true,U2 N⟩:=
  have E:Env Tryz.prog Ato:=Av tab trivial
  Ar (body:=Ao Tryz.f114) (Pc:=[]) E rfl mixed Tryz.func114 (by kernel_rfl) (by kernel_rfl) (by kernel_rfl) (by kernel_rfl) (fun A hA=>trivial) (fun _=>by kernel_rfl)
theorem Ac6:Aa Tryz.prog 114 Vs:=Aa.less (fun N:Nat=>U2 N) ZK Z2
theorem Z0 (N:Nat):Aa Tryz.prog 160 ⟨[(I,false),(I,false)],[AH],true,US N⟩:=
  have E:Env Tryz.prog As0:=FZ tab ⟨Ac6,trivial⟩ trivial (fun _ h=>by cases h)
  Ar (body:=Ao Tryz.f160) (Pc:=[(0,⟨Ah9,Ahb,QB N N⟩)]) E rfl mixed Tryz.func160 (by kernel_rfl) (by kernel_rfl) (by kernel_rfl) (by kernel_rfl) (fun A hA=>⟨AK (body:=Au Tryz.f160 0) (inner:=[(2,⟨Aj1,Aff,Ra N N⟩)]) E mixed hA (by kernel_rfl) (by kernel_rfl) (by kernel_rfl) ⟨AK (body:=Au Tryz.f160 2) (inner:=[(4,⟨Aip,Ahf,LN N N⟩)]) E mixed hA (by kernel_rfl) (by kernel_rfl) (by kernel_rfl) ⟨AK (body:=Au Tryz.f160 4) (inner:=[]) E mixed hA (by kernel_rfl) (by kernel_rfl) (by kernel_rfl) trivial (fun _=>rfl) (fun _ _=>by kernel_rfl) N,trivial⟩ (fun _=>rfl) (fun _ _=>by kernel_rfl) N,trivial⟩ (fun _=>rfl) (fun _ _=>by kernel_rfl) N,trivial⟩) (fun _=>by kernel_rfl)
theorem Axk:Aa Tryz.prog 160 Aqa:=Aa.less (fun N:Nat=>US N) Z0 WC
theorem AAe:AR Tryz.prog 178 (Awq,{ gone:=[0],deep:=[] }):=Wn (enters_of Tryz.func178 (by kernel_rfl) rfl) (fun w v1 v2 xs ys h1 h2 l1 l2=>eqH h1 h2 l1 l2) Alg PY
theorem YQ (N:Nat):Aa Tryz.prog 142 ⟨[(AL,false),(Af,false)],[AH],true,Uy N⟩:=
  have E:Env Tryz.prog Avd:=Dx tab ⟨CS,⟨Ac6,⟨UK,⟨Azr,⟨ABb,trivial⟩⟩⟩⟩⟩ trivial (fun _ h=>by cases h) ⟨AAe,trivial⟩ (by kernel_rfl)
  Ar (body:=Ao Tryz.f142) (Pc:=[(0,⟨Af0,Al0,Rb N N⟩),(6,⟨Agk,Afz,Rc N N⟩)]) E rfl mixed Tryz.func142 (by kernel_rfl) (by kernel_rfl) (by kernel_rfl) (by kernel_rfl) (fun A hA=>⟨AK (body:=Au Tryz.f142 0) (inner:=[(2,⟨Aka,Af4,Re N N⟩)]) E mixed hA (by kernel_rfl) (by kernel_rfl) (by kernel_rfl) ⟨AK (body:=Au Tryz.f142 2) (inner:=[(4,⟨Aln,Ah2,Ql N N⟩)]) E mixed hA (by kernel_rfl) (by kernel_rfl) (by kernel_rfl) ⟨AK (body:=Au Tryz.f142 4) (inner:=[]) E mixed hA (by kernel_rfl) (by kernel_rfl) (by kernel_rfl) trivial (fun _=>rfl) (fun _ _=>by kernel_rfl) N,trivial⟩ (fun _=>rfl) (fun _ _=>by kernel_rfl) N,trivial⟩ (fun _=>rfl) (fun _ _=>by kernel_rfl) N,⟨AK (body:=Au Tryz.f142 6) (inner:=[]) E mixed hA (by kernel_rfl) (by kernel_rfl) (by kernel_rfl) trivial (fun _=>rfl) (fun _ _=>by kernel_rfl) N,trivial⟩⟩) (fun _=>by kernel_rfl)
theorem Ayu:Aa Tryz.prog 142 Aqf:=Aa.less (fun N:Nat=>Uy N) YQ RX
theorem Auy:CH Tryz.prog Aec:=Zn Arj
theorem Agg (N:Nat):Aa Tryz.prog 184 ⟨[(AH,false),(Af,false),(D0,false)],[I,.bool],true,Aee N⟩:=
  have E:Env Tryz.prog Aw8:=FZ tab trivial ⟨Auy,trivial⟩ (fun _ h=>by cases h)
  Ar (body:=Ao Tryz.f184) (Pc:=[(0,⟨Anc,Aqp,Vj N N⟩)]) E rfl mixed Tryz.func184 (by kernel_rfl) (by kernel_rfl) (by kernel_rfl) (by kernel_rfl) (fun A hA=>⟨AK (body:=Au Tryz.f184 0) (inner:=[]) E mixed hA (by kernel_rfl) (by kernel_rfl) (by kernel_rfl) trivial (fun _=>rfl) (fun _ _=>by kernel_rfl) N,trivial⟩) (fun _=>by kernel_rfl)
theorem ABo:Aa Tryz.prog 184 Awk:=Aa.less (fun N:Nat=>Aee N) Agg Ti
theorem Acf (N:Nat):Aa Tryz.prog 161 ⟨[(AQ,false),(Af,false)],[I],true,Sf N⟩:=
  have E:Env Tryz.prog Ati:=Av tab ⟨ABo,trivial⟩
  Ar (body:=Ao Tryz.f161) (Pc:=[]) E rfl mixed Tryz.func161 (by kernel_rfl) (by kernel_rfl) (by kernel_rfl) (by kernel_rfl) (fun A hA=>trivial) (fun _=>by kernel_rfl)
theorem Axf:Aa Tryz.prog 161 Arb:=Acf 0
theorem Zs (N:Nat):AR Tryz.prog 110 (⟨[(AL,false),(I,false)],[AQ],true,VO N⟩,md0):=
  have E:Env Tryz.prog Atc:=Av tab ⟨Acl,⟨Ayu,⟨Axk,⟨Axf,trivial⟩⟩⟩⟩
  LM (body:=Ao Tryz.f110) (Pc:=[(0,⟨Af1,Afs,QP N N⟩)]) E mixed Tryz.func110 (by kernel_rfl) (by kernel_rfl) (by kernel_rfl) (by kernel_rfl) (fun A hA=>⟨AK (body:=Au Tryz.f110 0) (inner:=[(2,⟨Alb,Al2,QH N N⟩)]) E mixed hA (by kernel_rfl) (by kernel_rfl) (by kernel_rfl) ⟨AK (body:=Au Tryz.f110 2) (inner:=[]) E mixed hA (by kernel_rfl) (by kernel_rfl) (by kernel_rfl) trivial (fun _=>rfl) (fun _ _=>by kernel_rfl) N,trivial⟩ (fun _=>rfl) (fun _ _=>by kernel_rfl) N,trivial⟩) (fun _=>by kernel_rfl)
theorem Azz:AR Tryz.prog 110 (Arn,md0):=AR.less (fun N:Nat=>VO N) Zs U4
theorem Aa6 (N:Nat):Aa Tryz.prog 164 ⟨[(I,false),(DC,false),(Yj,false)],[.bool],true,Wt N⟩:=
  have E:Env Tryz.prog Ask:=FZ tab ⟨Aet,⟨Ani,trivial⟩⟩ trivial (Awp (by kernel_rfl))
  Ar (body:=Ao Tryz.f164) (Pc:=[]) E rfl mixed Tryz.func164 (by kernel_rfl) (by kernel_rfl) (by kernel_rfl) (by kernel_rfl) (fun A hA=>trivial) (fun _=>by kernel_rfl)
theorem Axo:Aa Tryz.prog 164 Axl:=Aa6 0
theorem Avr:CH Tryz.prog Aev:=SS Axo
theorem Akr (N:Nat):Aa Tryz.prog 180 ⟨[(Af,false),(AZ,false)],[I],true,Ae6 N⟩:=
  have E:Env Tryz.prog Axp:=FZ tab trivial ⟨Avr,trivial⟩ (fun _ h=>by cases h)
  Ar (body:=Ao Tryz.f180) (Pc:=[(0,⟨Ana,Apw,WN N N⟩)]) E rfl mixed Tryz.func180 (by kernel_rfl) (by kernel_rfl) (by kernel_rfl) (by kernel_rfl) (fun A hA=>⟨AK (body:=Au Tryz.f180 0) (inner:=[]) E mixed hA (by kernel_rfl) (by kernel_rfl) (by kernel_rfl) trivial (fun _=>rfl) (fun _ _=>by kernel_rfl) N,trivial⟩) (fun _=>by kernel_rfl)
theorem Az7:Aa Tryz.prog 180 Awg:=Aa.less (fun N:Nat=>Ae6 N) Akr Yb
theorem Aj3 (N:Nat):Aa Tryz.prog 163 ⟨[(Af,false),(AZ,false)],[.bool],true,Aem N⟩:=
  have E:Env Tryz.prog Az3:=Av tab ⟨Az7,trivial⟩
  Ar (body:=Ao Tryz.f163) (Pc:=[]) E rfl mixed Tryz.func163 (by kernel_rfl) (by kernel_rfl) (by kernel_rfl) (by kernel_rfl) (fun A hA=>trivial) (fun _=>by kernel_rfl)
theorem ABq:Aa Tryz.prog 163 Awu:=Aj3 0
theorem Aaq (N:Nat):Aa Tryz.prog 126 ⟨[(AQ,false),(I,false),(I,false)],[.bool],true,RI N⟩:=
  have E:Env Tryz.prog Avj:=FZ tab ⟨ABq,trivial⟩ trivial (Awp (by kernel_rfl))
  Ar (body:=Ao Tryz.f126) (Pc:=[]) E rfl mixed Tryz.func126 (by kernel_rfl) (by kernel_rfl) (by kernel_rfl) (by kernel_rfl) (fun A hA=>trivial) (fun _=>by kernel_rfl)
theorem Aya:Aa Tryz.prog 126 Aqs:=Aaq 0
theorem ZG (N:Nat):AR Tryz.prog 64 (⟨[(AL,false),(I,false)],[AQ],true,Va N⟩,md0):=
  have E:Env Tryz.prog Asx:=Dx tab ⟨Aqe,⟨Acl,⟨Aya,trivial⟩⟩⟩ trivial (fun _ h=>by cases h) ⟨Azz,trivial⟩ (by kernel_rfl)
  LM (body:=Ao Tryz.f64) (Pc:=[(0,⟨Ak8,Ak9,Q4 N N⟩),(4,⟨Aj4,Agj,Qs N N⟩)]) E mixed Tryz.func64 (by kernel_rfl) (by kernel_rfl) (by kernel_rfl) (by kernel_rfl) (fun A hA=>⟨AK (body:=Au Tryz.f64 0) (inner:=[(2,⟨Akh,Afw,QZ N N⟩)]) E mixed hA (by kernel_rfl) (by kernel_rfl) (by kernel_rfl) ⟨AK (body:=Au Tryz.f64 2) (inner:=[]) E mixed hA (by kernel_rfl) (by kernel_rfl) (by kernel_rfl) trivial (fun _=>rfl) (fun _ _=>by kernel_rfl) N,trivial⟩ (fun _=>rfl) (fun _ _=>by kernel_rfl) N,⟨AK (body:=Au Tryz.f64 4) (inner:=[(6,⟨Ak2,Agb,Q1 N N⟩),(10,⟨Aa1,YL,LQ N N⟩)]) E mixed hA (by kernel_rfl) (by kernel_rfl) (by kernel_rfl) ⟨AK (body:=Au Tryz.f64 6) (inner:=[(8,⟨Ain,Ajg,QR N N⟩)]) E mixed hA (by kernel_rfl) (by kernel_rfl) (by kernel_rfl) ⟨AK (body:=Au Tryz.f64 8) (inner:=[]) E mixed hA (by kernel_rfl) (by kernel_rfl) (by kernel_rfl) trivial (fun _=>rfl) (fun _ _=>by kernel_rfl) N,trivial⟩ (fun _=>rfl) (fun _ _=>by kernel_rfl) N,⟨AK (body:=Au Tryz.f64 10) (inner:=[]) E mixed hA (by kernel_rfl) (by kernel_rfl) (by kernel_rfl) trivial (fun _=>rfl) (fun _ _=>by kernel_rfl) N,trivial⟩⟩ (fun _=>rfl) (fun _ _=>by kernel_rfl) N,trivial⟩⟩) (fun _=>by kernel_rfl)
theorem Axn:AR Tryz.prog 64 (Anb,md0):=AR.less (fun N:Nat=>Va N) ZG Yg
theorem Z7 (N:Nat):Aa Tryz.prog 65 ⟨[(AQ,false)],[Af,I,.bool],true,VA N⟩:=
  have E:Env Tryz.prog Auk:=Av tab ⟨Aet,⟨Ac6,⟨Aps,trivial⟩⟩⟩
  Ar (body:=Ao Tryz.f65) (Pc:=[(0,⟨Agw,Aiy,Rg N N⟩)]) E rfl mixed Tryz.func65 (by kernel_rfl) (by kernel_rfl) (by kernel_rfl) (by kernel_rfl) (fun A hA=>⟨AK (body:=Au Tryz.f65 0) (inner:=[]) E mixed hA (by kernel_rfl) (by kernel_rfl) (by kernel_rfl) trivial (fun _=>rfl) (fun _ _=>by kernel_rfl) N,trivial⟩) (fun _=>by kernel_rfl)
theorem Azi:Aa Tryz.prog 65 Anv:=Aa.less (fun N:Nat=>VA N) Z7 VS
theorem ZU (N:Nat):Aa Tryz.prog 24 ⟨[(Ac,false),(I,false)],[.bool,.bool],true,O9 N⟩:=
  have E:Env Tryz.prog Aus:=Dx tab ⟨Azc,⟨CY,⟨Azi,trivial⟩⟩⟩ trivial (fun _ h=>by cases h) ⟨Axn,trivial⟩ (by kernel_rfl)
  Ar (body:=Ao Tryz.f24) (Pc:=[]) E rfl mixed Tryz.func24 (by kernel_rfl) (by kernel_rfl) (by kernel_rfl) (by kernel_rfl) (fun A hA=>trivial) (fun _=>by kernel_rfl)
theorem Axj:Aa Tryz.prog 24 Aor:=ZU 0
theorem Nd (N:Nat):Aa Tryz.prog 47 ⟨[(I,false),(I,false)],[Af],true,FR N⟩:=
  have E:Env Tryz.prog Tc:=Av tab trivial
  Ar (body:=Ao Tryz.f47) (Pc:=[(0,⟨P3,PU,E3 N N⟩)]) E rfl mixed Tryz.func47 (by kernel_rfl) (by kernel_rfl) (by kernel_rfl) (by kernel_rfl) (fun A hA=>⟨AK (body:=Au Tryz.f47 0) (inner:=[]) E mixed hA (by kernel_rfl) (by kernel_rfl) (by kernel_rfl) trivial (fun _=>rfl) (fun _ _=>by kernel_rfl) N,trivial⟩) (fun _=>by kernel_rfl)
theorem UN:Aa Tryz.prog 47 LK:=Aa.less (fun N:Nat=>FR N) Nd Ag6
theorem Nl (N:Nat):Aa Tryz.prog 101 ⟨[(Ac,false),(I,false),(I,false)],[.bool],true,FQ N⟩:=
  have E:Env Tryz.prog Td:=Dx tab trivial trivial (fun _ h=>by cases h) trivial (by kernel_rfl)
  Ar (body:=Ao Tryz.f101) (Pc:=[(0,⟨Qe,P2,E1 N N⟩)]) E rfl mixed Tryz.func101 (by kernel_rfl) (by kernel_rfl) (by kernel_rfl) (by kernel_rfl) (fun A hA=>⟨AK (body:=Au Tryz.f101 0) (inner:=[]) E mixed hA (by kernel_rfl) (by kernel_rfl) (by kernel_rfl) trivial (fun _=>rfl) (fun _ _=>by kernel_rfl) N,trivial⟩) (fun _=>by kernel_rfl)
theorem Wo:Aa Tryz.prog 101 L3:=Aa.less (fun N:Nat=>FQ N) Nl Ajk
theorem Ru:∀N:Nat,Aa Tryz.prog 46 ⟨[(Ac,false),(Af,false)],[I],true,CZ N⟩
  | 0=>fun _ _ _ _ _ _ _ _ _ _ h=>by cases h
  | N+1=>
    have E:Env Tryz.prog (QE (CZ N)):=Av tab ⟨Ru N,⟨Wo,trivial⟩⟩
    Ar (body:=Ao Tryz.f46) (Pc:=[(0,⟨TS,T8,LX N (CZ N) N⟩)]) E rfl mixed Tryz.func46 (by kernel_rfl) (by kernel_rfl) (by kernel_rfl) (by kernel_rfl) (fun A hA=>⟨AK (body:=Au Tryz.f46 0) (inner:=[(2,⟨OC,N3,KN N (CZ N) N⟩)]) E mixed hA (by kernel_rfl) (by kernel_rfl) (by kernel_rfl) ⟨AK (body:=Au Tryz.f46 2) (inner:=[(4,⟨MS,Mz,Kt N (CZ N) N⟩)]) E mixed hA (by kernel_rfl) (by kernel_rfl) (by kernel_rfl) ⟨AK (body:=Au Tryz.f46 4) (inner:=[]) E mixed hA (by kernel_rfl) (by kernel_rfl) (by kernel_rfl) trivial (fun _=>rfl) (fun m d=>(ZT N (CZ N) (Kt N (CZ N) m) d).symm) N,trivial⟩ (fun _=>rfl) (fun m d=>(ZY N (CZ N) (KN N (CZ N) m) d).symm) N,trivial⟩ (fun _=>rfl) (fun m d=>(Aat N (CZ N) (LX N (CZ N) m) d).symm) N,trivial⟩) (fun _=>by kernel_rfl)
theorem Ax0:Aa Tryz.prog 46 Aos:=Aa.less (fun N:Nat=>CZ N) Ru WS
theorem ZL (N:Nat):Aa Tryz.prog 156 ⟨[(Ac,false),(Af,false)],[.bool],true,Rs N⟩:=
  have E:Env Tryz.prog At4:=Av tab ⟨K8,⟨Ama,trivial⟩⟩
  Ar (body:=Ao Tryz.f156) (Pc:=[]) E rfl mixed Tryz.func156 (by kernel_rfl) (by kernel_rfl) (by kernel_rfl) (by kernel_rfl) (fun A hA=>trivial) (fun _=>by kernel_rfl)
theorem Aw4:Aa Tryz.prog 156 An9:=ZL 0
theorem Abf (N:Nat):Aa Tryz.prog 157 ⟨[(Af,false)],[.bool],true,Vz N⟩:=
  have E:Env Tryz.prog Avw:=Av tab trivial
  Ar (body:=Ao Tryz.f157) (Pc:=[(0,⟨Ajw,Akj,Qw N N⟩)]) E rfl mixed Tryz.func157 (by kernel_rfl) (by kernel_rfl) (by kernel_rfl) (by kernel_rfl) (fun A hA=>⟨AK (body:=Au Tryz.f157 0) (inner:=[]) E mixed hA (by kernel_rfl) (by kernel_rfl) (by kernel_rfl) trivial (fun _=>rfl) (fun _ _=>by kernel_rfl) N,trivial⟩) (fun _=>by kernel_rfl)
theorem Axy:Aa Tryz.prog 157 Ank:=Aa.less (fun N:Nat=>Vz N) Abf Rq
theorem MM (N:Nat):Aa Tryz.prog 102 ⟨[(Ac,false),(Af,false)],[.bool],true,Es N⟩:=
  have E:Env Tryz.prog Tz:=Av tab ⟨Aw4,⟨Axy,trivial⟩⟩
  Ar (body:=Ao Tryz.f102) (Pc:=[]) E rfl mixed Tryz.func102 (by kernel_rfl) (by kernel_rfl) (by kernel_rfl) (by kernel_rfl) (fun A hA=>trivial) (fun _=>by kernel_rfl)
theorem Wz:Aa Tryz.prog 102 LZ:=MM 0
theorem Ac4 (N:Nat):Aa Tryz.prog 48 ⟨[(Ac,false),(Af,false),(I,false)],[.bool,.bool],true,EI N⟩:=
  have E:Env Tryz.prog Atk:=Av tab ⟨CY,⟨VZ,⟨Ab5,⟨Wz,⟨Aet,trivial⟩⟩⟩⟩⟩
  Ar (body:=Ao Tryz.f48) (Pc:=[]) E rfl mixed Tryz.func48 (by kernel_rfl) (by kernel_rfl) (by kernel_rfl) (by kernel_rfl) (fun A hA=>trivial) (fun _=>by kernel_rfl)
theorem Ayi:Aa Tryz.prog 48 Aqv:=Ac4 0
theorem GH (N:Nat):Aa Tryz.prog 6 ⟨[(K_Su8,false)],[.bool],true,Bu N⟩:=
  have E:Env Tryz.prog IR:=Av tab ⟨Axj,⟨Ye,⟨Axh,⟨Ayp,⟨Ay0,⟨Ax3,⟨Ap4,⟨Azx,⟨Aw3,⟨Ax4,⟨Ay2,⟨WD,⟨Ay5,⟨Ax0,⟨UN,⟨Ayi,trivial⟩⟩⟩⟩⟩⟩⟩⟩⟩⟩⟩⟩⟩⟩⟩⟩
  Ar (body:=Ao Tryz.f6) (Pc:=[]) E rfl mixed Tryz.func6 (by kernel_rfl) (by kernel_rfl) (by kernel_rfl) (by kernel_rfl) (fun A hA=>trivial) (fun _=>by kernel_rfl)
theorem C_laws_FnDismantlings:Aa Tryz.prog 6 I7:=Aa.less (fun N:Nat=>Bu N) GH Xz
end Go.V.W
end
