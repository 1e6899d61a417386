/- What the law FnDismantlings leans on, part 7: an interpreter of the model as plain data, its soundness, the functions as it tells them, and their laws. -/
import Derived.Test.YtjniohefdfbeoaaGreatVF
set_option linter.unusedVariables false
set_option linter.unusedSimpArgs false
set_option maxRecDepth 100000
noncomputable section
namespace Go.V.W
open Go.Proofs
theorem F5 {H O γ α:Type} {L:Nat->H->Option O} {r:(H->Option O)->H->Option O} (hL:∀k d,L (k+1) d=r (L k) d) (l:List γ) {mk:Nat->List α->H} {f:γ->List α} (hf1:∀x,(f x).length<=1) {o:List α->O}
  (hr:∀back i (hi:i<l.length) A,A.length<=i->r back (mk i A)=back (mk (i+1) (A++f l[i]))) (hf:∀back A,A.length<=l.length->r back (mk l.length A)=some (o A)) :
  ∀k,l.length<=k->L (k+1) (mk 0 [])=some (o (l.flatMap f)):=by
 have key:∀k i A,i<=l.length->l.length<=i+k->A.length<=i->L (k+1) (mk i A)=some (o (A++(l.drop i).flatMap f)):=by
  intro k
  induction k with
  | zero=>
   intro i A h1 h2 h3
   have e:i=l.length:=by omega
   subst e
   rw [hL,hf _ _ h3,ACu (ACr _)]
   simp
  | succ k ih=>
   intro i A h1 h2 h3
   by_cases h:i<l.length
   ·have hh:=hf1 l[i]
    rw [hL,hr _ i h A h3,ih (i+1) _ (by omega) (by omega) (by simp;omega),ACv h,List.flatMap_cons,List.append_assoc]
   ·have e:i=l.length:=by omega
    subst e
    rw [hL,hf _ _ h3,ACu (ACr _)]
    simp
 intro k h
 have:=key k 0 [] (Nat.zero_le _) (by omega) (ACr _)
 simpa using this
theorem Jd {α:Type} (p:α->Bool):∀l:List α,(l.flatMap fun y=>if p y=true then [y] else [])=l.filter p:=by
 intro l
 induction l with
 | nil=>rfl
 | cons x l ih=>
  rw [List.flatMap_cons,ih,List.filter_cons]
  split<;>simp
theorem TI (p:Nat->Bool):∀k x,((List.range' x k).flatMap fun y=>if p y=true then [(y:Int)] else [])=Ap p k x:=by
 intro k
 induction k with
 | zero=>intro x;rfl
 | succ k ih=>
  intro x
  rw [List.range'_succ,List.flatMap_cons,ih]
  show _=if p x=true then (x:Int)::Ap p k (x+1) else Ap p k (x+1)
  split<;>simp
theorem UA {α:Type} {c:Prop} [Decidable c] {x:α}:(if c then [x] else []).length<=1:=by split<;>simp
theorem En {n:Int} (h:0<=n):∃a:Nat,n=(a:Int):=⟨n.toNat,by omega⟩
theorem Acx (d) (r) (h:Bg d=some r):∃N,Vh N d=some r:=by
 obtain ⟨n,m,_⟩:=d
 unfold Bg at h
 split at h
 ·rename_i hc
  simp only [ACo] at hc
  obtain ⟨hn,hm⟩:=hc
  have hn:=AI.1 hn
  have hm:=AI.1 hm
  obtain ⟨a,rfl⟩:=En hn.1
  obtain ⟨b,rfl⟩:=En hm.1
  have h:=ACs h
  subst h
  refine ⟨20,?_⟩
  unfold Vh
  have:=F5 (L:=Qm 20) (r:=JW 20) (fun _ _=>rfl) (List.range' 0 a) (mk:=fun i A=>((a:Int),(b:Int),A,(i:Int),())) (f:=fun y=>if b.testBit y=true then [(y:Int)] else []) (o:=fun A=>.inl (A,())) (fun x=>UA) (by
    intro back i hi A hA
    simp only [List.length_range'] at hi
    unfold JW
    have hle:decide (A.length+List.length [(i:Int)]<=lim)=true:=by unfold lim;simp;omega
    simp only [AD hi,if_true,AN,U1 (show b<256 by omega) (show i<8 by omega),hle,Jy hi (by omega),List.getElem_range',Nat.one_mul,Nat.zero_add]
    by_cases hb:b.testBit i=true
    ·simp only [hb,if_true]
    ·simp only [hb,if_false,List.append_nil,ACn])
   (by
    intro back A hA
    unfold JW
    simp only [List.length_range',A4,ACn,if_false]) 19 (by simp;omega)
  rw [TI] at this
  simp only [Int.natCast_zero] at this
  simp only [this,Option.bind_some,Int.toNat_natCast]
 ·cases h
theorem TA (d) (r) (h:CO d=some r):∃N,VX N d=some r:=by
 obtain ⟨l,x,_⟩:=d
 unfold CO at h
 split at h
 ·rename_i hc
  have hl:l.length<=lim:=GT hc
  have h:=ACs h
  subst h
  refine ⟨l.length+1,?_⟩
  unfold VX
  have:=F5 (L:=Qn (l.length+1)) (r:=Kq (l.length+1)) (fun _ _=>rfl) l (mk:=fun i A=>(l,x,A,(i:Int),())) (f:=fun y=>if (y != x)=true then [y] else []) (o:=fun A=>.inl (A,())) (fun x=>UA) (by
    intro back i hi A hA
    unfold Kq
    have hle:decide (A.length+List.length [l[i]]<=lim)=true:=by simp;omega
    have e:at_ I l i=l[i]:=Aw (e:=I) hi
    simp only [AD hi,if_true,Ag hi,Int.toNat_natCast,e,hle,BK hi (Dj hl)]
    by_cases hb:(l[i] != x)=true
    ·simp only [hb,if_true]
    ·simp only [hb,if_false,List.append_nil,ACn])
   (by
    intro back A hA
    unfold Kq
    simp only [A4,ACn,if_false]) l.length (ACr _)
  rw [Jd] at this
  simp only [Int.natCast_zero] at this
  simp only [this,Option.bind_some]
 ·cases h
theorem Uk (a b:E) (u:Unit):IF (a,b,u)=(Ep a b,()):=by
 unfold IF Ep
 by_cases h:a.1<b.1
 ·simp [h]
 ·by_cases h2:a.1=b.1
  ·simp [h2]
  ·simp [h,h2]
theorem Apq (e:E):∀l:List E,∃k,k<=l.length/\(∀j (hj:j<l.length),j<k->Ep l[j] e=true)/\(∀hk:k<l.length,Ep l[k] e=false)/\Adc e l=l.take k++[e]++l.drop k:=by
 intro l
 induction l with
 | nil=>exact ⟨0,ACr _,fun j hj=>absurd hj (by simp),fun hk=>absurd hk (by simp),rfl⟩
 | cons a l ih=>
  by_cases h:Ep a e=true
  ·obtain ⟨k,h1,h2,h3,h4⟩:=ih
   refine ⟨k+1,by simp;exact h1,fun j hj hjk => ?_,fun hk => ?_,?_⟩
   ·cases j with
    | zero=>exact h
    | succ j=>exact h2 j (by simpa using hj) (by omega)
   ·exact h3 (by simpa using hk)
   ·simp only [Adc,h,if_true,h4,List.take_succ_cons,List.drop_succ_cons,List.cons_append]
  ·refine ⟨0,Nat.zero_le _,fun j hj hjk=>absurd hjk (by omega),fun hk=>by simpa using h,?_⟩
   simp only [Adc,h,if_false,List.take_zero,List.drop_zero,List.nil_append,List.singleton_append,ACn]
theorem Aik (d) (r) (h:E2 d=some r):∃N,FT N d=some r:=by
 obtain ⟨l,e,_⟩:=d
 unfold E2 at h
 split at h
 ·rename_i hc
  have hl:l.length<=1000:=of_decide_eq_true hc
  have hmx:l.length<=maxLen:=by unfold maxLen;omega
  have h:=ACs h
  subst h
  obtain ⟨k,h1,h2,h3,h4⟩:=Apq e l
  refine ⟨l.length+2,?_⟩
  have key:∀q i f,i+q=k->q<f->EY (l.length+2) f (l,e,(i:Int),())=some (.inl (l,e,(k:Int),())):=by
   intro q
   induction q with
   | zero=>
    intro i f e1 e2
    obtain ⟨f,rfl⟩:∃m,f=m+1:=⟨f-1,by omega⟩
    have ei:i=k:=by omega
    subst ei
    show Da _ _ _=_
    unfold Da
    by_cases hi:i<l.length
    ·have ea:at_ Aj l i=l[i]:=Aw (e:=Aj) hi
     simp only [AD hi,if_true,Ag hi,Int.toNat_natCast,ea,Uk,h3 hi,ACn,if_false]
    ·have ei:i=l.length:=by omega
     subst ei
     simp only [A4,ACn,if_false]
   | succ q ih=>
    intro i f e1 e2
    obtain ⟨f,rfl⟩:∃m,f=m+1:=⟨f-1,by omega⟩
    have hi:i<l.length:=by omega
    show Da _ _ _=_
    unfold Da
    have ea:at_ Aj l i=l[i]:=Aw (e:=Aj) hi
    simp only [AD hi,if_true,Ag hi,Int.toNat_natCast,ea,Uk,h2 i hi (by omega),BK hi hmx]
    exact ih (i+1) f (by omega) (by omega)
  have:=key k 0 (l.length+2) (by omega) (by omega)
  simp only [Int.natCast_zero] at this
  unfold FT
  have c1:(decide (0<=(0:Int))&&decide ((0:Int)<=(k:Int))&&decide ((k:Int)<=(l.length:Int)))=true:=by simp;omega
  have s1:B1 l 0 (k:Int)=l.take k:=by unfold B1;simp
  have s2:B1 l (k:Int) (l.length:Int)=l.drop k:=by unfold B1;simp
  have c2:decide (List.length ([]:List E)+(l.take k).length<=lim)=true:=by unfold lim;simp;omega
  have c3:decide ((([]:List E)++l.take k).length+List.length [e]<=lim)=true:=by unfold lim;simp;omega
  have c4:(decide (0<=(k:Int))&&decide ((k:Int)<=(l.length:Int))&&decide ((l.length:Int)<=(l.length:Int)))=true:=by simp;omega
  have c5:decide ((([]:List E)++l.take k++[e]).length+(l.drop k).length<=lim)=true:=by unfold lim;simp;omega
  simp only [this,Option.bind_some,c1,if_true,s1,c2,c3,c4,s2,c5]
  rw [h4]
  simp
 ·cases h
theorem Z2 (d) (r) (h:DL d=some r):∃N,U2 N d=some r:=by
 obtain ⟨l,_⟩:=d
 unfold DL at h
 split at h
 ·rename_i hl
  have hl:l.length<=lim:=of_decide_eq_true hl
  have h:=ACs h
  subst h
  refine ⟨0,?_⟩
  unfold U2
  have h1:decide (List.length ([]:List Int)+l.length<=lim)=true:=by simp [hl]
  simp only [h1,if_true,List.nil_append]
  split
  ·rename_i h0
   have:l=[]:=List.length_eq_zero_iff.1 (of_decide_eq_true h0)
   subst this
   simp [An5]
  ·rfl
 ·cases h
open Go.Proofs
theorem Awo (x y:E):eqB Aj x y=decide (x=y):=by
 obtain ⟨a,b,_⟩:=x
 obtain ⟨c,d,_⟩:=y
 show ((a==c)&&((b==d)&&true))=_
 rw [Bool.eq_iff_iff]
 simp
theorem GJ (p:Nat->Bool) (q:Int->Bool):∀k x,(Ap p k x).filter q=Ap (fun y=>p y&&q (y:Int)) k x:=by
 intro k
 induction k with
 | zero=>intro x;rfl
 | succ k ih=>
  intro x
  show (if p x=true then (x:Int)::Ap p k (x+1) else Ap p k (x+1)).filter q=if (p x&&q (x:Int))=true then (x:Int)::Ap (fun y=>p y&&q (y:Int)) k (x+1) else Ap (fun y=>p y&&q (y:Int)) k (x+1)
  cases hp:p x with
  | false=>simp [ih]
  | true=>
   simp only [if_true,List.filter_cons,ih,Bool.true_and]
theorem R4 {n:Nat} (h:n<=8):IntKind.wrap .i64 (shl .i64 1 (n:Int)-1)=((2 ^ n-1:Nat):Int)/\2 ^ n-1<=255:=by
 have:n=0\/n=1\/n=2\/n=3\/n=4\/n=5\/n=6\/n=7\/n=8:=by omega
 rcases this with rfl | rfl | rfl | rfl | rfl | rfl | rfl | rfl | rfl<;>decide
theorem Yc {n:Nat} (hn:n<=8) (es:List E) (u v:Unit):B7 0 (((n:Int),es,u),v)=some (Ap (fun _=>true) n 0,()):=by
 unfold B7
 obtain ⟨m1,m2⟩:=R4 hn
 have i1:inB 0 8 (n:Int)=true:=AI.2 (by omega)
 have i2:inB 0 255 ((2 ^ n-1:Nat):Int)=true:=AI.2 (by omega)
 simp only [AN,if_true,m1,Bg,i1,i2,Bool.and_self,Option.bind_some,Int.toNat_natCast]
 congr 2
 refine Bm fun y _ hy => ?_
 rw [Nat.testBit_two_pow_sub_one]
 exact decide_eq_true (by omega)
theorem Yz {α:Type} (p:α->Bool):∀l:List α,l.any p=true -> ∃j,∃hj:j<l.length,p l[j]=true/\(∀i (hi:i<l.length),i<j->p l[i]=false)/\l.find? p=some l[j]:=by
 intro l
 induction l with
 | nil=>intro h;cases h
 | cons a l ih=>
  intro h
  cases hp:p a with
  | true=>exact ⟨0,by simp,hp,fun i hi hij=>absurd hij (by omega),by simp [List.find?_cons,hp]⟩
  | false=>
   rw [List.any_cons,hp,Bool.false_or] at h
   obtain ⟨j,hj,h1,h2,h3⟩:=ih h
   refine ⟨j+1,by simp;exact hj,h1,fun i hi hij => ?_,?_⟩
   ·cases i with
    | zero=>exact hp
    | succ i=>exact h2 i (by simpa using hi) (by omega)
   ·rw [List.find?_cons,hp]
    exact h3
theorem Pm {n:Nat} {T:Tab} (h:sqB n T=true):sqL n T=true /\ ∀c r,c<n->r<n -> -1<=AY T (c:Int) (r:Int)/\AY T (c:Int) (r:Int)<=1000:=by
 unfold sqB at h
 simp only [ACo] at h
 obtain ⟨h1,h2⟩:=h
 refine ⟨h1,fun c r hc hr => ?_⟩
 obtain ⟨t1,t2⟩:=Dw h1
 have hcl:c<T.length:=by omega
 have e1:at_ Af T c=T[c]:=Aw (e:=Af) hcl
 have t2':=t2 c hc
 rw [e1] at t2'
 have hrl:r<T[c].length:=by omega
 have:=List.all_eq_true.1 (List.all_eq_true.1 h2 T[c] (ACw hcl)) T[c][r] (ACw hrl)
 simp only [ACo,decide_eq_true_eq] at this
 have e2:AY T (c:Int) (r:Int)=T[c][r]:=by
  unfold AY
  simp [ACy,hcl,hrl]
 rw [e2]
 exact this
theorem Uv {n:Nat} (es:List E) {x:Nat} (hx:x<n):(x:Int)∈Ax n es (x:Int):=Cs.2 ⟨x,Nat.zero_le _,by omega,by simp,rfl⟩
open Go.Proofs
theorem Adm (i:Nat):(255:Nat).testBit i=decide (i<8):=Nat.testBit_two_pow_sub_one 8 i
theorem GS {a b:Nat} (ha:a<256) (hb:b<256):bits .andNot .i64 (a:Int) (b:Int)=((a&&&(255^^^b):Nat):Int):=by
 have hab:a&&&(255^^^b)<=a:=Nat.and_le_left
 have e:(BitVec.ofInt IntKind.i64.bits (a:Int) &&& ~~~BitVec.ofInt IntKind.i64.bits (b:Int)).toNat=a&&&(255^^^b):=by
  show (BitVec.ofInt 64 (a:Int) &&& ~~~BitVec.ofInt 64 (b:Int)).toNat=a&&&(255^^^b)
  rw [F6,F6]
  refine Nat.eq_of_testBit_eq fun i => ?_
  rw [BitVec.testBit_toNat,BitVec.getLsbD_and,BitVec.getLsbD_not,BitVec.getLsbD_ofNat,BitVec.getLsbD_ofNat,Nat.testBit_and,Nat.testBit_xor,Adm]
  by_cases h:i<8
  ·have h2:i<64:=by omega
   simp [h,h2]
  ·have:a.testBit i=false:=Nat.testBit_lt_two_pow (Nat.lt_of_lt_of_le (show a<2 ^ 8 from ha) (Nat.pow_le_pow_right (by omega) (by omega)))
   simp [this]
 unfold bits Ww
 simp only [Option.getD_some]
 rw [e]
 exact RN (by omega)
theorem Y7 (n:Nat) (hn:n<=8):∀(l:List Int) (s:Nat) (p:Nat->Bool),isM n s p->(∀y∈l,0<=y/\y<=(n:Int)-1)->isM n (l.foldl (fun a x=>a|||2 ^ x.toNat) s) (fun y=>p y||Cu l (y:Int)):=by
 intro l
 induction l with
 | nil=>intro s p h _;exact ⟨h.1,fun y=>by simp [h.2 y,Cu]⟩
 | cons x l ih=>
  intro s p h hl
  have hx:=hl x (by simp)
  rw [List.foldl_cons]
  have h2:isM n (s|||2 ^ x.toNat) (fun y=>p y||(x==(y:Int))):=by
   refine ⟨Nat.or_lt_two_pow (n:=8) h.1 (CL (by omega)),fun y => ?_⟩
   rw [Nat.testBit_or,h.2 y,Nat.testBit_two_pow,Bool.eq_iff_iff]
   simp only [Bool.or_eq_true,ACo,decide_eq_true_eq,beq_iff_eq]
   constructor
   ·rintro (⟨a,b⟩ | a)
    ·exact ⟨a,.inl b⟩
    ·exact ⟨by omega,.inr (by omega)⟩
   ·rintro ⟨a,b | b⟩
    ·exact .inl ⟨a,b⟩
    ·exact .inr (by omega)
  have:=ih _ _ h2 fun y hy=>hl y (by simp [hy])
  refine ⟨this.1,fun y => ?_⟩
  rw [this.2 y]
  simp only [Cu,List.any_cons,Bool.or_assoc]
theorem MK {n:Nat} (hn:n<=8) {l:List Int} (h:∀y∈l,0<=y/\y<=(n:Int)-1):isM n (BA l) (fun y=>Cu l (y:Int)):=by
 have:=Y7 n hn l 0 (fun _=>false) ⟨by omega,fun y=>by simp⟩ h
 exact ⟨this.1,fun y=>by rw [show BA l=l.foldl (fun a x=>a|||2 ^ x.toNat) 0 from rfl,this.2 y];rfl⟩
theorem Ae9 (N:Nat) (l:List Int) (hl:l.length<=lim) (hr:∀y∈l,0<=y/\y<=7):∀k i f (s:Nat),i+k=l.length->k<f->s<256 ->
  KG N f ((s:Int),l,(l.length:Int),(i:Int),())=some (.inl ((((l.drop i).foldl (fun a x=>a|||2 ^ x.toNat) s:Nat):Int),())):=by
 intro k
 induction k with
 | zero=>
  intro i f s e1 e2 e3
  obtain ⟨f,rfl⟩:∃m,f=m+1:=⟨f-1,by omega⟩
  have e:i=l.length:=by omega
  subst e
  rw [ACu (ACr _)]
  simp [KG,J1]
 | succ k ih=>
  intro i f s e1 e2 e3
  obtain ⟨f,rfl⟩:∃m,f=m+1:=⟨f-1,by omega⟩
  have hi:i<l.length:=by omega
  have hx:=hr l[i] (ACw hi)
  obtain ⟨y,ey⟩:=En hx.1
  have ea:at_ I l i=(y:Int):=(Aw (e:=I) hi).trans ey
  have hy:y<8:=by omega
  show J1 N (KG N f) _=_
  unfold J1
  simp only [AD hi,if_true,Ag hi,Int.toNat_natCast,ea,AN,GO hy,QL e3 (CL hy),BK hi (Dj hl)]
  rw [ih (i+1) f _ (by omega) (by omega) (Nat.or_lt_two_pow (n:=8) e3 (CL hy)),ACv hi,List.foldl_cons,ey,Int.toNat_natCast]
theorem ZW (d) (r) (h:Fb d=some r):∃N,VP N d=some r:=by
 obtain ⟨l,_⟩:=d
 unfold Fb at h
 split at h
 ·rename_i hc
  simp only [ACo] at hc
  have h:=ACs h
  subst h
  refine ⟨l.length+1,?_⟩
  unfold VP
  have:=Ae9 (l.length+1) l (GT hc.1) (fun y hy=>AI.1 (List.all_eq_true.1 hc.2 y hy)) l.length 0 (l.length+1) 0 (by omega) (by omega) (by omega)
  simp only [Int.natCast_zero,List.drop_zero] at this
  simp only [this,Option.bind_some]
  rfl
 ·cases h
theorem Aj7 (n:Int) (es:List E) (v u:Unit) (l:List Int) (ho:okL es=true) (hl:okL l=true):Rs 0 ((n,es,v),l,u)=some (A9 (n,es,v)&&l.all (inB 0 (n-1)),()):=by
 unfold Rs Bt CQ
 simp only [ho,hl,if_true,Option.bind_some]
 cases hg:A9 (n,es,v) with
 | false=>rfl
 | true=>
  have:=DG hg
  have hw:IntKind.wrap .i64 (n-1)=n-1:=BY _ (by omega) (by omega)
  simp only [if_true,hw,Bool.true_and,Option.bind_some]
theorem GG {n:Nat} {es:List E} {v u:Unit} (hg:A9 ((n:Int),es,v)=true) (ho:okL es=true):DP (((n:Int),es,v),u)=some ((toI (Dn n es),()),()):=by
 obtain ⟨h0,h8⟩:=DG hg
 obtain ⟨g1,g2⟩:=FY hg
 unfold DP
 have a1:(decide (0<=(n:Int))&&decide ((n:Int)<=8)&&okL es&&es.all (BI (n:Int)))=true:=by simp only [h0,h8,ho,g1,decide_true,Bool.and_self]
 simp only [a1,if_true,Int.toNat_natCast]
theorem Au8 {n:Nat} (hn:n<=8) {es:List E} (h:es.all (BI (n:Int))=true) (u v:Unit):Jv 0 ((toI (Dn n es),u),v)=some (((2 ^ n-1:Nat):Int),()):=by
 unfold Jv
 have hl:(toI (Dn n es)).length=n:=(Gz hn h).2
 simp only [hl,AN,if_true,(R4 hn).1]
theorem Ahz {n:Nat} (hn:n<=8) {es:List E} (h:es.all (BI (n:Int))=true) (x y:Nat):Agd (Dn n es) x y=BH es (x:Int) (y:Int):=by rw [R8 hn h,RJ es h]
open Go.Proofs
def Ag1 (n:Nat) (ball:Int->List Int) (f:Nat->Nat->Int):Prop := ∀c r,c<n->r<n->1<=f c r -> ∃b∈ball (c:Int),0<=AE ball (AM n f) b (r:Int)/\AE ball (AM n f) b (r:Int)+1=f c r
theorem RH {n:Nat} {ball:Int->List Int} (hb:DE n ball) {t:Nat} {f:Nat->Nat->Int} {b r:Nat} (hbn:b<n) (hr:r<n) (h:0<=AE ball (AM n f) (b:Int) (r:Int)) :
  AE ball (AM n (B4 n ball (t:Int) f)) (b:Int) (r:Int)=AE ball (AM n f) (b:Int) (r:Int):=by
 unfold AE at h |-
 by_cases hbr:(b:Int)=(r:Int)
 ·rw [if_pos hbr,if_pos hbr]
 ·rw [if_neg hbr] at h |-
  rw [if_neg hbr]
  rcases B3 (AY (AM n f) (b:Int)) (ball (r:Int)) 0 with ⟨_,h'⟩ | ⟨hall,_,_⟩
  ·omega
  ·refine GL fun x hx => ?_
   obtain ⟨y,hy,rfl⟩:=hb r hr x hx
   have:=(hall (y:Int) hx).1
   rw [Bj _ hbn hy] at this
   rw [Bj _ hbn hy,Bj _ hbn hy]
   refine if_neg fun hcan => ?_
   unfold BT at hcan
   simp only [ACo,decide_eq_true_eq] at hcan
   omega
theorem Ag1.next {n:Nat} {ball:Int->List Int} (hb:DE n ball) {t:Nat} {f:Nat->Nat->Int} (hI:InvT n ball t f) (hC:Ag1 n ball f):Ag1 n ball (B4 n ball (t:Int) f):=by
 intro c r hc hr h
 by_cases hcan:BT n ball f c r=true
 ·have e:B4 n ball (t:Int) f c r=(t:Int):=if_pos hcan
  rw [e]
  unfold BT at hcan
  simp only [ACo,decide_eq_true_eq,List.any_eq_true] at hcan
  obtain ⟨hf,b,hbm,h0⟩:=hcan
  have h1:=hI.none c r hc hr hf b hbm
  have h2:=R9 hb hI hc hr hbm
  obtain ⟨b',hb1,rfl⟩:=hb c hc b hbm
  refine ⟨_,hbm,?_⟩
  rw [RH hb hb1 hr h0]
  omega
 ·have e:B4 n ball (t:Int) f c r=f c r:=if_neg hcan
  rw [e] at h |-
  obtain ⟨b,hbm,h0,h1⟩:=hC c r hc hr h
  obtain ⟨b',hb1,rfl⟩:=hb c hc b hbm
  refine ⟨_,hbm,?_⟩
  rw [RH hb hb1 hr h0]
  exact ⟨h0,h1⟩
theorem Zy {n:Nat} {ball:Int->List Int} (hb:DE n ball):∀(k t:Nat) (f:Nat->Nat->Int),InvT n ball t f->Ag1 n ball f -> ∃t',t'<=t+k/\InvT n ball t' (CT n ball k (t:Int) f)/\Ag1 n ball (CT n ball k (t:Int) f):=by
 intro k
 induction k with
 | zero=>intro t f h1 h2;exact ⟨t,by omega,h1,h2⟩
 | succ k ih=>
  intro t f h1 h2
  unfold CT
  split
  ·obtain ⟨t',k1,k2,k3⟩:=ih (t+1) _ (h1.next hb) (h2.next hb h1)
   exact ⟨t',by omega,k2,k3⟩
  ·exact ⟨t,by omega,h1,h2⟩
theorem JE {n:Nat} {ball:Int->List Int} (hb:DE n ball):sqB n (AS n ball)=true /\ ∀c r,c<n->r<n->1<=AY (AS n ball) (c:Int) (r:Int)->(ball (c:Int)).any (ME ball (AS n ball) (c:Int) (r:Int))=true:=by
 have hst:Ag1 n ball A0:=fun c r _ _ h=>by
  unfold A0 at h
  split at h<;>omega
 obtain ⟨t',k1,k2,k3⟩:=Zy hb 65 1 A0 (InvT.start n ball) hst
 refine ⟨YF fun c r hc hr => ?_,fun c r hc hr h => ?_⟩
 ·have h1:=k2.low c r hc hr
  have h2:=k2.high c r hc hr
  constructor
  ·exact h1
  ·have:((t':Nat):Int)<=66:=by omega
   exact Int.le_trans (Int.le_of_lt h2) (by omega)
 ·unfold AS at h |-
  rw [Bj _ hc hr] at h
  obtain ⟨b,hbm,h0,h1⟩:=k3 c r hc hr h
  refine List.any_eq_true.2 ⟨b,hbm,?_⟩
  unfold ME
  rw [Bj _ hc hr,ACo,decide_eq_true_eq,decide_eq_true_eq]
  exact ⟨h1,h0⟩
open Go.Proofs
section moves
variable {a:Nat} {es:List E} {v:Unit}
theorem Amn (hg:A9 ((a:Int),es,v)=true):a<=8/\es.all (BI (a:Int))=true/\Ek es=true:=by
 have:=DG hg
 have:=FY hg
 exact ⟨by omega,this.1,this.2⟩
end moves
end Go.V.W
namespace Go.V.W
open Go.Proofs
theorem Yw {n:Nat} {ball:Int->List Int}:∀(k:Nat) (t:Int) (f:Nat->Nat->Int),1<=t->(∀c r,f c r=0↔c=r) -> ∀c r,CT n ball k t f c r=0↔c=r:=by
 intro k
 induction k with
 | zero=>intro t f _ h;exact h
 | succ k ih=>
  intro t f ht h
  unfold CT
  split
  ·refine ih (t+1) _ (by omega) fun c r => ?_
   unfold B4
   split
   ·rename_i hc
    unfold BT at hc
    rw [ACo,decide_eq_true_eq] at hc
    have:=h c r
    constructor
    ·intro h0;omega
    ·intro h0;have:=this.2 h0;omega
   ·exact h c r
  ·exact h
theorem So {n:Nat} {ball:Int->List Int} {c r:Nat} (hc:c<n) (hr:r<n):AY (AS n ball) (c:Int) (r:Int)=0↔c=r:=by
 unfold AS
 rw [Bj _ hc hr]
 refine Yw 65 1 A0 (by omega) (fun c r => ?_) c r
 unfold A0
 split<;>simp_all
theorem Acq (row:Int->Int):∀(l:List Int) (b:Int),0<=row b->0<=A6 row l (row b)->row (KV row l b)=A6 row l (row b)/\(KV row l b=b\/KV row l b∈l):=by
 intro l
 induction l with
 | nil=>intro b _ _;exact ⟨rfl,.inl rfl⟩
 | cons x l ih=>
  intro b h h2
  simp only [A6,KV] at h2 |-
  by_cases hx:row x<0
  ·rw [if_pos hx] at h2;omega
  ·rw [if_neg hx] at h2 |-
   rw [if_neg hx]
   by_cases hg:row b<row x
   ·have hg':row x>row b:=hg
    rw [if_pos hg] at h2 |-
    rw [if_pos hg']
    obtain ⟨e1,e2⟩:=ih x (by omega) h2
    refine ⟨e1,.inr ?_⟩
    rcases e2 with e2 | e2
    ·rw [e2];exact List.mem_cons_self ..
    ·exact List.mem_cons_of_mem _ e2
   ·have hg':¬row x>row b:=hg
    rw [if_neg hg] at h2 |-
    rw [if_neg hg']
    obtain ⟨e1,e2⟩:=ih b h h2
    refine ⟨e1,?_⟩
    rcases e2 with e2 | e2
    ·exact .inl e2
    ·exact .inr (List.mem_cons_of_mem _ e2)
theorem Agz {row:Int->Int} {l:List Int} (hl:l≠[]) (h:0<=A6 row l 0):row (KV row l (l.headD 0))=A6 row l 0/\KV row l (l.headD 0)∈l:=by
 match l,hl with
 | x::l,_=>
  show row (if row x<0 then x else KV row l (if row x>row x then x else x))=_/\(if row x<0 then x else KV row l (if row x>row x then x else x))∈_
  simp only [A6] at h |-
  by_cases hx:row x<0
  ·rw [if_pos hx] at h;omega
  ·rw [if_neg hx] at h |-
   rw [if_neg hx,if_neg (show ¬row x>row x by omega)]
   have e:(if 0<row x then row x else 0)=row x:=by split<;>omega
   rw [e] at h |-
   obtain ⟨e1,e2⟩:=Acq row l x (by omega) h
   refine ⟨e1,?_⟩
   rcases e2 with e2 | e2
   ·rw [e2];exact List.mem_cons_self ..
   ·exact List.mem_cons_of_mem _ e2
theorem Ai5 {n:Nat} {es:List E} {c r:Nat} (hc:c<n) (hr:r<n) (hne:c≠r) (h0:0<=AY (AS n (Ax n es)) (c:Int) (r:Int)) :
  ∃b q:Nat,b<n/\q<n/\Axz (Ax n es) (AS n (Ax n es)) (c:Int) (r:Int)=(b:Int)/\Azw (Ax n es) (AS n (Ax n es)) (b:Int) (r:Int)=(q:Int)/\1<=AY (AS n (Ax n es)) (c:Int) (r:Int) /\
   AY (AS n (Ax n es)) (b:Int) (q:Int)+1=AY (AS n (Ax n es)) (c:Int) (r:Int)/\(b:Int)∈Ax n es (c:Int)/\(q:Int)∈Ax n es (r:Int) /\
   (b≠r -> ∀z∈Ax n es (r:Int),0<=AY (AS n (Ax n es)) (b:Int) z/\AY (AS n (Ax n es)) (b:Int) z<AY (AS n (Ax n es)) (c:Int) (r:Int)):=by
 have hb:=Fe n es
 obtain ⟨f1,f2⟩:=JE hb
 generalize hT:AS n (Ax n es)=T at *
 have hz:=fun (x y:Nat) (hx:x<n) (hy:y<n)=>So (n:=n) (ball:=Ax n es) hx hy
 rw [hT] at hz
 have h1:1<=AY T (c:Int) (r:Int):=by
  have:=(hz c r hc hr).1
  by_cases e:AY T (c:Int) (r:Int)=0
  ·exact absurd (this e) hne
  ·omega
 have ha:=f2 c r hc hr h1
 obtain ⟨x,hx1,hx2⟩:=List.any_eq_true.1 ha
 have hfind:∃z,(Ax n es (c:Int)).find? (ME (Ax n es) T (c:Int) (r:Int))=some z:=by
  cases hf:(Ax n es (c:Int)).find? (ME (Ax n es) T (c:Int) (r:Int)) with
  | none=>exact absurd hx2 (List.find?_eq_none.1 hf x hx1)
  | some z=>exact ⟨z,rfl⟩
 obtain ⟨z,hf⟩:=hfind
 have hzm:=List.mem_of_find?_eq_some hf
 have hzp:=List.find?_some hf
 obtain ⟨b,hbn,rfl⟩:=hb c hc z hzm
 have hcop:Axz (Ax n es) T (c:Int) (r:Int)=(b:Int):=by
  unfold Axz Ars
  rw [hf]
  rfl
 unfold ME at hzp
 rw [ACo,decide_eq_true_eq,decide_eq_true_eq] at hzp
 obtain ⟨a1,a2⟩:=hzp
 by_cases hbr:b=r
 ·subst hbr
  refine ⟨b,b,hbn,hbn,hcop,by unfold Azw;rw [if_pos rfl],h1,?_,hzm,Uv es hr,fun h=>absurd rfl h⟩
  have:AE (Ax n es) T (b:Int) (b:Int)=0:=by unfold AE;rw [if_pos rfl]
  rw [(hz b b hbn hbn).2 rfl]
  omega
 ·have hbi:¬(b:Int)=(r:Int):=by omega
  have ea:AE (Ax n es) T (b:Int) (r:Int)=A6 (AY T (b:Int)) (Ax n es (r:Int)) 0:=by unfold AE;rw [if_neg hbi]
  rw [ea] at a1 a2
  have hnil:Ax n es (r:Int)≠[]:=List.ne_nil_of_mem (Uv es hr)
  obtain ⟨e1,e2⟩:=Agz (row:=AY T (b:Int)) hnil a2
  obtain ⟨q,hq,eq⟩:=hb r hr _ e2
  refine ⟨b,q,hbn,hq,hcop,?_,h1,?_,hzm,?_,fun _ z hz => ?_⟩
  ·unfold Azw
   rw [if_neg hbi,eq]
  ·rw [eq] at e1
   omega
  ·rw [<- eq];exact e2
  ·rcases B3 (AY T (b:Int)) (Ax n es (r:Int)) 0 with ⟨_,h⟩ | ⟨h,_⟩
   ·omega
   ·have:=h z hz
    omega
open Go.Proofs
theorem Alv (d) (r) (h:J3 d=some r):∃N,F2 N d=some r:=by
 obtain ⟨l,m,u⟩:=d
 unfold J3 at h
 split at h
 ·rename_i hl
  simp only [ACo,decide_eq_true_eq] at hl
  obtain ⟨h1,rfl⟩:=hl
  have hl:l.length<=lim:=of_decide_eq_true h1
  have hmx:=Dj hl
  cases h
  have key:∀k i f,i+k=l.length->k<f->EX (l.length+1) f (l,l,(i:Int),())=some (.inr (.inl ())):=by
   intro k
   induction k with
   | zero=>
    intro i f h1 h2
    obtain ⟨f,rfl⟩:∃m,f=m+1:=⟨f-1,by omega⟩
    have hlt:decide ((i:Int)<(l.length:Int))=false:=decide_eq_false (by omega)
    show Db _ _ _=_
    unfold Db
    simp only [hlt,ACn,if_false]
   | succ k ih=>
    intro i f h1 h2
    obtain ⟨f,rfl⟩:∃m,f=m+1:=⟨f-1,by omega⟩
    have hi:i<l.length:=by omega
    show Db _ _ _=_
    unfold Db
    simp only [AD hi,if_true,Ag hi,Int.toNat_natCast,bne_self_eq_false,ACn,if_false,BK hi hmx]
    exact ih (i+1) f (by omega) (by omega)
  refine ⟨l.length+1,?_⟩
  unfold F2
  have hk:=key l.length 0 (l.length+1) (by omega) (by omega)
  simp only [Int.natCast_zero] at hk
  simp only [bne_self_eq_false,ACn,if_false,hk,Option.bind_some]
 ·cases h
section plays
variable {a:Nat} {es:List E} {v:Unit}
end plays
end Go.V.W
namespace Go.V.W
open Go.Proofs
theorem UC (l:List Int):(CE l).Pairwise (· <= ·):=by
 have:=List.pairwise_mergeSort (le:=fun x y:Int=>decide (x<=y)) (fun a b c h1 h2=>by simp at h1 h2 |-;omega) (fun a b=>by simp;omega) l
 unfold CE
 exact this.imp fun h=>by simpa using h
theorem RE (l:List Int):(CE l).Perm l:=by
 unfold CE
 exact List.mergeSort_perm l _
open Go.Proofs
theorem Yv (ball:List Int):∀now:List (List Int),(now.flatMap fun l=>ball.map fun x=>l++[x]).length=now.length*ball.length:=by
 intro now
 induction now with
 | nil=>simp
 | cons l now ih=>
  rw [List.flatMap_cons,List.length_append,ih,List.length_map,List.length_cons,Nat.succ_mul]
  omega
theorem Ud {ball:List Int} {now:List (List Int)} {i:Nat} (h:∀l∈now,l.length=i):∀l∈now.flatMap (fun l=>ball.map fun x=>l++[x]),l.length=i+1:=by
 intro l hl
 obtain ⟨a,ha,h2⟩:=List.mem_flatMap.1 hl
 obtain ⟨x,_,rfl⟩:=List.mem_map.1 h2
 simp [h a ha]
theorem NS {ball:Int->List Int}:∀{cs:List Int} {now:List (List Int)} {i:Nat},(∀c∈cs,(ball c).length<=8)->(∀l∈now,l.length=i)->(chL ball cs now).length<=now.length*8 ^ cs.length /\ ∀l∈chL ball cs now,l.length=i+cs.length:=by
 intro cs
 induction cs with
 | nil=>intro now i _ h;exact ⟨by simp [chL],fun l hl=>by simpa using h l hl⟩
 | cons c cs ih=>
  intro now i hb h
  obtain ⟨h1,h2⟩:=ih (fun c hc=>hb c (by simp [hc])) (Ud (ball:=ball c) h)
  refine ⟨?_,fun l hl=>by rw [h2 l hl];simp;omega⟩
  refine Nat.le_trans h1 ?_
  rw [Yv,List.length_cons,Nat.pow_succ,Nat.mul_comm (8 ^ cs.length) 8,<- Nat.mul_assoc]
  exact Nat.mul_le_mul_right _ (Nat.mul_le_mul_left _ (hb c (by simp)))
theorem PA {n:Int} {cops:List Int} (h:MG n cops=true):cops.length<=3 /\ ∀c∈cops,inB 0 (n-1) c=true:=by
 unfold MG at h
 simp only [ACo,decide_eq_true_eq] at h
 exact ⟨h.1,fun c hc=>List.all_eq_true.1 h.2 c hc⟩
open Go.Proofs
theorem ABj (N:Nat) (net:Nt) (cop:Int) (list cops:List Int) (n17 i:Int) (moves:List (List Int)) (n23 j:Int) (ball:List Int) (hb:ball.length<=8) (hlen:list.length<=1000):∀q k f (next:List (List Int)),k+q=ball.length->q<f->next.length+q<=1000 ->
  Ql N f (net,cop,next,list,cops,n17,i,moves,n23,j,ball,(ball.length:Int),(k:Int),())=some (.inl (net,cop,next++(ball.drop k).map (fun x=>list++[x]),cops,n17,i,moves,n23,j,())):=by
 intro q
 induction q with
 | zero=>
  intro k f next e1 e2 e3
  obtain ⟨f,rfl⟩:∃m,f=m+1:=⟨f-1,by omega⟩
  have e:k=ball.length:=by omega
  subst e
  rw [ACu (ACr _)]
  show HG _ _ _=_
  unfold HG
  simp only [A4,ACn,if_false,List.map_nil,List.append_nil]
 | succ q ih=>
  intro k f next e1 e2 e3
  obtain ⟨f,rfl⟩:∃m,f=m+1:=⟨f-1,by omega⟩
  have hk:k<ball.length:=by omega
  have ek:at_ I ball k=ball[k]:=Aw (e:=I) hk
  have ht:DL (list,())=some (list,()):=by
   unfold DL
   rw [if_pos (show okL list=true from decide_eq_true (by unfold lim;omega))]
  have c1:decide (list.length+List.length [ball[k]]<=lim)=true:=by unfold lim;simp;omega
  have c2:decide (next.length+List.length [list++[ball[k]]]<=lim)=true:=by unfold lim;simp;omega
  show HG _ _ _=_
  unfold HG
  simp only [AD hk,if_true,Ag hk,Int.toNat_natCast,ek,ht,Option.bind_some,c1,c2,Jy hk hb]
  rw [ih (k+1) f _ (by omega) (by omega) (by simp;omega),ACv hk,List.map_cons,List.append_assoc,List.singleton_append]
theorem AA1 (N:Nat) (hN:10<=N) {l:List Int} (hn:CA l=true) (u:Unit) (c:Nat) (hc:c<l.length) (cops:List Int) (n17 i:Int) (now:List (List Int)) (hnow:now.length<=64) (hle:∀l∈now,l.length<=1000):∀q j f (next:List (List Int)),j+q=now.length->q<f->next.length+8*q<=900 ->
  Re N f ((l,u),(c:Int),next,cops,n17,i,now,(now.length:Int),(j:Int),())=some (.inl ((l,u),next++(now.drop j).flatMap (fun l'=>(AF l (c:Int)).map fun x=>l'++[x]),cops,n17,i,())):=by
 intro q
 have hb:=D5 l (c:Int)
 induction q with
 | zero=>
  intro j f next e1 e2 e3
  obtain ⟨f,rfl⟩:∃m,f=m+1:=⟨f-1,by omega⟩
  have e:j=now.length:=by omega
  subst e
  rw [ACu (ACr _)]
  show Hv _ _ _=_
  unfold Hv
  simp only [A4,ACn,if_false,List.flatMap_nil,List.append_nil]
 | succ q ih=>
  intro j f next e1 e2 e3
  obtain ⟨f,rfl⟩:∃m,f=m+1:=⟨f-1,by omega⟩
  have hj:j<now.length:=by omega
  have ej:at_ Af now j=now[j]:=Aw (e:=Af) hj
  have hin:=ABj N (l,u) (c:Int) now[j] cops n17 i now (now.length:Int) (j:Int) (AF l (c:Int)) hb (hle _ (ACw hj)) (AF l (c:Int)).length 0 N next (by omega) (by omega) (by omega)
  simp only [Int.natCast_zero,List.drop_zero] at hin
  have hw:IntKind.wrap .i64 ((j:Int)+1)=((j+1:Nat):Int):=by
   rw [BY _ (by omega) (by omega)]
   rfl
  show Hv _ _ _=_
  unfold Hv
  simp only [AD hj,if_true,Ag hj,Int.toNat_natCast,ej,LR hn u hc,Zg hn hc,Option.bind_some,hin,hw]
  rw [ih (j+1) f _ (by omega) (by omega) (by simp;omega),ACv hj,List.flatMap_cons,List.append_assoc]
theorem AAw (N:Nat) (hN:100<=N) {l:List Int} (hn:CA l=true) (u:Unit) (cops:List Int) (h3:cops.length<=3) (hc:∀c∈cops,inB 0 ((l.length:Int)-1) c=true):∀q i f (now:List (List Int)),i+q=cops.length->q<f->now.length<=8 ^ i->(∀l∈now,l.length=i) ->
  Rb N f ((l,u),now,cops,(cops.length:Int),(i:Int),())=some (.inl (chL (AF l) (cops.drop i) now,())):=by
 intro q
 induction q with
 | zero=>
  intro i f now e1 e2 e3 e4
  obtain ⟨f,rfl⟩:∃m,f=m+1:=⟨f-1,by omega⟩
  have e:i=cops.length:=by omega
  subst e
  rw [ACu (ACr _)]
  show Hr _ _ _=_
  unfold Hr
  simp only [A4,ACn,if_false,chL]
 | succ q ih=>
  intro i f now e1 e2 e3 e4
  obtain ⟨f,rfl⟩:∃m,f=m+1:=⟨f-1,by omega⟩
  have hi:i<cops.length:=by omega
  have ei:at_ I cops i=cops[i]:=Aw (e:=I) hi
  obtain ⟨b1,b2⟩:=IJ (hc _ (ACw hi))
  have hbl:=D5 l cops[i]
  have h64:now.length<=64:=by
   have:8 ^ i<=8 ^ 2:=Nat.pow_le_pow_right (by omega) (by omega)
   omega
  have hin:=AA1 N (by omega) hn u cops[i].toNat b2 cops (cops.length:Int) (i:Int) now h64 (fun l hl=>by rw [e4 l hl];omega) now.length 0 N [] (by omega) (by omega) (by simp;omega)
  rw [<- b1] at hin
  simp only [Int.natCast_zero,List.drop_zero,List.nil_append] at hin
  have hw:IntKind.wrap .i64 ((i:Int)+1)=((i+1:Nat):Int):=by
   rw [BY _ (by omega) (by omega)]
   rfl
  show Hr _ _ _=_
  unfold Hr
  simp only [AD hi,if_true,Ag hi,Int.toNat_natCast,ei,hin,Option.bind_some,hw]
  rw [ACv hi]
  refine ih (i+1) f _ (by omega) (by omega) ?_ (Ud e4)
  rw [Yv,Nat.pow_succ]
  exact Nat.mul_le_mul e3 hbl
theorem AA4 (N:Nat):∀(rest pre:List (List Int)) f,rest.length<f->pre.length+rest.length<=900->(∀l∈rest,l.length<=900) ->
  Rc N f (pre++rest,(),((pre.length+rest.length:Nat):Int),(pre.length:Int),())=some (.inl (pre++rest.map CE,())):=by
 intro rest
 induction rest with
 | nil=>
  intro pre f e1 e2 e3
  obtain ⟨f,rfl⟩:∃m,f=m+1:=⟨f-1,by omega⟩
  show Hd _ _ _=_
  unfold Hd
  simp only [List.length_nil,Nat.add_zero,A4,ACn,if_false,List.map_nil]
 | cons x rest ih=>
  intro pre f e1 e2 e3
  obtain ⟨f,rfl⟩:∃m,f=m+1:=⟨f-1,by omega⟩
  have e2':pre.length+(rest.length+1)<=900:=by simpa using e2
  have hlt:decide ((pre.length:Int)<((pre.length+(x::rest).length:Nat):Int))=true:=decide_eq_true (by simp;omega)
  have hix:Ak (pre.length:Int) (pre++x::rest).length=true:=Ag (by simp)
  have hs:Ir (x,())=some (CE x,()):=by
   unfold Ir
   rw [if_pos (decide_eq_true (by have:=e3 x (by simp);unfold lim;show x.length<=_;omega))]
  have hw:IntKind.wrap .i64 ((pre.length:Int)+1)=((pre.length+1:Nat):Int):=by
   rw [BY _ (by omega) (by omega)]
   rfl
  show Hd _ _ _=_
  unfold Hd
  simp only [hlt,hix,if_true,Int.toNat_natCast,Aey,hs,Option.bind_some,Xa,hw]
  have:=ih (pre++[CE x]) f (by simp at e1;omega) (by simp;omega) (fun l hl=>e3 l (by simp [hl]))
  simp only [List.length_append,List.length_singleton,List.append_assoc,List.singleton_append] at this
  rw [show ((pre.length+(x::rest).length:Nat):Int)=((pre.length+1+rest.length:Nat):Int) by simp;omega]
  rw [this,List.map_cons]
theorem RX (d) (r) (h:EU d=some r):∃N,Uy N d=some r:=by
 obtain ⟨⟨l,u⟩,cops,_⟩:=d
 unfold EU at h
 split at h
 ·rename_i hc
  simp only [ACo] at hc
  obtain ⟨hn,hc⟩:=hc
  have hn:CA l=true:=hn
  obtain ⟨h3,hin⟩:=PA hc
  have h:=ACs h
  subst h
  refine ⟨1000,?_⟩
  unfold Uy
  have h0:=AAw 1000 (by omega) hn u cops h3 hin cops.length 0 1000 [[]] (by omega) (by omega) (by simp) (by simp)
  simp only [Int.natCast_zero,List.drop_zero] at h0
  obtain ⟨f1,f2⟩:=NS (ball:=AF l) (cs:=cops) (now:=[[]]) (i:=0) (fun c _=>D5 l c) (by simp)
  have hlen:(chL (AF l) cops [[]]).length<=512:=by
   have:8 ^ cops.length<=8 ^ 3:=Nat.pow_le_pow_right (by omega) h3
   have e:([[]]:List (List Int)).length=1:=rfl
   rw [e] at f1
   omega
  have h6:=AA4 1000 (chL (AF l) cops [[]]) [] 1000 (by omega) (by simp;omega) (fun l hl=>by rw [f2 l hl];omega)
  simp only [List.nil_append,List.length_nil,Nat.zero_add,Int.natCast_zero] at h6
  have hok:I6 ((chL (AF l) cops [[]]).map CE)=true:=by
   unfold I6
   rw [ACo]
   refine ⟨decide_eq_true (by rw [List.length_map];unfold lim;omega),List.all_eq_true.2 fun y hy => ?_⟩
   obtain ⟨x,hx,rfl⟩:=List.mem_map.1 hy
   exact decide_eq_true (by rw [Jb,f2 x hx];unfold lim;omega)
  have hok2:I6 (He ((chL (AF l) cops [[]]).map CE))=true:=by
   unfold I6 at hok |-
   rw [ACo] at hok |-
   refine ⟨decide_eq_true (by rw [OS];exact GT hok.1),List.all_eq_true.2 fun y hy => ?_⟩
   exact List.all_eq_true.1 hok.2 y ((Gt _).mem_iff.1 hy)
  simp only [h0,Option.bind_some,h6,IT,hok,if_true,EN,hok2]
  rfl
 ·cases h
open Go.Proofs
theorem Ab4 {n:Int} {c:List Int} (h:Lu n c=true) (h3:c.length<=3):MG n c=true:=by
 unfold Lu at h
 rw [ACo] at h
 unfold MG
 rw [ACo]
 exact ⟨decide_eq_true h3,h.1⟩
open Go.Proofs
theorem Anw {S:List Int} {y:Int} (h:okL S=true) (u:Unit):Jg 0 (S,y,u)=some (Cu S y,()):=by
 unfold Jg KM
 have hge:=JY (fun z=>y==z) S 0
 simp only [h,if_true,Option.bind_some,ge_iff_le,hge]
 unfold Cu
 have:(fun z=>y==z)=fun z:Int=>z==y:=by
  funext z
  rw [Bool.beq_comm]
 rw [this]
theorem Ad6 {m:Nat} {z:Int} (h:inB 0 ((m:Int)-1) z=true):∃x:Nat,z=(x:Int)/\x<m:=by
 have:=AI.1 h
 exact ⟨z.toNat,by omega,by omega⟩
open Go.Proofs
theorem Ad5 {a b:Nat} (ha:a<256):GI a b<256:=Nat.lt_of_le_of_lt Nat.and_le_left ha
theorem Sg (a b y:Nat) (ha:a<256):(GI a b).testBit y=(a.testBit y && !b.testBit y):=by
 unfold GI
 rw [Nat.testBit_and,Nat.testBit_xor,Adm]
 by_cases h:y<8
 ·simp [h]
 ·have:a.testBit y=false:=Nat.testBit_lt_two_pow (Nat.lt_of_lt_of_le (show a<2 ^ 8 from ha) (Nat.pow_le_pow_right (by omega) (by omega)))
  simp [this]
theorem Ake {l:List Int} (h8:l.length<=8) (u v:Unit):Jv 0 ((l,u),v)=some (((2 ^ l.length-1:Nat):Int),()):=by
 unfold Jv
 simp only [AN,if_true,(R4 h8).1]
open Go.Proofs
theorem IA {m:Nat} (h:m<256) (u:Unit):Di ((m:Int),u)=some (Ap (fun y=>m.testBit y) 8 0,()):=by
 unfold Di
 simp only [AN,Bool.true_and,decide_eq_true (show (m:Int)<256 by omega),if_true,Int.toNat_natCast]
open Go.Proofs
theorem App:∀{a b:List Int} {x y:Int},a.length=b.length->BO a b<0->BO (a++[x]) (b++[y])<0:=by
 intro a
 induction a with
 | nil=>
  intro b x y h1 h2
  cases b with
  | nil=>simp [BO] at h2
  | cons c b=>simp at h1
 | cons c a ih=>
  intro b x y h1 h2
  cases b with
  | nil=>simp at h1
  | cons e b=>
   simp only [BO,List.cons_append] at h2 |-
   by_cases h3:c<e
   ·rw [if_pos h3];omega
   ·rw [if_neg h3] at h2 |-
    by_cases h4:e<c
    ·rw [if_pos h4] at h2;omega
    ·rw [if_neg h4] at h2 |-
     exact ih (by simpa using h1) h2
theorem Amd:∀{a:List Int} {x y:Int},x<y->BO (a++[x]) (a++[y])<0:=by
 intro a
 induction a with
 | nil=>intro x y h;simp [BO,h]
 | cons c a ih=>
  intro x y h
  simp only [BO,List.cons_append,Int.lt_irrefl,if_false]
  exact ih h
theorem W9 {a n:Nat} {x:Int}:x∈Me a n ↔ ∃y:Nat,a<=y/\y<n/\x=(y:Int):=by
 unfold Me
 simp only [List.mem_map,List.mem_range'_1]
 constructor
 ·rintro ⟨y,hy,rfl⟩
  exact ⟨y,by omega,by omega,rfl⟩
 ·rintro ⟨y,h1,h2,rfl⟩
  exact ⟨y,by omega,rfl⟩
theorem JT {n:Nat}:∀{k:Nat} {l:List Int},l∈AB n k->l.length=k:=by
 intro k
 induction k with
 | zero=>intro l h;simp [AB] at h;simp [h]
 | succ k ih=>
  intro l h
  unfold AB at h
  obtain ⟨a,ha,h2⟩:=List.mem_flatMap.1 h
  obtain ⟨x,_,rfl⟩:=List.mem_map.1 h2
  simp [ih ha]
theorem Zw (n:Nat):∀k:Nat,(AB n k).Pairwise ltL:=by
 intro k
 induction k with
 | zero=>simp [AB]
 | succ k ih=>
  unfold AB
  rw [List.pairwise_flatMap]
  refine ⟨fun a _ => ?_,?_⟩
  ·rw [List.pairwise_map]
   unfold Me
   rw [List.pairwise_map]
   refine List.Pairwise.imp (fun {i j} h => ?_) (List.pairwise_lt_range' (s:=(a.getLastD 0).toNat) (n:=n-(a.getLastD 0).toNat))
   exact Amd (by omega)
  ·refine List.Pairwise.imp_of_mem (fun {a b} ha hb h x hx y hy => ?_) ih
   obtain ⟨p,_,rfl⟩:=List.mem_map.1 hx
   obtain ⟨q,_,rfl⟩:=List.mem_map.1 hy
   exact App (by rw [JT ha,JT hb]) h
theorem RZ:∀{l:List Int} {x:Int},ndB (l++[x])=(ndB l&&(match l.getLast? with | none=>true | some y=>decide (y<=x))):=by
 intro l
 induction l with
 | nil=>intro x;rfl
 | cons a l ih=>
  intro x
  cases l with
  | nil=>simp [ndB]
  | cons b l=>
   have:=ih (x:=x)
   simp only [List.cons_append,ndB] at this |-
   rw [this,List.getLast?_cons_cons,Bool.and_assoc]
theorem EA {n:Nat}:∀{k:Nat} {l:List Int},l∈AB n k↔l.length=k/\Lu (n:Int) l=true:=by
 intro k
 induction k with
 | zero=>
  intro l
  simp only [AB,List.mem_singleton,List.length_eq_zero_iff]
  constructor
  ·rintro rfl;exact ⟨rfl,rfl⟩
  ·intro h;exact h.1
 | succ k ih=>
  intro l
  unfold AB
  rw [List.mem_flatMap]
  constructor
  ·rintro ⟨a,ha,h2⟩
   obtain ⟨x,hx,rfl⟩:=List.mem_map.1 h2
   obtain ⟨y,h3,h4,rfl⟩:=W9.1 hx
   obtain ⟨h5,h6⟩:=ih.1 ha
   refine ⟨by simp [h5],?_⟩
   unfold Lu at h6 |-
   rw [ACo] at h6
   rw [List.all_append,RZ,h6.1,h6.2]
   simp only [List.all_cons,List.all_nil,Bool.true_and,Bool.and_true,ACo]
   refine ⟨AI.2 (by omega),?_⟩
   cases hg:a.getLast? with
   | none=>rfl
   | some z=>
    rw [List.getLastD_eq_getLast?,hg] at h3
    simp only [Option.getD_some] at h3
    exact decide_eq_true (by omega)
  ·rintro ⟨h1,h2⟩
   have hne:l≠[]:=fun h=>by simp [h] at h1
   refine ⟨l.dropLast,ih.2 ⟨by simp [h1],?_⟩,List.mem_map.2 ⟨l.getLast hne,?_,List.dropLast_concat_getLast hne⟩⟩
   ·have e:=List.dropLast_concat_getLast hne
    rw [<- e] at h2
    unfold Lu at h2 |-
    rw [List.all_append,RZ] at h2
    simp only [ACo] at h2
    rw [ACo]
    exact ⟨h2.1.1,h2.2.1⟩
   ·have e:=List.dropLast_concat_getLast hne
    rw [<- e] at h2
    unfold Lu at h2
    rw [List.all_append,RZ] at h2
    simp only [ACo,List.all_cons,List.all_nil,and_true] at h2
    have h3:=AI.1 h2.1.2
    refine W9.2 ⟨(l.getLast hne).toNat,?_,by omega,by omega⟩
    rw [List.getLastD_eq_getLast?]
    have h4:=h2.2.2
    cases hg:l.dropLast.getLast? with
    | none=>simp
    | some z=>
     rw [hg] at h4
     have h4:=of_decide_eq_true h4
     simp only [Option.getD_some]
     omega
theorem HL {n k:Nat} (hn:n<=8) (hk:k<=3):(AB n k).length<=120:=by
 have key:∀n:Fin 9,∀k:Fin 4,(AB n.1 k.1).length<=120:=by decide +kernel
 exact key ⟨n,by omega⟩ ⟨k,by omega⟩
theorem TN:∀{l:List (List Int)},Uq l=true↔l.Pairwise ltL:=by
 intro l
 induction l with
 | nil=>simp [Uq]
 | cons a l ih=>
  cases l with
  | nil=>simp [Uq]
  | cons b l=>
   unfold Uq
   rw [ACo,ih,decide_eq_true_eq]
   constructor
   ·rintro ⟨h1,h2⟩
    refine List.pairwise_cons.2 ⟨fun c hc => ?_,h2⟩
    rcases List.mem_cons.1 hc with rfl | hc
    ·exact h1
    ·exact TF h1 ((List.pairwise_cons.1 h2).1 c hc)
   ·intro h
    obtain ⟨h1,h2⟩:=List.pairwise_cons.1 h
    exact ⟨h1 b (by simp),h2⟩
theorem YA {cf:List (List Int)} {c:List Int}:Ayw cf c=true↔c∈cf:=by
 unfold Ayw
 rw [List.any_eq_true]
 constructor
 ·rintro ⟨x,h1,h2⟩
  rw [<- of_decide_eq_true h2]
  exact h1
 ·intro h
  exact ⟨c,h,decide_eq_true rfl⟩
theorem Atn {α:Type} {q:α->Bool}:∀{l:List α} {i:Nat},(∃x∈l,q x=true) -> ∃j,j<l.length/\ER q l i=some (i+j) /\ ∃h:j<l.length,q l[j]=true:=by
 intro l
 induction l with
 | nil=>intro i ⟨x,hx,_⟩;simp at hx
 | cons a l ih=>
  intro i ⟨x,hx,hq⟩
  unfold ER
  by_cases ha:q a=true
  ·rw [if_pos ha]
   exact ⟨0,by simp,by simp,by simp,by simpa using ha⟩
  ·rw [if_neg ha]
   have:∃x∈l,q x=true:=by
    rcases List.mem_cons.1 hx with rfl | hx
    ·exact absurd hq ha
    ·exact ⟨x,hx,hq⟩
   obtain ⟨j,h1,h2,h3,h4⟩:=ih (i:=i+1) this
   exact ⟨j+1,by simp;omega,by rw [h2];congr 1;omega,by simp;omega,by simpa using h4⟩
theorem Rt {cf:List (List Int)} {c:List Int} (h:c∈cf):∃i,i<cf.length/\Gg cf c=(i:Int)/\cf.getD i []=c:=by
 obtain ⟨j,h1,h2,h3,h4⟩:=Atn (q:=fun y=>decide (y=c)) (i:=0) ⟨c,h,decide_eq_true rfl⟩
 refine ⟨j,h1,?_,?_⟩
 ·unfold Gg
  rw [h2]
  simp [P4]
 ·rw [ACy,ACz h3]
  simpa using h4
theorem Ajq {cf:List (List Int)} {c:List Int} (h:c∈cf):inB 0 ((cf.length:Int)-1) (Gg cf c)=true:=by
 obtain ⟨i,h1,h2,_⟩:=Rt h
 exact AI.2 (by omega)
theorem Ax2 {l:List Int} (h:l.Pairwise (· <= ·)):ndB l=true:=by
 induction l with
 | nil=>rfl
 | cons a l ih=>
  rw [List.pairwise_cons] at h
  cases l with
  | nil=>rfl
  | cons b l=>
   unfold ndB
   rw [ACo]
   exact ⟨decide_eq_true (h.1 b (by simp)),ih h.2⟩
theorem Ass {p:Int->Bool} {ball:Int->List Int}:∀{cs:List Int} {now:List (List Int)},(∀c∈cs,∀x∈ball c,p x=true)->(∀l∈now,l.all p=true) -> ∀l∈chL ball cs now,l.all p=true:=by
 intro cs
 induction cs with
 | nil=>intro now _ h;exact h
 | cons c cs ih=>
  intro now hb h
  refine ih (fun c hc=>hb c (by simp [hc])) fun l hl => ?_
  obtain ⟨a,ha,h2⟩:=List.mem_flatMap.1 hl
  obtain ⟨x,hx,rfl⟩:=List.mem_map.1 h2
  rw [List.all_append,h a ha]
  simp [hb c (by simp) x hx]
theorem TW {n:Nat} {ball:Int->List Int} {c:List Int} (hb:∀x∈c,(ball x).length<=8) (hb2:∀x∈c,∀y∈ball x,inB 0 ((n:Int)-1) y=true) {m:List Int} (h:m∈DD ball c):m∈AB n c.length:=by
 have h2:=(Gt _).mem_iff.1 ((X7 m).1 h)
 obtain ⟨x,hx,rfl⟩:=List.mem_map.1 h2
 obtain ⟨f1,f2⟩:=NS (ball:=ball) (cs:=c) (now:=[[]]) (i:=0) hb (by simp)
 have f3:=Ass (p:=inB 0 ((n:Int)-1)) (ball:=ball) (cs:=c) (now:=[[]]) hb2 (by simp) x hx
 refine EA.2 ⟨by rw [Jb,f2 x hx];simp,?_⟩
 unfold Lu
 rw [ACo]
 refine ⟨List.all_eq_true.2 fun y hy=>List.all_eq_true.1 f3 y ((RE x).mem_iff.1 hy),Ax2 (UC x)⟩
theorem Ui {ball:Int->List Int} {cs:List Int} (h3:cs.length<=3) (hb:∀c∈cs,(ball c).length<=8):(DD ball cs).length<=512:=by
 obtain ⟨f1,f2⟩:=NS (ball:=ball) (cs:=cs) (now:=[[]]) (i:=0) hb (by simp)
 have hlen:(chL ball cs [[]]).length<=512:=by
  have:8 ^ cs.length<=8 ^ 3:=Nat.pow_le_pow_right (by omega) h3
  have e:([[]]:List (List Int)).length=1:=rfl
  rw [e] at f1
  omega
 unfold DD GR
 rw [List.length_map]
 refine Nat.le_trans (Xu _ _) ?_
 rw [OS,List.length_map]
 exact hlen
theorem Jp {n:Int} {l:List Int} (h:Lu n l=true):∀x∈l,inB 0 (n-1) x=true:=by
 unfold Lu at h
 rw [ACo] at h
 exact List.all_eq_true.1 h.1
theorem XR {n:Nat} (hn:n<=8) {k:Nat} (hk:k<=3) {ball:Int->List Int} (hb:∀x:Nat,x<n->(ball (x:Int)).length<=8) (hb2:∀x:Nat,x<n -> ∀y∈ball (x:Int),inB 0 ((n:Int)-1) y=true):gmB n (AB n k) (CJ ball (AB n k))=true:=by
 unfold gmB
 simp only [ACo,decide_eq_true_eq,List.all_eq_true]
 refine ⟨⟨⟨HL hn hk,by simp [CJ]⟩,fun c hc => ?_⟩,fun l hl => ?_⟩
 ·obtain ⟨h1,h2⟩:=EA.1 hc
  exact ⟨by omega,Jp h2⟩
 ·obtain ⟨c,hc,rfl⟩:=List.mem_map.1 hl
  obtain ⟨h1,h2⟩:=EA.1 hc
  have h3:=Jp h2
  have g1:∀x∈c,(ball x).length<=8:=fun x hx=>by
   have:=AI.1 (h3 x hx)
   have e:x=((x.toNat:Nat):Int):=by omega
   rw [e]
   exact hb _ (by omega)
  have g2:∀x∈c,∀y∈ball x,inB 0 ((n:Int)-1) y=true:=fun x hx=>by
   have:=AI.1 (h3 x hx)
   have e:x=((x.toNat:Nat):Int):=by omega
   rw [e]
   exact hb2 _ (by omega)
  refine ⟨?_,fun p hp => ?_⟩
  ·rw [List.length_map]
   have:=Ui (ball:=ball) (cs:=c) (by omega) g1
   omega
  ·obtain ⟨m,hm,rfl⟩:=List.mem_map.1 hp
   have:=TW g1 g2 hm
   rw [h1] at this
   exact Ajq this
theorem Ai0 {n k:Nat} (hn:n<=8) (hk:k<=3):I6 (AB n k)=true:=by
 have h:=HL hn hk
 unfold I6
 rw [ACo]
 refine ⟨decide_eq_true (by unfold lim;omega),List.all_eq_true.2 fun l hl=>decide_eq_true ?_⟩
 rw [JT hl]
 unfold lim
 omega
open Go.Proofs
def Uj (n:Nat) (l:List Int):List (List Int):=(Me (l.getLastD 0).toNat n).map fun x=>l++[x]
theorem Abx (n k:Nat):AB n (k+1)=(AB n k).flatMap (Uj n):=rfl
theorem Aku {a n:Nat} (h:a<n):Me a n=(a:Int)::Me (a+1) n:=by
 unfold Me
 rw [show n-a=(n-(a+1))+1 by omega,List.range'_succ]
 rfl
theorem Ari (n:Nat):Me n n=[]:=by simp [Me]
theorem Ag9 (n:Nat) (l:List Int):(Uj n l).length<=n:=by simp [Uj,Me]
theorem Agt {n k:Nat} {l:List Int} (h:l∈AB n k):0<=l.getLastD 0/\l.getLastD 0<=(n:Int):=by
 obtain ⟨h1,h2⟩:=EA.1 h
 rw [List.getLastD_eq_getLast?]
 cases hg:l.getLast? with
 | none=>simp
 | some z=>
  have:=AI.1 (Jp h2 z (List.mem_of_getLast? hg))
  simp only [Option.getD_some]
  omega
theorem Atr {l:List Int} (h:0<l.length):at_ I l (l.length-1)=l.getLastD 0:=by
 have e:at_ I l (l.length-1)=l[l.length-1]:=Aw (e:=I) (by omega)
 rw [e,List.getLastD_eq_getLast?,List.getLast?_eq_getElem?,ACz (by omega)]
 rfl
theorem Aq {j:Nat} (h:j<=100000):IntKind.wrap .i64 ((j:Int)+1)=((j+1:Nat):Int):=by
 rw [BY _ (by omega) (by omega)]
 rfl
theorem Abr {d:Int×Int×Unit} {r} (h:Ey d=some r):∃n k:Nat,n<=8/\k<=3/\d=((n:Int),(k:Int),())/\r=(AB n k,()):=by
 obtain ⟨n,k,_⟩:=d
 unfold Ey at h
 split at h
 ·rename_i hc
  simp only [ACo] at hc
  have h1:=AI.1 hc.1
  have h2:=AI.1 hc.2
  have h:=ACs h
  subst h
  refine ⟨n.toNat,k.toNat,by omega,by omega,?_,rfl⟩
  rw [show ((n.toNat:Nat):Int)=n by omega,show ((k.toNat:Nat):Int)=k by omega]
 ·cases h
theorem AA2 (N n:Nat) (hn:n<=8) (l:List Int) (hlen:l.length<=1000) (a b:Int) (now:List (List Int)) (c e:Int):∀q x f (next:List (List Int)),x+q=n->q<f->next.length+q<=1000 ->
  LN N f ((n:Int),next,l,(x:Int),a,b,now,c,e,())=some (.inl ((n:Int),next++(Me x n).map (fun x=>l++[x]),a,b,now,c,e,())):=by
 intro q
 induction q with
 | zero=>
  intro x f next e1 e2 e3
  obtain ⟨f,rfl⟩:∃m,f=m+1:=⟨f-1,by omega⟩
  have e:x=n:=by omega
  subst e
  rw [Ari]
  show Ha _ _ _=_
  unfold Ha
  simp only [A4,ACn,if_false,List.map_nil,List.append_nil]
 | succ q ih=>
  intro x f next e1 e2 e3
  obtain ⟨f,rfl⟩:∃m,f=m+1:=⟨f-1,by omega⟩
  have hx:x<n:=by omega
  have c0:okL l=true:=Et (by omega)
  have c1:decide (l.length+List.length [(x:Int)]<=lim)=true:=by unfold lim;simp;omega
  have c2:decide (next.length+List.length [l++[(x:Int)]]<=lim)=true:=by unfold lim;simp;omega
  show Ha _ _ _=_
  unfold Ha
  simp only [AD hx,if_true,DL,c0,Option.bind_some,c1,c2,Jy hx hn]
  rw [ih (x+1) f _ (by omega) (by omega) (by simp;omega),Aku hx,List.map_cons,List.append_assoc,List.singleton_append]
theorem ABe (N:Nat) (hN:10<=N) (n:Nat) (hn:n<=8) (a b:Int) (now:List (List Int)) (hnow:now.length<=120) (hle:∀l∈now,l.length<=3/\0<=l.getLastD 0/\l.getLastD 0<=(n:Int)):∀q j f (next:List (List Int)),j+q=now.length->q<f->next.length+8*q<=990 ->
  Ra N f ((n:Int),next,a,b,now,(now.length:Int),(j:Int),())=some (.inl ((n:Int),next++(now.drop j).flatMap (Uj n),a,b,())):=by
 intro q
 induction q with
 | zero=>
  intro j f next e1 e2 e3
  obtain ⟨f,rfl⟩:∃m,f=m+1:=⟨f-1,by omega⟩
  have e:j=now.length:=by omega
  subst e
  rw [ACu (ACr _)]
  show Hi _ _ _=_
  unfold Hi
  simp only [A4,ACn,if_false,List.flatMap_nil,List.append_nil]
 | succ q ih=>
  intro j f next e1 e2 e3
  obtain ⟨f,rfl⟩:∃m,f=m+1:=⟨f-1,by omega⟩
  have hj:j<now.length:=by omega
  obtain ⟨h1,h2,h3⟩:=hle _ (ACw hj)
  have ej:at_ Af now j=now[j]:=Aw (e:=Af) hj
  have hin:=AA2 N n hn now[j] (by omega) a b now (now.length:Int) (j:Int) (n-(now[j].getLastD 0).toNat) (now[j].getLastD 0).toNat N next (by omega) (by omega) (by omega)
  have e4:(((now[j].getLastD 0).toNat:Nat):Int)=now[j].getLastD 0:=by omega
  rw [e4] at hin
  have hg:(Me (now[j].getLastD 0).toNat n).map (fun x=>now[j]++[x])=Uj n now[j]:=rfl
  rw [hg] at hin
  have hgl:=Ag9 n now[j]
  have fin:=ih (j+1) f (next++Uj n now[j]) (by omega) (by omega) (by simp;omega)
  rw [List.append_assoc,<- List.flatMap_cons,<- ACv hj] at fin
  show Hi _ _ _=_
  unfold Hi
  by_cases hi:0<now[j].length
  ·have hp:decide ((now[j].length:Int)>0)=true:=by simp;omega
   have hw:IntKind.wrap .i64 ((now[j].length:Int)-1)=((now[j].length-1:Nat):Int):=Kk hi (by unfold maxLen;omega)
   have hx:Ak ((now[j].length-1:Nat):Int) now[j].length=true:=Ag (by omega)
   simp only [AD hj,if_true,Ag hj,Int.toNat_natCast,ej,hp,hw,hx,Atr hi,hin,Option.bind_some,Aq (show j<=100000 by omega),fin]
  ·have hp:decide ((now[j].length:Int)>0)=false:=decide_eq_false (by omega)
   have hl:now[j].getLastD 0=0:=by
    have:now[j]=[]:=List.length_eq_zero_iff.1 (by omega)
    rw [this]
    rfl
   rw [hl] at hin
   simp only [AD hj,if_true,Ag hj,Int.toNat_natCast,ej,hp,ACn,if_false,hin,Option.bind_some,Aq (show j<=100000 by omega),fin]
theorem ABr (N:Nat) (hN:200<=N) (n:Nat) (hn:n<=8) (k:Nat) (hk:k<=3):∀q i f,i+q=k->q<f ->
  QB N f ((n:Int),AB n i,(k:Int),(i:Int),())=some (.inl (AB n k,())):=by
 intro q
 induction q with
 | zero=>
  intro i f e1 e2
  obtain ⟨f,rfl⟩:∃m,f=m+1:=⟨f-1,by omega⟩
  have e:i=k:=by omega
  subst e
  show If _ _ _=_
  unfold If
  simp only [A4,ACn,if_false]
 | succ q ih=>
  intro i f e1 e2
  obtain ⟨f,rfl⟩:∃m,f=m+1:=⟨f-1,by omega⟩
  have hi:i<k:=by omega
  have h120:=HL hn (show i<=3 by omega)
  have hin:=ABe N (by omega) n hn (k:Int) (i:Int) (AB n i) h120 (fun l hl=>⟨by rw [JT hl];omega,Agt hl⟩) (AB n i).length 0 N [] (by omega) (by omega) (by simp;omega)
  simp only [Int.natCast_zero,List.drop_zero,List.nil_append] at hin
  show If _ _ _=_
  unfold If
  simp only [AD hi,if_true,hin,Option.bind_some,Aq (show i<=100000 by omega),<- Abx]
  exact ih (i+1) f (by omega) (by omega)
theorem WC (d) (r) (h:Ey d=some r):∃N,US N d=some r:=by
 obtain ⟨n,k,hn,hk,rfl,rfl⟩:=Abr h
 refine ⟨200,?_⟩
 have:=ABr 200 (by omega) n hn k hk k 0 200 (by omega) (by omega)
 unfold US
 simp only [Int.natCast_zero] at this
 have e:AB n 0=[[]]:=rfl
 rw [e] at this
 simp only [this,Option.bind_some]
theorem Azo {i j:Nat} (h:i+j<=100000):IntKind.wrap .i64 (shr .u64 (IntKind.wrap .u64 (IntKind.wrap .i64 ((i:Int)+(j:Int)))) (1:Int))=(((i+j) / 2:Nat):Int):=by
 have e1:IntKind.wrap .i64 ((i:Int)+(j:Int))=((i+j:Nat):Int):=by
  rw [BY _ (by omega) (by omega)]
  omega
 have e2:IntKind.wrap .u64 ((i+j:Nat):Int)=((i+j:Nat):Int):=Go.IntWalk.u64_in _ (by omega)
 have e3:shr .u64 ((i+j:Nat):Int) 1=(((i+j) / 2:Nat):Int):=by
  show ((i+j:Nat):Int).fdiv 2=_
  rw [Int.fdiv_eq_ediv_of_nonneg _ (by omega)]
  omega
 rw [e1,e2,e3]
 exact BY _ (by omega) (by omega)
theorem AAh (N:Nat) (cf:List (List Int)) (hr:cf.Pairwise ltL) (h1000:cf.length<=1000) (hok:I6 cf=true) (c:List Int) (hc:okL c=true) (p:Nat) (hp:p<cf.length) (hpc:cf[p]=c) (n:Int) (u:Unit×Unit):∀q i j f,i+q=j->i<=p->p<=j->j<=cf.length->q<f ->
  Vj N f (cf,c,u,n,(i:Int),(j:Int),())=some (.inl (cf,c,u,n,(p:Int),())):=by
 have hrise:=List.pairwise_iff_getElem.1 hr
 intro q
 induction q using Nat.strongRecOn with
 | ind q ih=>
  intro i j f e1 e2 e3 e4 e5
  obtain ⟨f,rfl⟩:∃m,f=m+1:=⟨f-1,by omega⟩
  by_cases hij:i<j
  ·have hm:(i+j) / 2<cf.length:=by omega
   have em:at_ Af cf ((i+j) / 2)=cf[(i+j) / 2]:=Aw (e:=Af) hm
   have hokm:okL cf[(i+j) / 2]=true:=by
    unfold I6 at hok
    rw [ACo] at hok
    exact List.all_eq_true.1 hok.2 _ (ACw hm)
   have hcmp:II (cf[(i+j) / 2],c,u,())=some (BO cf[(i+j) / 2] c,()):=by
    unfold II D9
    simp only [hokm,hc,Bool.and_self,if_true]
   have h01:decide ((0:Int)<=1)=true:=by decide
   show Jr _ _ _=_
   unfold Jr
   simp only [AD hij,if_true,h01,Azo (show i+j<=100000 by omega),Ag hm,Int.toNat_natCast,em,hcmp,Option.bind_some]
   by_cases hlt:BO cf[(i+j) / 2] c<0
   ·have hpm:(i+j) / 2<p:=by
     rcases Nat.lt_trichotomy ((i+j) / 2) p with h | h | h
     ·exact h
     ·subst h
      rw [hpc,Ks] at hlt
      omega
     ·have:=hrise p ((i+j) / 2) hp hm h
      rw [hpc] at this
      exact absurd (TF this hlt) (Au4 c)
    simp only [hlt,decide_true,if_true,Aq (show (i+j) / 2<=100000 by omega)]
    exact ih (j-((i+j) / 2+1)) (by omega) ((i+j) / 2+1) j f (by omega) (by omega) e3 e4 (by omega)
   ·have hpm:p<=(i+j) / 2:=by
     rcases Nat.lt_or_ge ((i+j) / 2) p with h | h
     ·have:=hrise ((i+j) / 2) p hm hp h
      rw [hpc] at this
      exact absurd this hlt
     ·exact h
    simp only [hlt,decide_false,ACn,if_false]
    exact ih ((i+j) / 2-i) (by omega) i ((i+j) / 2) f (by omega) e2 hpm (by omega) (by omega)
  ·have e:i=j:=by omega
   subst e
   have e:i=p:=by omega
   subst e
   show Jr _ _ _=_
   unfold Jr
   simp only [A4,ACn,if_false]
theorem Ti (d) (r) (h:YH d=some r):∃N,Aee N d=some r:=by
 obtain ⟨cf,c,u,_⟩:=d
 unfold YH at h
 split at h
 ·rename_i hc
  simp only [ACo,decide_eq_true_eq] at hc
  obtain ⟨⟨⟨⟨h1,h2⟩,h3⟩,h4⟩,h5⟩:=hc
  have h:=ACs h
  subst h
  obtain ⟨p,p1,p2,p3⟩:=Rt (YA.1 h5)
  have p4:cf[p]=c:=by
   rw [ACy,ACz p1] at p3
   simpa using p3
  refine ⟨2000,?_⟩
  have hl:=AAh 2000 cf (TN.1 h4) h1 h2 c h3 p p1 p4 (cf.length:Int) ((),()) cf.length 0 cf.length 2000 (by omega) (by omega) (by omega) (by omega) (by omega)
  have ep:at_ Af cf p=cf[p]:=Aw (e:=Af) p1
  have hokm:okL cf[p]=true:=by rw [p4];exact h3
  have hcmp:II (cf[p],c,((),()),())=some (0,()):=by
   unfold II D9
   simp only [hokm,h3,Bool.and_self,if_true,p4,Ks]
  unfold Aee
  simp only [Int.natCast_zero] at hl
  simp only [hl,Option.bind_some,AD p1,if_true,Ag p1,Int.toNat_natCast,ep,hcmp,p2,beq_self_eq_true]
 ·cases h
open Go.Proofs
theorem Acr {n k:Nat} (hk:k<=3) {c:List Int} (h:c∈AB n k):MG (n:Int) c=true:=by
 obtain ⟨h1,h2⟩:=EA.1 h
 exact Ab4 h2 (by omega)
theorem ZR {cf:List (List Int)} (h1:cf.length<=120) (h2:I6 cf=true) (h3:cf.Pairwise ltL) {c:List Int} (hm:c∈cf) (net:Nt) (mv:List (List Int)) (T:Tab) (u v:Unit):Sf 0 ((net,cf,mv,T,u),c,v)=some (Gg cf c,()):=by
 unfold Sf YH
 have a1:decide (cf.length<=1000)=true:=decide_eq_true (by omega)
 have a2:okL c=true:=List.all_eq_true.1 (Aub h2).2 c hm
 simp only [a1,h2,a2,TN.2 h3,YA.2 hm,Bool.and_self,if_true,Option.bind_some]
theorem AAj (N:Nat) (w:Nt) (cf:List (List Int)) (h1:cf.length<=120) (h2:I6 cf=true) (h3:cf.Pairwise ltL) (net:Nt) (mv:List (List Int)) (T:Tab) (u:Unit) (a:List (List Int)) (b c:Int) (L:List (List Int)) (hL:L.length<=512) (hLm:∀m∈L,m∈cf):∀q j f (acc:List Int),j+q=L.length->q<f->acc.length+q<=1000 ->
  QH N f (w,(net,cf,mv,T,u),acc,a,b,c,L,(L.length:Int),(j:Int),())=some (.inl (w,(net,cf,mv,T,u),acc++(L.drop j).map (Gg cf),a,b,c,())):=by
 intro q
 induction q with
 | zero=>
  intro j f acc e1 e2 e3
  obtain ⟨f,rfl⟩:∃m,f=m+1:=⟨f-1,by omega⟩
  have e:j=L.length:=by omega
  subst e
  rw [ACu (ACr _)]
  show HU _ _ _=_
  unfold HU
  simp only [A4,ACn,if_false,List.map_nil,List.append_nil]
 | succ q ih=>
  intro j f acc e1 e2 e3
  obtain ⟨f,rfl⟩:∃m,f=m+1:=⟨f-1,by omega⟩
  have hj:j<L.length:=by omega
  have ej:at_ Af L j=L[j]:=Aw (e:=Af) hj
  have c1:decide (acc.length+List.length [Gg cf L[j]]<=lim)=true:=by unfold lim;simp;omega
  show HU _ _ _=_
  unfold HU
  simp only [AD hj,if_true,Ag hj,Int.toNat_natCast,ej,ZR h1 h2 h3 (hLm _ (ACw hj)),Option.bind_some,c1,Aq (show j<=100000 by omega)]
  rw [ih (j+1) f _ (by omega) (by omega) (by simp;omega),ACv hj,List.map_cons,List.append_assoc,List.singleton_append]
theorem Yd {l:List Int} (h:CA l=true) {x:Nat} (hx:x<l.length):∀y∈AF l (x:Int),inB 0 ((l.length:Int)-1) y=true:=fun y hy=>by
 obtain ⟨z,hz,rfl⟩:=LG h x hx y hy
 exact AI.2 (by omega)
theorem Amo {n:Nat} (es:List E) (x:Int):∀y∈Ax n es x,inB 0 ((n:Int)-1) y=true:=fun y hy=>by
 obtain ⟨z,hz,rfl⟩:=X9 y hy
 exact AI.2 (by omega)
theorem Y1 {l:List Int} (h:CA l=true) {k:Nat} {c:List Int} (hc:c∈AB l.length k):∀m∈DD (AF l) c,m∈AB l.length k:=by
 obtain ⟨h1,h2⟩:=EA.1 hc
 have h3:=Jp h2
 intro m hm
 have:=TW (n:=l.length) (fun x _=>D5 l x) (fun x hx=>by
  have:=AI.1 (h3 x hx)
  have e:x=((x.toNat:Nat):Int):=by omega
  rw [e]
  exact Yd h (by omega)) hm
 rw [h1] at this
 exact this
theorem AAm (N:Nat) (hN:1000<=N) (l:List Int) (hl:CA l=true) (v:Unit) (k:Nat) (hk:k<=3) (T:Tab) (u:Unit):∀q i f (acc:List (List Int)),i+q=(AB l.length k).length->q<f->acc.length+q<=1000 ->
  QP N f ((l,v),((l,v),AB l.length k,acc,T,u),AB l.length k,((AB l.length k).length:Int),(i:Int),())=some (.inl (((l,v),AB l.length k,acc++((AB l.length k).drop i).map (fun c=>(DD (AF l) c).map (Gg (AB l.length k))),T,u),())):=by
 obtain ⟨p1,p2,p3,p4⟩:=Bl hl
 have h120:=HL p3 hk
 have hok:=Ai0 p3 hk
 have hrise:=Zw l.length k
 intro q
 induction q with
 | zero=>
  intro i f acc e1 e2 e3
  obtain ⟨f,rfl⟩:∃m,f=m+1:=⟨f-1,by omega⟩
  have e:i=(AB l.length k).length:=by omega
  subst e
  rw [ACu (ACr _)]
  show Hn _ _ _=_
  unfold Hn
  simp only [A4,ACn,if_false,List.map_nil,List.append_nil]
 | succ q ih=>
  intro i f acc e1 e2 e3
  obtain ⟨f,rfl⟩:∃m,f=m+1:=⟨f-1,by omega⟩
  have hi:i<(AB l.length k).length:=by omega
  have ei:at_ Af (AB l.length k) i=(AB l.length k)[i]:=Aw (e:=Af) hi
  have hnb:=Acr hk (ACw hi)
  have hmv:EU ((l,v),(AB l.length k)[i],())=some (DD (AF l) (AB l.length k)[i],()):=by
   unfold EU
   simp only [hl,hnb,Bool.and_self,if_true]
  obtain ⟨n1,n2⟩:=PA hnb
  have hml:=Ui (ball:=AF l) n1 (fun c hc=>D5 l c)
  have hin:=AAj N (l,v) (AB l.length k) h120 hok hrise (l,v) acc T u (AB l.length k) ((AB l.length k).length:Int) (i:Int) (DD (AF l) (AB l.length k)[i]) hml (Y1 hl (ACw hi)) (DD (AF l) (AB l.length k)[i]).length 0 N [] (by omega) (by omega) (by simp;omega)
  simp only [Int.natCast_zero,List.drop_zero,List.nil_append] at hin
  have c1:∀x:List Int,decide (acc.length+List.length [x]<=lim)=true:=fun x=>by unfold lim;simp;omega
  show Hn _ _ _=_
  unfold Hn
  simp only [AD hi,if_true,Ag hi,Int.toNat_natCast,ei,hmv,Option.bind_some,hin,c1,Aq (show i<=100000 by omega)]
  rw [ih (i+1) f _ (by omega) (by omega) (by simp;omega),ACv hi,List.map_cons,List.append_assoc,List.singleton_append]
theorem U4 (d) (r) (h:EM d=some r):∃N,VO N d=some r:=by
 obtain ⟨⟨l,v⟩,k,_⟩:=d
 unfold EM at h
 split at h
 ·rename_i hc
  simp only [ACo] at hc
  obtain ⟨hl,hk⟩:=hc
  have hk2:=AI.1 hk
  obtain ⟨p1,p2,p3,p4⟩:=Bl hl
  have h:=ACs h
  subst h
  refine ⟨1000,?_⟩
  have h120:=HL p3 (show k.toNat<=3 by omega)
  have hcf:Ey ((l.length:Int),k,())=some (AB l.length k.toNat,()):=by
   unfold Ey
   have i1:inB 0 8 (l.length:Int)=true:=AI.2 (by omega)
   simp only [i1,hk,Bool.and_self,if_true,Int.toNat_natCast]
  have h0:=AAm 1000 (by omega) l hl v k.toNat (by omega) [] () (AB l.length k.toNat).length 0 1000 [] (by omega) (by omega) (by simp;omega)
  simp only [Int.natCast_zero,List.drop_zero,List.nil_append] at h0
  unfold VO IQ
  simp only [hcf,Option.bind_some,h0]
  rfl
 ·cases h
open Go.Proofs
theorem XP (m n:Nat) (f:Nat->Nat->Int):(DK m n f).length=m:=by simp [DK]
theorem XJ {m n c:Nat} (f:Nat->Nat->Int) (h:c<m):(DK m n f)[c]? = some ((List.range n).map fun x=>f c x):=by
 unfold DK
 rw [List.getElem?_map,List.getElem?_range h]
 rfl
theorem Aly {m n c x:Nat} (f:Nat->Nat->Int) (hc:c<m) (hx:x<n):AY (DK m n f) (c:Int) (x:Int)=f c x:=by
 unfold AY
 simp only [Int.toNat_natCast,ACy,XJ f hc,Option.getD_some,Si _ hx]
theorem IH {m n:Nat} {f g:Nat->Nat->Int} (h:∀c x,c<m->x<n->f c x=g c x):DK m n f=DK m n g:=by
 unfold DK
 refine List.map_congr_left fun c hc=>List.map_congr_left fun x hx=>h c x (List.mem_range.1 hc) (List.mem_range.1 hx)
theorem Cd {m n:Nat} {T:Tab} (h:rcB m n T=true):T.length=m /\ ∀c,c<m->(at_ Af T c).length=n:=by
 unfold rcB at h
 simp only [ACo,decide_eq_true_eq,List.all_eq_true] at h
 refine ⟨h.1,fun c hc => ?_⟩
 have hlt:c<T.length:=by omega
 have e:at_ Af T c=T[c]:=Aw (e:=Af) hlt
 rw [e]
 exact h.2 _ (ACw hlt)
theorem VU {m n:Nat} {T:Tab} (h:rcB m n T=true) {c x:Nat} (hc:c<m) (hx:x<n):at_ I (at_ Af T c) x=AY T (c:Int) (x:Int):=by
 obtain ⟨h1,h2⟩:=Cd h
 have hlt:c<T.length:=by omega
 have e:at_ Af T c=T[c]:=Aw (e:=Af) hlt
 have h3:=h2 c hc
 rw [e] at h3 |-
 have e2:at_ I T[c] x=T[c][x]:=Aw (e:=I) (by omega)
 rw [e2]
 unfold AY
 simp only [Int.toNat_natCast,ACy,ACz hlt,Option.getD_some]
 rw [ACz (by omega)]
 rfl
theorem IB (m n:Nat) (f:Nat->Nat->Int):rcB m n (DK m n f)=true:=by
 unfold rcB DK
 simp
theorem Aqo {m n:Nat} {T:Tab} (h:rcB m n T=true) {c:Nat} (hc:c<m):at_ Af T c=(List.range n).map fun (x:Nat)=>AY T (c:Int) (x:Int):=by
 obtain ⟨h1,h2⟩:=Cd h
 have h3:=h2 c hc
 apply List.ext_getElem
 ·simp [h3]
 ·intro i i1 i2
  have hi:i<n:=by omega
  rw [List.getElem_map,List.getElem_range,<- VU h hc hi]
  exact (Aw (e:=I) i1).symm
theorem T6 {m n:Nat} {T:Tab} (h:rcB m n T=true):DK m n (fun c x=>AY T (c:Int) (x:Int))=T:=by
 obtain ⟨h1,h2⟩:=Cd h
 apply List.ext_getElem
 ·rw [XP,h1]
 ·intro c c1 c2
  have hc:c<m:=by omega
  have e:at_ Af T c=T[c]:=Aw (e:=Af) c2
  rw [<- e,Aqo h hc]
  simp [DK]
def XO (m n:Nat) (T:Tab):Nat:=(List.range (m*n)).countP fun i=>decide (AY T ((i / n:Nat):Int) ((i % n:Nat):Int)<0)
theorem Ii {cf mv:List (List Int)} {ball:Int->List Int} {n:Nat} {T:Tab}:PX cf mv ball n T=true ↔ ∃c x,c<cf.length/\x<n/\HO cf mv ball T c x=true:=by
 unfold PX
 simp only [List.any_eq_true,List.mem_range]
 constructor
 ·rintro ⟨c,hc,r,hr,h⟩
  exact ⟨c,r,hc,hr,h⟩
 ·rintro ⟨c,r,hc,hr,h⟩
  exact ⟨c,hc,r,hr,h⟩
theorem Xx {cf mv:List (List Int)} {ball:Int->List Int} {n:Nat} {t:Int} {T:Tab} {c x:Nat} (hc:c<cf.length) (hx:x<n):AY (Jh cf mv ball n t T) (c:Int) (x:Int)=if HO cf mv ball T c x=true then t else AY T (c:Int) (x:Int):=Aly _ hc hx
theorem Ab1 {cf mv:List (List Int)} {ball:Int->List Int} {n:Nat} {t:Int} (ht:0<=t) {T:Tab} (h:PX cf mv ball n T=true):XO cf.length n (Jh cf mv ball n t T)<XO cf.length n T:=by
 obtain ⟨c,x,hc,hx,hcan⟩:=Ii.1 h
 have hdiv:∀i,i<cf.length*n->i / n<cf.length/\i % n<n:=fun i hi=>by
  have hn:0<n:=by omega
  exact ⟨(Nat.div_lt_iff_lt_mul hn).2 hi,Nat.mod_lt _ hn⟩
 have hsub:=TJ (p:=fun i=>decide (AY T ((i / n:Nat):Int) ((i % n:Nat):Int)<0)) (q:=fun i=>decide (AY (Jh cf mv ball n t T) ((i / n:Nat):Int) ((i % n:Nat):Int)<0)) (l:=List.range (cf.length*n)) (fun i hi h=>by
  obtain ⟨d1,d2⟩:=hdiv i (List.mem_range.1 hi)
  have h:=of_decide_eq_true h
  rw [Xx d1 d2] at h
  split at h
  ·omega
  ·exact decide_eq_true h)
 refine hsub.2 ⟨c*n+x,?_,?_,?_⟩
 ·rw [List.mem_range]
  have:(c+1)*n<=cf.length*n:=Nat.mul_le_mul_right _ hc
  rw [Nat.succ_mul] at this
  omega
 all_goals
  have e1:(c*n+x) / n=c:=by
   rw [Nat.mul_comm,Nat.mul_add_div (by omega),Nat.div_eq_of_lt hx]
   omega
  have e2:(c*n+x) % n=x:=by
   rw [Nat.mul_comm,Nat.mul_add_mod,Nat.mod_eq_of_lt hx]
  simp only [e1,e2]
 ·unfold HO at hcan
  simp only [ACo] at hcan
  exact hcan.1
 ·rw [Xx hc hx,if_pos hcan]
  simpa using ht
theorem Am0 (m n:Nat) (T:Tab):XO m n T<=m*n:=by
 unfold XO
 have:=List.countP_le_length (p:=fun i=>decide (AY T ((i / n:Nat):Int) ((i % n:Nat):Int)<0)) (l:=List.range (m*n))
 simpa using this
theorem Y9 {cf mv:List (List Int)} {ball:Int->List Int} {n:Nat} {t:Int} {T:Tab} (hT:rcB cf.length n T=true) (h:PX cf mv ball n T=false):Jh cf mv ball n t T=T:=by
 refine Eq.trans (IH fun c x hc hx=>if_neg fun hh => ?_) (T6 hT)
 have:=Ii.2 ⟨c,x,hc,hx,hh⟩
 rw [h] at this
 cases this
theorem Eb {n:Nat} {cf mv:List (List Int)} (h:gmB n cf mv=true):cf.length<=120/\mv.length=cf.length/\(∀c,c<cf.length->(at_ Af cf c).length<=3/\cf.getD c []=at_ Af cf c /\ ∀x∈at_ Af cf c,inB 0 ((n:Int)-1) x=true) /\
  (∀c,c<cf.length->(at_ Af mv c).length<=1000/\mv.getD c []=at_ Af mv c /\ ∀d∈at_ Af mv c,inB 0 ((cf.length:Int)-1) d=true):=by
 unfold gmB at h
 simp only [ACo,decide_eq_true_eq,List.all_eq_true] at h
 obtain ⟨⟨⟨h1,h2⟩,h3⟩,h4⟩:=h
 refine ⟨h1,h2,fun c hc => ?_,fun c hc => ?_⟩
 ·have e:at_ Af cf c=cf[c]:=Aw (e:=Af) hc
  have:=h3 _ (ACw hc)
  rw [e]
  refine ⟨this.1,?_,this.2⟩
  rw [ACy,ACz hc]
  rfl
 ·have hc2:c<mv.length:=by omega
  have e:at_ Af mv c=mv[c]:=Aw (e:=Af) hc2
  have:=h4 _ (ACw hc2)
  rw [e]
  refine ⟨this.1,?_,this.2⟩
  rw [ACy,ACz hc2]
  rfl
open Go.Proofs
theorem G8 {l:List Int} {v u:Unit} {cf mv:List (List Int)} {T:Tab} (h:cgB ((l,v),cf,mv,T,u)=true):CA l=true/\1<=l.length/\gmB l.length cf mv=true/\rcB cf.length l.length T=true:=by
 unfold cgB at h
 simp only [ACo,decide_eq_true_eq] at h
 exact ⟨h.1.1.1,h.1.1.2,h.1.2,h.2⟩
theorem Ss {l:List Int} (hl:CA l=true) {cf:List (List Int)} {T:Tab} (hT:rcB cf.length l.length T=true) {d x:Nat} (hd:d<cf.length) (hx:x<l.length) (v u:Unit):CP ((l,v),at_ Af T d,(x:Int),u)=some (A6 (AY T (d:Int)) (AF l (x:Int)) 0,()):=by
 obtain ⟨t1,t2⟩:=Cd hT
 have hlen:decide ((at_ Af T d).length=l.length)=true:=decide_eq_true (t2 d hd)
 have i2:inB 0 ((l.length:Int)-1) (x:Int)=true:=AI.2 (by omega)
 have hlt:d<T.length:=by omega
 have ea:at_ Af T d=T.getD d []:=by
  have:at_ Af T d=T[d]:=Aw (e:=Af) hlt
  rw [this,ACy,ACz hlt]
  rfl
 unfold CP
 simp only [hl,hlen,i2,Bool.and_self,if_true]
 rw [ea]
 rfl
theorem Aah {l:List Int} {v u:Unit} {cf mv:List (List Int)} {T:Tab} (h:cgB ((l,v),cf,mv,T,u)=true) {d x:Nat} (hd:d<cf.length) (hx:x<l.length) (a b e:Unit):Qu ((d:Int),(a,((l,v),cf,mv,T,u),(x:Int),b),e)=some (decide (0<=BU cf (AF l) T (d:Int) (x:Int)),()):=by
 obtain ⟨h1,h2,h3,h4⟩:=G8 h
 obtain ⟨g1,g2,g3,g4⟩:=Eb h3
 obtain ⟨y1,y2,y3⟩:=g3 d hd
 obtain ⟨t1,t2⟩:=Cd h4
 have i1:Ak (d:Int) T.length=true:=Ag (by omega)
 unfold Qu Wt BU
 simp only [Ag hd,if_true,Int.toNat_natCast,Anw (Et (show (at_ Af cf d).length<=1048576 by omega)),Option.bind_some,y2,i1,Ss h1 h4 hd hx]
 by_cases hh:Cu (at_ Af cf d) (x:Int)=true
 ·simp only [hh,if_true]
  rfl
 ·simp only [hh,ACn,if_false]
theorem Yb (d) (r) (h:H5 d=some r):∃N,Ae6 N d=some r:=by
 obtain ⟨xs,⟨a,⟨⟨l,v⟩,cf,mv,T,u⟩,q,b⟩,_⟩:=d
 unfold H5 at h
 split at h
 ·rename_i hc
  simp only [ACo,decide_eq_true_eq] at hc
  obtain ⟨⟨⟨hg,hq'⟩,hlen⟩,hxs⟩:=hc
  obtain ⟨q,rfl,hq⟩:=Ad6 hq'
  have h:=ACs h
  subst h
  have hlen:xs.length<=1000:=hlen
  have hmx:xs.length<=maxLen:=by unfold maxLen;omega
  refine ⟨xs.length+1,?_⟩
  unfold Ae6
  have:=Gs (L:=WN (xs.length+1)) (r:=LC (xs.length+1)) (fun _ _=>rfl) (e:=I) xs (mk:=fun i=>(xs,(a,((l,v),cf,mv,T,u),(q:Int),b),(xs.length:Int),(i:Int),())) (q:=fun b=>decide (0<=BU cf (AF l) T b (q:Int))) (o:=fun i=>.inl ((i:Int),())) (f:=.inr (.inl ()))
   (by
    intro back i hi
    have hx:at_ I xs i=xs[i]:=Aw (e:=I) hi
    obtain ⟨y,b1,b2⟩:=Ad6 (List.all_eq_true.1 hxs xs[i] (ACw hi))
    have hcan:=Aah hg b2 hq a b ()
    rw [<- b1] at hcan
    unfold LC
    simp only [AD hi,if_true,Ag hi,Int.toNat_natCast,BK hi hmx,hx,hcan,Option.bind_some])
   (by intro back;unfold LC;simp only [A4,ACn,if_false]) xs.length 0 (by omega) (by omega)
  simp only [Int.natCast_zero,List.drop_zero] at this
  simp only [this,Option.bind_some]
  cases ER (fun b=>decide (0<=BU cf (AF l) T b (q:Int))) xs 0<;>rfl
 ·cases h
theorem Akm {l:List Int} {v u:Unit} {cf mv:List (List Int)} {T:Tab} (h:cgB ((l,v),cf,mv,T,u)=true) {c x:Nat} (hc:c<cf.length) (hx:x<l.length) (b:Unit):RI 0 (((l,v),cf,mv,T,u),(c:Int),(x:Int),b)=some ((at_ Af mv c).any (fun d=>decide (0<=BU cf (AF l) T d (x:Int))),()):=by
 obtain ⟨h1,h2,h3,h4⟩:=G8 h
 obtain ⟨g1,g2,g3,g4⟩:=Eb h3
 obtain ⟨m1,m2,m3⟩:=g4 c hc
 have i1:Ak (c:Int) mv.length=true:=Ag (by omega)
 have i2:inB 0 ((l.length:Int)-1) (x:Int)=true:=AI.2 (by omega)
 have hall:(at_ Af mv c).all (inB 0 ((cf.length:Int)-1))=true:=List.all_eq_true.2 m3
 have hlen:decide ((at_ Af mv c).length<=1000)=true:=decide_eq_true m1
 unfold RI Aem
 simp only [i1,if_true,Int.toNat_natCast,H5,h,i2,hlen,hall,Bool.and_self,Option.bind_some,JY]
theorem Ar0 {c:List Int} {j:Nat} (hj:j<c.length) (x:Int):Cu (c.take (j+1)) x=(Cu (c.take j) x||c[j]==x):=by
 unfold Cu
 rw [List.take_add_one,List.any_append,ACz hj]
 simp
theorem ABf (N:Nat) (w:Nt) (y:Cg) (a:List (List Int)) (b e:Int) (n:Nat) (c:List Int) (hc3:c.length<=3) (hc:∀x∈c,inB 0 ((n:Int)-1) x=true):∀q j f,j+q=c.length->q<f ->
  QZ N f (w,y,(List.range n).map (fun (x:Nat)=>if Cu (c.take j) (x:Int)=true then (0:Int) else -1),a,b,e,c,(c.length:Int),(j:Int),())=some (.inl (w,y,(List.range n).map (fun (x:Nat)=>if Cu c (x:Int)=true then (0:Int) else -1),a,b,e,())):=by
 intro q
 induction q with
 | zero=>
  intro j f e1 e2
  obtain ⟨f,rfl⟩:∃m,f=m+1:=⟨f-1,by omega⟩
  have e:j=c.length:=by omega
  subst e
  rw [List.take_of_length_le (ACr _)]
  show HJ _ _ _=_
  unfold HJ
  simp only [A4,ACn,if_false]
 | succ q ih=>
  intro j f e1 e2
  obtain ⟨f,rfl⟩:∃m,f=m+1:=⟨f-1,by omega⟩
  have hj:j<c.length:=by omega
  obtain ⟨z,hz,hzn⟩:=Ad6 (hc c[j] (ACw hj))
  have ej:at_ I c j=(z:Int):=(Aw (e:=I) hj).trans hz
  have i1:∀g:Nat->Int,Ak (z:Int) ((List.range n).map g).length=true:=fun g=>Ag (by simpa using hzn)
  have fin:=ih (j+1) f (by omega) (by omega)
  have er:(List.range n).map (fun (x:Nat)=>if Cu (c.take (j+1)) (x:Int)=true then (0:Int) else -1)=((List.range n).map (fun (x:Nat)=>if Cu (c.take j) (x:Int)=true then (0:Int) else -1)).set z 0:=by
   rw [map_set]
   refine List.map_congr_left fun x _ => ?_
   rw [Ar0 hj,hz]
   by_cases exz:x=z
   ·subst exz;simp
   ·have:((z:Int)==(x:Int))=false:=by simp;omega
    rw [this,Bool.or_false,if_neg exz]
  rw [er] at fin
  show HJ _ _ _=_
  unfold HJ
  simp only [AD hj,if_true,Ag hj,Int.toNat_natCast,ej,i1,Aq (show j<=100000 by omega)]
  exact fin
theorem AAk (N:Nat) (hN:10<=N) (l:List Int) (v:Unit) (h1:1<=l.length) (h8:l.length<=8) (net:Nt) (cf mv:List (List Int)) (u:Unit) (hg:gmB l.length cf mv=true):∀q i f (acc:Tab),i+q=cf.length->q<f->acc.length+q<=1000 ->
  Q4 N f ((l,v),(net,cf,mv,acc,u),cf,(cf.length:Int),(i:Int),())=some (.inl ((net,cf,mv,acc++(List.range' i q).map (fun c=>(List.range l.length).map (fun (x:Nat)=>if Cu (cf.getD c []) (x:Int)=true then (0:Int) else -1)),u),())):=by
 obtain ⟨g1,g2,g3,g4⟩:=Eb hg
 intro q
 induction q with
 | zero=>
  intro i f acc e1 e2 e3
  obtain ⟨f,rfl⟩:∃m,f=m+1:=⟨f-1,by omega⟩
  have e:i=cf.length:=by omega
  subst e
  show Hq _ _ _=_
  unfold Hq
  simp only [A4,ACn,if_false,List.range'_zero,List.map_nil,List.append_nil]
 | succ q ih=>
  intro i f acc e1 e2 e3
  obtain ⟨f,rfl⟩:∃m,f=m+1:=⟨f-1,by omega⟩
  have hi:i<cf.length:=by omega
  obtain ⟨y1,y2,y3⟩:=g3 i hi
  have hr:Dq ([-1],(l.length:Int),())=some ((List.range l.length).map (fun (x:Nat)=>if Cu ((at_ Af cf i).take 0) (x:Int)=true then (0:Int) else -1),()):=by
   unfold Dq
   have e1:decide (1<=(l.length:Int))=true:=by simp;omega
   have e2:decide ((l.length:Int)<=8)=true:=by simp;omega
   simp only [List.length_singleton,decide_true,e1,e2,Bool.and_self,if_true,Int.toNat_natCast,List.headD_cons]
   congr 2
   apply List.ext_getElem
   ·simp
   ·intro i h1 h2
    simp [Cu]
  have hin:=ABf N (l,v) (net,cf,mv,acc,u) cf (cf.length:Int) (i:Int) l.length (at_ Af cf i) y1 y3 (at_ Af cf i).length 0 N (by omega) (by omega)
  simp only [Int.natCast_zero] at hin
  have c1:∀x:List Int,decide (acc.length+List.length [x]<=lim)=true:=fun x=>by unfold lim;simp;omega
  show Hq _ _ _=_
  unfold Hq IQ
  simp only [AD hi,if_true,Ag hi,Int.toNat_natCast,hr,Option.bind_some,hin,c1,Aq (show i<=100000 by omega)]
  rw [ih (i+1) f _ (by omega) (by omega) (by simp;omega),List.range'_succ,List.map_cons,List.append_assoc,List.singleton_append,y2]
theorem AAq (N:Nat) {l:List Int} {v u:Unit} {cf mv:List (List Int)} {T:Tab} (h:cgB ((l,v),cf,mv,T,u)=true) (t:Int) (fd:Bool) (c:Nat) (hc:c<cf.length) (a b:Int):∀(k x f:Nat) (fresh:List E),x+k=l.length->k<f->fresh.length+k<=2000 ->
  QR N f (((l,v),cf,mv,T,u),t,fd,fresh,(c:Int),a,b,(l.length:Int),(x:Int),(),(c:Int),()) =
   some (.inl (((l,v),cf,mv,T,u),t,fd,fresh++Lh (HO cf mv (AF l) T) c k x,a,b,(),())):=by
 obtain ⟨h1,h2,h3,h4⟩:=G8 h
 obtain ⟨g1,g2,g3,g4⟩:=Eb h3
 obtain ⟨m1,m2,m3⟩:=g4 c hc
 obtain ⟨t1,t2⟩:=Cd h4
 obtain ⟨p1,p2,p3,p4⟩:=Bl h1
 intro k
 induction k with
 | zero=>
  intro x f fresh e1 e2 e3
  obtain ⟨f,rfl⟩:∃m,f=m+1:=⟨f-1,by omega⟩
  have e:x=l.length:=by omega
  subst e
  show Ho _ _ _=_
  unfold Ho
  simp only [A4,ACn,if_false,Lh,List.append_nil]
 | succ k ih=>
  intro x f fresh e1 e2 e3
  obtain ⟨f,rfl⟩:∃m,f=m+1:=⟨f-1,by omega⟩
  have hx:x<l.length:=by omega
  have i2:Ak (x:Int) (at_ Af T c).length=true:=Ag (by rw [t2 c hc];exact hx)
  have hv:=VU h4 hc hx
  have hle:decide (fresh.length+List.length [(((c:Int),(x:Int),()):E)]<=lim)=true:=by
   unfold lim
   simp
   omega
  show Ho _ _ _=_
  unfold Ho
  simp only [AD hx,if_true,Int.toNat_natCast,i2,hv,Akm h hc hx,Option.bind_some,hle,Aq (show x<=100000 by omega),Lh]
  have hcan:HO cf mv (AF l) T c x=(decide (AY T (c:Int) (x:Int)<0)&&(at_ Af mv c).any (fun d=>decide (0<=BU cf (AF l) T d (x:Int)))):=by
   unfold HO
   rw [m2]
  by_cases hf:AY T (c:Int) (x:Int)<0
  ·cases hany:(at_ Af mv c).any (fun d=>decide (0<=BU cf (AF l) T d (x:Int))) with
   | true=>
    rw [hany] at hcan
    simp only [hf,decide_true,Bool.and_self] at hcan
    simp only [hf,decide_true,if_true,hcan]
    rw [ih (x+1) f _ (by omega) (by omega) (by simp;omega)]
    simp
   | false=>
    rw [hany,Bool.and_false] at hcan
    simp only [hf,decide_true,if_true,hcan,ACn,if_false]
    exact ih (x+1) f fresh (by omega) (by omega) (by omega)
  ·simp only [hf,decide_false,Bool.false_and] at hcan
   simp only [hf,decide_false,ACn,if_false,hcan]
   exact ih (x+1) f fresh (by omega) (by omega) (by omega)
theorem ABp (N:Nat) (hN:10<=N) {l:List Int} {v u:Unit} {cf mv:List (List Int)} {T:Tab} (h:cgB ((l,v),cf,mv,T,u)=true) (t:Int) (fd:Bool):∀(k c f:Nat) (fresh:List E),c+k=cf.length->k<f->fresh.length+8*k<=1000 ->
  Q1 N f (((l,v),cf,mv,T,u),t,fd,fresh,(cf.length:Int),(c:Int),(),()) =
   some (.inl (((l,v),cf,mv,T,u),t,fd,fresh++GC (HO cf mv (AF l) T) l.length k c,())):=by
 obtain ⟨h1,h2,h3,h4⟩:=G8 h
 obtain ⟨g1,g2,g3,g4⟩:=Eb h3
 obtain ⟨t1,t2⟩:=Cd h4
 obtain ⟨p1,p2,p3,p4⟩:=Bl h1
 intro k
 induction k with
 | zero=>
  intro c f fresh e1 e2 e3
  obtain ⟨f,rfl⟩:∃m,f=m+1:=⟨f-1,by omega⟩
  have e:c=cf.length:=by omega
  subst e
  show HA _ _ _=_
  unfold HA
  simp only [A4,ACn,if_false,GC,List.append_nil]
 | succ k ih=>
  intro c f fresh e1 e2 e3
  obtain ⟨f,rfl⟩:∃m,f=m+1:=⟨f-1,by omega⟩
  have hc:c<cf.length:=by omega
  have i1:Ak (c:Int) T.length=true:=Ag (by omega)
  have hin:=AAq N h t fd c hc (cf.length:Int) (c:Int) l.length 0 N fresh (by omega) (by omega) (by omega)
  simp only [Int.natCast_zero] at hin
  have hrl:=Sh (p:=HO cf mv (AF l) T) (x:=c) (m:=l.length) (y:=0)
  show HA _ _ _=_
  unfold HA
  simp only [AD hc,if_true,i1,Int.toNat_natCast,t2 c hc,hin,Option.bind_some,Aq (show c<=100000 by omega),GC]
  rw [ih (c+1) f _ (by omega) (by omega) (by simp;omega),List.append_assoc]
theorem Apy {m n:Nat} {g:Nat->Nat->Int} {x z:Nat} (hx:x<m) (hz:z<n) (t:Int):List.set (DK m n g) x (List.set (at_ Af (DK m n g) x) z t)=DK m n fun c r=>if c=x/\r=z then t else g c r:=by
 have hl:x<(DK m n g).length:=by rw [XP];exact hx
 have e:at_ Af (DK m n g) x=(DK m n g)[x]:=Aw (e:=Af) hl
 have hrow:=XJ (n:=n) g hx
 rw [ACz hl] at hrow
 rw [e,ACs hrow,map_set]
 apply List.ext_getElem
 ·simp [DK]
 ·intro i h1 h2
  rw [List.getElem_set]
  by_cases ei:x=i
  ·subst ei
   simp only [if_true,DK,List.getElem_map,List.getElem_range,true_and]
  ·have ei':¬i=x:=fun h=>ei h.symm
   simp only [ei,if_false,DK,List.getElem_map,List.getElem_range,ei',false_and]
theorem Azu (N:Nat) (w:Nt) (cf mv:List (List Int)) (u:Unit) (m n:Nat) (t:Int) (fresh:List E) (hfr:∀e∈fresh,∃x z:Nat,x<m/\z<n/\e=((x:Int),(z:Int),())) (hl:fresh.length<=1000):∀(k i f:Nat) (g:Nat->Nat->Int) (fd:Bool),i+k=fresh.length->k<f ->
  LQ N f ((w,cf,mv,DK m n g,u),t,fd,fresh,(fresh.length:Int),(i:Int),()) =
   some (.inl ((w,cf,mv,DK m n (fun c r=>if (fresh.drop i).any (isP c r)=true then t else g c r),u),t,fd||decide (0<k),())):=by
 intro k
 induction k with
 | zero=>
  intro i f g fd h1 h2
  obtain ⟨f,rfl⟩:∃m,f=m+1:=⟨f-1,by omega⟩
  have e:i=fresh.length:=by omega
  subst e
  show Gn _ _ _=_
  unfold Gn
  rw [ACu (ACr _)]
  simp only [A4,ACn,if_false,List.any_nil,Nat.lt_irrefl,decide_false,Bool.or_false]
 | succ k ih=>
  intro i f g fd h1 h2
  obtain ⟨f,rfl⟩:∃m,f=m+1:=⟨f-1,by omega⟩
  have hi:i<fresh.length:=by omega
  obtain ⟨x,z,hx,hz,ee⟩:=hfr fresh[i] (ACw hi)
  have e:at_ Aj fresh i=((x:Int),(z:Int),()):=(Aw (e:=Aj) hi).trans ee
  obtain ⟨t1,t2⟩:=Cd (IB m n g)
  have i1:Ak (x:Int) (DK m n g).length=true:=Ag (by omega)
  have i2:Ak (z:Int) (at_ Af (DK m n g) x).length=true:=Ag (by rw [t2 x hx];exact hz)
  show Gn _ _ _=_
  unfold Gn
  simp only [AD hi,if_true,Ag hi,Int.toNat_natCast,e,i1,i2,Aq (show i<=100000 by omega),Apy hx hz]
  rw [ih (i+1) f _ true (by omega) (by omega),ACv hi,ee]
  have et:DK m n (fun c r=>if (fresh.drop (i+1)).any (isP c r)=true then t else if c=x/\r=z then t else g c r)=DK m n fun c r=>if (((x:Int),(z:Int),())::fresh.drop (i+1)).any (isP c r)=true then t else g c r:=IH fun c r _ _=>by
   rw [List.any_cons]
   by_cases h3:(fresh.drop (i+1)).any (isP c r)=true
   ·simp [h3]
   ·have h3':(fresh.drop (i+1)).any (isP c r)=false:=by simpa using h3
    by_cases h4:c=x/\r=z
    ·have:isP c r ((x:Int),(z:Int),())=true:=by
      unfold isP
      simp [h4.1,h4.2]
     rw [if_neg h3,if_pos h4,this,Bool.true_or,if_pos rfl]
    ·have:isP c r ((x:Int),(z:Int),())=false:=by
      unfold isP
      simp only [Bool.and_eq_false_iff,beq_eq_false_iff_ne,ne_eq]
      by_cases h5:c=x
      ·exact .inr fun h=>h4 ⟨h5,by omega⟩
      ·exact .inl fun h=>h5 (by omega)
     simp [h3',h4,this]
  rw [et]
  simp
theorem Akf {p:Nat->Nat->Bool} {m n c r:Nat} (hc:c<m) (hr:r<n):(GC p n m 0).any (isP c r)=p c r:=by
 apply Bool.eq_iff_iff.2
 rw [List.any_eq_true]
 constructor
 ·rintro ⟨e,he,h⟩
  obtain ⟨x,z,h1,h2,h3,h4,rfl⟩:=DM.1 he
  unfold isP at h
  simp only [ACo,beq_iff_eq] at h
  have e1:x=c:=by omega
  have e2:z=r:=by omega
  subst e1 e2
  exact h4
 ·intro h
  exact ⟨((c:Int),(r:Int),()),DM.2 ⟨c,r,Nat.zero_le _,by omega,hr,h,rfl⟩,by unfold isP;simp⟩
theorem Ahp {cf mv:List (List Int)} {ball:Int->List Int} {n:Nat} {T:Tab}:decide (0<(GC (HO cf mv ball T) n cf.length 0).length)=PX cf mv ball n T:=by
 apply Bool.eq_iff_iff.2
 rw [decide_eq_true_eq,Ii]
 constructor
 ·intro h
  obtain ⟨x,z,h1,h2,h3,h4,_⟩:=DM.1 (ACw h)
  exact ⟨x,z,by omega,h3,h4⟩
 ·rintro ⟨c,r,hc,hr,h⟩
  exact List.length_pos_of_mem (DM.2 ⟨c,r,Nat.zero_le _,by omega,hr,h,rfl⟩)
theorem AAx (N:Nat) (hN:2000<=N) {l:List Int} {v u:Unit} {cf mv:List (List Int)} (hl:CA l=true) (h1:1<=l.length) (hg:gmB l.length cf mv=true):∀(k t:Nat) (T:Tab),rcB cf.length l.length T=true->t+k<=2000->XO cf.length l.length T<k -> ∀f,k+1<=f ->
  Qs N f (((l,v),cf,mv,T,u),(t:Int),true,())=some (.inl (((l,v),cf,mv,Hk cf mv (AF l) l.length k (t:Int) T,u),())):=by
 obtain ⟨g1,g2,g3,g4⟩:=Eb hg
 obtain ⟨p1,p2,p3,p4⟩:=Bl hl
 intro k
 induction k with
 | zero=>intro t T _ _ h;omega
 | succ k ih=>
  intro t T hT ht hng f hf
  obtain ⟨f,rfl⟩:∃m,f=m+1:=⟨f-1,by omega⟩
  have h:cgB ((l,v),cf,mv,T,u)=true:=by
   unfold cgB
   simp only [hl,hg,hT,h1,decide_true,Bool.and_self]
  obtain ⟨t1,t2⟩:=Cd hT
  have h6:=ABp N (by omega) h (t:Int) false cf.length 0 N [] (by omega) (by omega) (by simp;omega)
  simp only [Int.natCast_zero,List.nil_append] at h6
  have hlen:=YB (p:=HO cf mv (AF l) T) (n:=l.length) (k:=cf.length) (c:=0)
  have hnn:l.length*cf.length<=8*120:=Nat.mul_le_mul p3 g1
  have h10:=Azu N (l,v) cf mv u cf.length l.length (t:Int) (GC (HO cf mv (AF l) T) l.length cf.length 0) (fun e he=>by
   obtain ⟨x,z,_,h2,h3,_,h5⟩:=DM.1 he
   exact ⟨x,z,by omega,h3,h5⟩) (by omega) (GC (HO cf mv (AF l) T) l.length cf.length 0).length 0 N (fun c x=>AY T (c:Int) (x:Int)) false (by omega) (by omega)
  rw [T6 hT] at h10
  simp only [Int.natCast_zero,List.drop_zero,Bool.false_or,Ahp] at h10
  have et:DK cf.length l.length (fun c r=>if (GC (HO cf mv (AF l) T) l.length cf.length 0).any (isP c r)=true then (t:Int) else AY T (c:Int) (r:Int))=Jh cf mv (AF l) l.length (t:Int) T:=IH fun c r hc hr=>by
   rw [Akf hc hr]
  rw [et] at h10
  show Oy _ _ _=_
  unfold Oy
  simp only [if_true,t1,h6,Option.bind_some,h10,Aq (show t<=100000 by omega),Hk]
  by_cases ha:PX cf mv (AF l) l.length T=true
  ·rw [if_pos ha,ha]
   have:=Ab1 (t:=(t:Int)) (by omega) ha
   exact ih (t+1) (Jh cf mv (AF l) l.length (t:Int) T) (IB _ _ _) (by omega) (by omega) f (by omega)
  ·have ha':PX cf mv (AF l) l.length T=false:=(Bool.not_eq_true _).mp ha
   rw [if_neg ha,ha',Y9 hT ha']
   obtain ⟨f,rfl⟩:∃m,f=m+1:=⟨f-1,by omega⟩
   rfl
theorem Yg (d) (r) (h:Ge d=some r):∃N,Va N d=some r:=by
 obtain ⟨⟨l,v⟩,k,_⟩:=d
 unfold Ge at h
 split at h
 ·rename_i hc
  simp only [ACo,decide_eq_true_eq] at hc
  obtain ⟨⟨hl,h1⟩,hk⟩:=hc
  have hl:CA l=true:=hl
  have h1:1<=l.length:=h1
  have hk2:=AI.1 hk
  obtain ⟨p1,p2,p3,p4⟩:=Bl hl
  have h:=ACs h
  subst h
  refine ⟨2000,?_⟩
  have hg:=XR (n:=l.length) p3 (k:=k.toNat) (by omega) (ball:=AF l) (fun x _=>D5 l _) (fun x hx=>Yd hl hx)
  obtain ⟨g1,g2,g3,g4⟩:=Eb hg
  have hb:EM ((l,v),k,())=some (((l,v),AB l.length k.toNat,CJ (AF l) (AB l.length k.toNat),[],()),()):=by
   unfold EM
   simp only [hl,hk,Bool.and_self,if_true]
  have h0:=AAk 2000 (by omega) l v h1 p3 (l,v) (AB l.length k.toNat) (CJ (AF l) (AB l.length k.toNat)) () hg (AB l.length k.toNat).length 0 2000 [] (by omega) (by omega) (by simp;omega)
  simp only [Int.natCast_zero,List.nil_append,<- List.range_eq_range'] at h0
  have e0:(List.range (AB l.length k.toNat).length).map (fun c=>(List.range l.length).map (fun (x:Nat)=>if Cu ((AB l.length k.toNat).getD c []) (x:Int)=true then (0:Int) else -1))=M5 (AB l.length k.toNat) l.length:=rfl
  rw [e0] at h0
  have hneg:=Am0 (AB l.length k.toNat).length l.length (M5 (AB l.length k.toNat) l.length)
  have hmul:(AB l.length k.toNat).length*l.length<=120*8:=Nat.mul_le_mul g1 p3
  have h4:=AAx 2000 (by omega) (v:=v) (u:=()) hl h1 hg 1000 1 (M5 (AB l.length k.toNat) l.length) (IB _ _ _) (by omega) (by omega) 2000 (by omega)
  have e1:((1:Nat):Int)=1:=rfl
  rw [e1] at h4
  unfold Va
  simp only [hb,Option.bind_some,h0,h4]
  rfl
 ·cases h
open Go.Proofs
theorem Yk {cf:List (List Int)} {b1 b2:Int->List Int} {T:Tab} {d x:Int} (h:b1 x=b2 x):BU cf b1 T d x=BU cf b2 T d x:=by
 unfold BU
 rw [h]
theorem K2 {cf mv:List (List Int)} {b1 b2:Int->List Int} {T:Tab} {c x:Nat} (h:b1 (x:Int)=b2 (x:Int)):HO cf mv b1 T c x=HO cf mv b2 T c x:=by
 unfold HO
 simp only [Yk (cf:=cf) (T:=T) h]
theorem Y8 {cf mv:List (List Int)} {b1 b2:Int->List Int} {n:Nat} (h:∀x:Nat,x<n->b1 (x:Int)=b2 (x:Int)) (T:Tab):PX cf mv b1 n T=PX cf mv b2 n T:=by
 apply DY
 rw [Ii,Ii]
 constructor
 ·rintro ⟨c,x,hc,hx,h2⟩
  exact ⟨c,x,hc,hx,by rw [<- K2 (h x hx)];exact h2⟩
 ·rintro ⟨c,x,hc,hx,h2⟩
  exact ⟨c,x,hc,hx,by rw [K2 (h x hx)];exact h2⟩
theorem Xq {cf mv:List (List Int)} {b1 b2:Int->List Int} {n:Nat} (h:∀x:Nat,x<n->b1 (x:Int)=b2 (x:Int)):∀(k:Nat) (t:Int) (T:Tab),Hk cf mv b1 n k t T=Hk cf mv b2 n k t T:=by
 intro k
 induction k with
 | zero=>intro t T;rfl
 | succ k ih=>
  intro t T
  unfold Hk
  rw [Y8 h T]
  have:Jh cf mv b1 n t T=Jh cf mv b2 n t T:=IH fun c x hc hx=>by rw [K2 (h x hx)]
  rw [this,ih]
theorem W5 {cf mv:List (List Int)} {b1 b2:Int->List Int} {n:Nat} (h:∀x:Nat,x<n->b1 (x:Int)=b2 (x:Int)):Jo cf mv b1 n=Jo cf mv b2 n:=Xq h _ _ _
theorem Arp {cf mv:List (List Int)} {ball:Int->List Int} {n:Nat}:∀(k:Nat) (t:Int) (T:Tab),rcB cf.length n T=true->rcB cf.length n (Hk cf mv ball n k t T)=true:=by
 intro k
 induction k with
 | zero=>intro t T h;exact h
 | succ k ih=>
  intro t T h
  unfold Hk
  split
  ·exact ih _ _ (IB _ _ _)
  ·exact h
theorem Aof (cf mv:List (List Int)) (ball:Int->List Int) (n:Nat):rcB cf.length n (Jo cf mv ball n)=true:=Arp _ _ _ (IB _ _ _)
theorem Awm (g:Gr) (k:Nat):rcB (cfG g k).length g.1.toNat (tmG g k)=true:=Aof _ _ _ _
theorem Xd {n:Int} {es:List E} {v:Unit} {k:Int} (h:Jl (n,es,v) k=true):A9 (n,es,v)=true /\ ∃m q:Nat,n=(m:Int)/\k=(q:Int)/\1<=m/\m<=8/\1<=q/\q<=3:=by
 unfold Jl at h
 simp only [ACo,decide_eq_true_eq] at h
 obtain ⟨⟨h1,h2⟩,h3⟩:=h
 obtain ⟨h4,h5⟩:=DG h1
 have h3:=AI.1 h3
 exact ⟨h1,n.toNat,k.toNat,by omega,by omega,by omega,by omega,by omega,by omega⟩
theorem Alc {m q:Nat} {es:List E} {v:Unit} (hg:A9 ((m:Int),es,v)=true) (ho:okL es=true) (h1:1<=m) (hq:q<=3) (u:Unit) :
  Ge ((toI (Dn m es),()),(q:Int),u)=some (((toI (Dn m es),()),cfG ((m:Int),es,v) q,mvG ((m:Int),es,v) q,tmG ((m:Int),es,v) q,()),())/\cgB ((toI (Dn m es),()),cfG ((m:Int),es,v) q,mvG ((m:Int),es,v) q,tmG ((m:Int),es,v) q,())=true:=by
 obtain ⟨h0,h8⟩:=DG hg
 have hm:m<=8:=by omega
 obtain ⟨g1,_⟩:=FY hg
 obtain ⟨n1,n2⟩:=Gz hm g1
 have hk:inB 0 3 (q:Int)=true:=AI.2 (by omega)
 have e1:CJ (AF (toI (Dn m es))) (AB m q)=CJ (Ax m es) (AB m q):=by
  unfold CJ
  refine List.map_congr_left fun c hc => ?_
  rw [XE fun x hx => ?_]
  have:=Jp (EA.1 hc).2 x hx
  obtain ⟨y,rfl,hy⟩:=Ad6 this
  exact M9 hm g1 hy
 have e2:Jo (AB m q) (CJ (Ax m es) (AB m q)) (AF (toI (Dn m es))) m=Jo (AB m q) (CJ (Ax m es) (AB m q)) (Ax m es) m:=W5 fun x hx=>M9 hm g1 hx
 have hb:=XR (n:=m) hm hq (ball:=Ax m es) (fun x _=>by have:=Kn m es (x:Int);omega) (fun x _=>Amo es (x:Int))
 constructor
 ·unfold Ge
  have h1':decide (1<=m)=true:=decide_eq_true h1
  simp only [n1,n2,h1',hk,Bool.and_self,if_true,Int.toNat_natCast,e1,e2]
  rfl
 ·unfold cgB
  have h1':decide (1<=m)=true:=decide_eq_true h1
  have h2:=Awm ((m:Int),es,v) q
  simp only [Int.toNat_natCast] at h2
  have h3:gmB m (cfG ((m:Int),es,v) q) (mvG ((m:Int),es,v) q)=true:=by
   unfold mvG cfG
   simp only [Int.toNat_natCast]
   exact hb
  simp only [n1,n2,h1',h2,h3,Bool.and_self]
theorem Al5 {g:Gr} (ho:okL g.2.1=true) (k:Int) (u:Unit):SK 0 (g,k,u)=some (Jl g k,()):=by
 unfold SK Bt Jl
 simp only [ho,if_true,Option.bind_some,OX]
 cases A9 g with
 | false=>simp only [ACn,if_false,Bool.false_and]
 | true=>
  cases decide (g.1>0) with
  | false=>simp only [ACn,if_false,if_true,Bool.and_false,Bool.false_and]
  | true=>simp only [if_true,Bool.true_and]
open Go.Proofs
theorem Sn {l:List (List Int)} {i:Nat} (h:i<l.length):at_ Af l i=l.getD i []:=by
 have e:at_ Af l i=l[i]:=Aw (e:=Af) h
 rw [e,ACy,ACz h]
 rfl
open Go.Proofs
def Ad7 (T:Tab) (b l:Int):Prop:=b<0 \/ ∃p:Nat,p<T.length/\b=(p:Int)/\l=Bf (at_ Af T p)
theorem PL (T:Tab):∀(k c:Nat) (b l:Int),c+k=T.length->Ad7 T b l->Ad7 T (Bx (T.drop c) (c:Int) b l).1 (Bx (T.drop c) (c:Int) b l).2:=by
 intro k
 induction k with
 | zero=>
  intro c b l h h2
  rw [ACu (by omega)]
  exact h2
 | succ k ih=>
  intro c b l h h2
  have hc:c<T.length:=by omega
  have ec:at_ Af T c=T[c]:=Aw (e:=Af) hc
  rw [ACv hc]
  unfold Bx
  have e1:((c:Int)+1)=((c+1:Nat):Int):=rfl
  rw [e1]
  split
  ·exact ih (c+1) (c:Int) (Bf T[c]) (by omega) (.inr ⟨c,hc,rfl,by rw [ec]⟩)
  ·exact ih (c+1) b l (by omega) h2
theorem Aag:∀{l:List Int} {m:Int},(∀x∈l,0<=x)->A6 (fun z=>z) l m=l.foldl (fun a b=>if a<b then b else a) m:=by
 intro l
 induction l with
 | nil=>intro m _;rfl
 | cons a l ih=>
  intro m h
  have ha:=h a (by simp)
  simp only [A6,List.foldl_cons]
  rw [if_neg (by omega)]
  exact ih fun x hx=>h x (by simp [hx])
theorem Aqz {l:List Int} (h:∀x∈l,0<=x) (h1:0<l.length):l.foldl (fun a b=>if a<b then b else a) (l.headD 0)=Bf l:=by
 unfold Bf
 rw [Aag h]
 cases l with
 | nil=>simp at h1
 | cons a l=>
  have ha:=h a (by simp)
  simp only [List.foldl_cons,List.headD_cons,Int.lt_irrefl,if_false]
  congr 1
  by_cases h0:(0:Int)<a
  ·rw [if_pos h0]
  ·rw [if_neg h0]
   omega
theorem Aea {l:List Int} (h:∀x∈l,-1<=x):(Cu l (-1)=true->Bf l<0)/\(Cu l (-1)=false->0<=Bf l /\ ∀x∈l,0<=x):=by
 unfold Cu Bf
 rcases B3 (fun z=>z) l 0 with ⟨⟨x,hx,h1⟩,h2⟩ | ⟨h1,h2,h3⟩
 ·refine ⟨fun _=>by omega,fun hh => ?_⟩
  have:=h x hx
  have e:x = -1:=by omega
  subst e
  have:(l.any fun z=>z == -1)=true:=List.any_eq_true.2 ⟨-1,hx,by simp⟩
  rw [hh] at this
  cases this
 ·refine ⟨fun hh => ?_,fun _=>⟨h2,fun x hx=>(h1 x hx).1⟩⟩
  obtain ⟨x,hx,h4⟩:=List.any_eq_true.1 hh
  have:=(h1 x hx).1
  have e:x = -1:=by simpa using h4
  have:0<=x:=this
  omega
theorem AAn (N:Nat) (y:Cg) (T:Tab) (hT:T.length<=1000) (hr:∀r∈T,1<=r.length/\r.length<=1000 /\ ∀x∈r,-1<=x):∀(k c f:Nat) (b l:Int),c+k=T.length->k<f ->
  Rg N f (y,b,l,T,(T.length:Int),(c:Int),())=some (.inl (y,(Bx (T.drop c) (c:Int) b l).1,(Bx (T.drop c) (c:Int) b l).2,())):=by
 intro k
 induction k with
 | zero=>
  intro c f b l h1 h2
  obtain ⟨f,rfl⟩:∃m,f=m+1:=⟨f-1,by omega⟩
  have e:c=T.length:=by omega
  subst e
  rw [ACu (ACr _)]
  show Ik _ _ _=_
  unfold Ik
  simp only [A4,ACn,if_false,Bx]
 | succ k ih=>
  intro c f b l h1 h2
  obtain ⟨f,rfl⟩:∃m,f=m+1:=⟨f-1,by omega⟩
  have hc:c<T.length:=by omega
  have ec:at_ Af T c=T[c]:=Aw (e:=Af) hc
  obtain ⟨r1,r2,r3⟩:=hr _ (ACw hc)
  obtain ⟨n1,n2⟩:=Aea r3
  have e1:((c:Int)+1)=((c+1:Nat):Int):=rfl
  have hok:okL T[c]=true:=Et (by omega)
  rw [ACv hc]
  show Ik _ _ _=_
  unfold Ik
  simp only [AD hc,if_true,Ag hc,Int.toNat_natCast,ec,Anw hok,Option.bind_some,Aq (show c<=100000 by omega),Bx]
  simp only [e1]
  cases hh:Cu T[c] (-1) with
  | true=>
   have hw:¬0<=Bf T[c]:=by have:=n1 hh;omega
   simp only [if_true,hw,if_false,false_and]
   exact ih (c+1) f b l (by omega) (by omega)
  | false=>
   obtain ⟨hw,hall⟩:=n2 hh
   have hmx:Lw (T[c],())=some (Bf T[c],()):=by
    unfold Lw
    have a1:decide (0<T[c].length)=true:=decide_eq_true (by omega)
    simp only [hok,a1,Bool.and_self,if_true]
    rw [Aqz hall (by omega)]
   simp only [ACn,if_false,hmx,Option.bind_some,hw,true_and]
   by_cases hb:b<0
   ·simp only [hb,decide_true,if_true,true_or]
    exact ih (c+1) f (c:Int) (Bf T[c]) (by omega) (by omega)
   ·by_cases hlt:Bf T[c]<l
    ·simp only [hb,hlt,decide_true,decide_false,ACn,if_true,if_false,or_true]
     exact ih (c+1) f (c:Int) (Bf T[c]) (by omega) (by omega)
    ·simp only [hb,hlt,decide_false,ACn,if_false,or_self]
     exact ih (c+1) f b l (by omega) (by omega)
theorem VS (d) (r) (h:F9 d=some r):∃N,VA N d=some r:=by
 obtain ⟨⟨⟨l,v⟩,cf,mv,T,u⟩,_⟩:=d
 unfold F9 at h
 split at h
 ·rename_i hc
  rw [ACo] at hc
  obtain ⟨hcg,hlow⟩:=hc
  have hlow:Tq T=true:=hlow
  obtain ⟨c1,c2,c3,c4⟩:=G8 hcg
  obtain ⟨g1,g2,g3,g4⟩:=Eb c3
  obtain ⟨p1,p2,p3,p4⟩:=Bl c1
  obtain ⟨t1,t2⟩:=Cd c4
  have h:=ACs h
  subst h
  have hr:∀r∈T,1<=r.length/\r.length<=1000 /\ ∀x∈r,-1<=x:=fun r hr=>by
   unfold rcB at c4
   simp only [ACo,decide_eq_true_eq,List.all_eq_true] at c4
   have h1:=c4.2 r hr
   refine ⟨by omega,by omega,fun x hx => ?_⟩
   unfold Tq at hlow
   exact of_decide_eq_true (List.all_eq_true.1 (List.all_eq_true.1 hlow r hr) x hx)
  have hl:=AAn 1010 ((l,v),cf,mv,T,u) T (by omega) hr T.length 0 1010 (-1) 0 (by omega) (by omega)
  have hI:=PL T T.length 0 (-1) 0 (by omega) (.inl (by omega))
  simp only [Int.natCast_zero,List.drop_zero] at hl hI
  refine ⟨1010,?_⟩
  unfold VA J6
  simp only [hl,Option.bind_some]
  rcases hI with hI | ⟨p,p1,p2,p3⟩
  ·simp only [hI,decide_true,if_true]
  ·have hp:p<cf.length:=by omega
   have hneg:¬((p:Int)<0):=by omega
   have hok:okL (at_ Af cf p)=true:=Et (by have:=(g3 p hp).1;omega)
   rw [Sn hp] at hok
   simp only [p2,hneg,decide_false,ACn,if_false,Ag hp,if_true,Int.toNat_natCast,Sn hp,DL,hok,Option.bind_some]
 ·cases h
theorem Xy {m n:Nat} {f:Nat->Nat->Int} (h:∀c x,c<m->x<n -> -1<=f c x):Tq (DK m n f)=true:=by
 unfold Tq DK
 simp only [List.all_map,List.all_eq_true,Function.comp,List.mem_range,decide_eq_true_eq]
 intro c hc x hx
 exact h c x hc hx
theorem Aq0 {m n:Nat} {T:Tab} (hT:rcB m n T=true) (h:Tq T=true) {c x:Nat} (hc:c<m) (hx:x<n) : -1<=AY T (c:Int) (x:Int):=by
 obtain ⟨t1,t2⟩:=Cd hT
 have hlt:c<T.length:=by omega
 have ec:at_ Af T c=T[c]:=Aw (e:=Af) hlt
 have hl:=t2 c hc
 rw [ec] at hl
 have ex:at_ I T[c] x=T[c][x]:=Aw (e:=I) (by omega)
 rw [<- VU hT hc hx,ec,ex]
 unfold Tq at h
 exact of_decide_eq_true (List.all_eq_true.1 (List.all_eq_true.1 h _ (ACw hlt)) _ (ACw (by omega)))
theorem Al4 {cf mv:List (List Int)} {ball:Int->List Int} {n:Nat}:∀(k:Nat) (t:Int) (T:Tab),0<=t->rcB cf.length n T=true->Tq T=true->Tq (Hk cf mv ball n k t T)=true:=by
 intro k
 induction k with
 | zero=>intro t T _ _ h;exact h
 | succ k ih=>
  intro t T ht h h2
  unfold Hk
  split
  ·refine ih _ _ (by omega) (IB _ _ _) (Xy fun c x hc hx => ?_)
   split
   ·omega
   ·exact Aq0 h h2 hc hx
  ·exact h2
theorem Axu (g:Gr) (k:Nat):Tq (tmG g k)=true:=Al4 _ _ _ (by omega) (IB _ _ _) (Xy fun c x _ _=>by split<;>omega)
open Go.Proofs
structure TimI (cf mv:List (List Int)) (ball:Int->List Int) (n:Nat) (T:Tab):Prop where
 caught:∀c x:Nat,c<cf.length->x<n->Cu (cf.getD c []) (x:Int)=true->AY T (c:Int) (x:Int)=0
 some:∀c x:Nat,c<cf.length->x<n->0<=AY T (c:Int) (x:Int)->Cu (cf.getD c []) (x:Int)=true\/(1<=AY T (c:Int) (x:Int) /\ ∃d∈mv.getD c [],0<=BU cf ball T d (x:Int))
open Go.Proofs
structure PlayI (m q:Nat) (es:List E) (v:Unit):Prop where
 hg:A9 ((m:Int),es,v)=true
 ho:okL es=true
 m1:1<=m
 m8:m<=8
 q3:q<=3
open Go.Proofs
structure RoundI (cf mv:List (List Int)) (ball:Int->List Int) (n:Nat) (t:Int) (T:Tab):Prop where
 pos:1<=t
 low:∀c x:Nat,c<cf.length->x<n -> -1<=AY T (c:Int) (x:Int)
 high:∀c x:Nat,c<cf.length->x<n->AY T (c:Int) (x:Int)<t
 none:∀c x:Nat,c<cf.length->x<n->AY T (c:Int) (x:Int)<0 -> ∀d∈mv.getD c [],0<=BU cf ball T d (x:Int)->t-1<=BU cf ball T d (x:Int)
 ex:∀c x:Nat,c<cf.length->x<n->1<=AY T (c:Int) (x:Int) -> ∃d∈mv.getD c [],0<=BU cf ball T d (x:Int)/\BU cf ball T d (x:Int)+1<=AY T (c:Int) (x:Int)
 least:∀c x:Nat,c<cf.length->x<n->1<=AY T (c:Int) (x:Int) -> ∀d∈mv.getD c [],0<=BU cf ball T d (x:Int)->AY T (c:Int) (x:Int)<=BU cf ball T d (x:Int)+1
 zero:∀c x:Nat,c<cf.length->x<n->(AY T (c:Int) (x:Int)=0↔Cu (cf.getD c []) (x:Int)=true)
structure TimesI (cf mv:List (List Int)) (ball:Int->List Int) (n:Nat) (T:Tab):Prop where
 low:∀c x:Nat,c<cf.length->x<n -> -1<=AY T (c:Int) (x:Int)
 none:∀c x:Nat,c<cf.length->x<n->AY T (c:Int) (x:Int)<0 -> ∀d∈mv.getD c [],BU cf ball T d (x:Int)<0
 ex:∀c x:Nat,c<cf.length->x<n->1<=AY T (c:Int) (x:Int) -> ∃d∈mv.getD c [],0<=BU cf ball T d (x:Int)/\BU cf ball T d (x:Int)+1<=AY T (c:Int) (x:Int)
 least:∀c x:Nat,c<cf.length->x<n->1<=AY T (c:Int) (x:Int) -> ∀d∈mv.getD c [],0<=BU cf ball T d (x:Int)->AY T (c:Int) (x:Int)<=BU cf ball T d (x:Int)+1
 zero:∀c x:Nat,c<cf.length->x<n->(AY T (c:Int) (x:Int)=0↔Cu (cf.getD c []) (x:Int)=true)
theorem Aul {m n:Nat} {T:Tab} (hT:rcB m n T=true) {c:Nat} (hc:c<m):T.getD c []=(List.range n).map fun (x:Nat)=>AY T (c:Int) (x:Int):=by
 obtain ⟨t1,t2⟩:=Cd hT
 rw [<- Aqo hT hc,Sn (by omega)]
theorem Ut {m n:Nat} {T:Tab} (hT:rcB m n T=true) {c:Nat} (hc:c<m):0<=Bf (T.getD c []) ↔ ∀x:Nat,x<n->0<=AY T (c:Int) (x:Int):=by
 rw [Aul hT hc]
 unfold Bf
 rcases B3 (fun z=>z) ((List.range n).map fun (x:Nat)=>AY T (c:Int) (x:Int)) 0 with ⟨⟨z,hz,h1⟩,h2⟩ | ⟨h1,h2,_⟩
 ·constructor
  ·intro h;omega
  ·intro h
   obtain ⟨x,hx,rfl⟩:=List.mem_map.1 hz
   have:=h x (List.mem_range.1 hx)
   omega
 ·refine ⟨fun _ x hx => ?_,fun _=>h2⟩
  exact (h1 _ (List.mem_map.2 ⟨x,List.mem_range.2 hx,rfl⟩)).1
theorem Au7 {m n:Nat} {T:Tab} (hT:rcB m n T=true):S8 T=true ↔ ∃c,c<m /\ ∀x:Nat,x<n->0<=AY T (c:Int) (x:Int):=by
 obtain ⟨t1,t2⟩:=Cd hT
 unfold S8
 rw [List.any_eq_true]
 constructor
 ·rintro ⟨r,hr,h⟩
  obtain ⟨c,hc,rfl⟩:=List.getElem_of_mem hr
  refine ⟨c,by omega,(Ut hT (by omega)).1 ?_⟩
  rw [ACy,ACz hc]
  exact of_decide_eq_true h
 ·rintro ⟨c,hc,h⟩
  have hlt:c<T.length:=by omega
  refine ⟨T[c],ACw hlt,decide_eq_true ?_⟩
  have:=(Ut hT hc).2 h
  rw [ACy,ACz hlt] at this
  exact this
open Go.Proofs
theorem RA (n:Nat):AB n 1=(List.range n).map fun (i:Nat)=>[(i:Int)]:=by
 show ([[]]:List (List Int)).flatMap _=_
 simp only [List.flatMap_cons,List.flatMap_nil,List.append_nil,Me,List.getLastD_nil,Int.toNat_zero,Nat.sub_zero,List.map_map,List.range_eq_range']
 rfl
theorem C1 (n:Nat):(AB n 1).length=n:=by rw [RA];simp
theorem F0 {n c:Nat} (hc:c<n):(AB n 1).getD c []=[(c:Int)]:=by
 rw [RA,ACy]
 simp [hc]
theorem TP {n y:Nat} (hy:y<n):Gg (AB n 1) [(y:Int)]=(y:Int):=by
 have hm:[(y:Int)]∈AB n 1:=by
  rw [RA]
  exact List.mem_map.2 ⟨y,List.mem_range.2 hy,rfl⟩
 obtain ⟨i,hi,h1,h2⟩:=Rt hm
 rw [C1] at hi
 rw [F0 hi] at h2
 rw [h1]
 simpa using h2
theorem T4 (y:Int):CE [y]=[y]:=List.perm_singleton.1 (RE [y])
theorem T5 {ball:Int->List Int} {c:Int} {m:List Int}:m∈DD ball [c] ↔ ∃y∈ball c,m=[y]:=by
 unfold DD
 rw [X7,(Gt _).mem_iff]
 simp only [chL,List.flatMap_cons,List.flatMap_nil,List.append_nil,List.nil_append,List.map_map,List.mem_map,Function.comp]
 constructor
 ·rintro ⟨y,hy,rfl⟩
  exact ⟨y,hy,T4 y⟩
 ·rintro ⟨y,hy,rfl⟩
  exact ⟨y,hy,T4 y⟩
theorem Aqx {n:Nat} {ball:Int->List Int} (hb:DE n ball) {c:Nat} (hc:c<n) {d:Int}:d∈(CJ ball (AB n 1)).getD c []↔d∈ball (c:Int):=by
 have hl:c<(AB n 1).length:=by rw [C1];exact hc
 have e:(CJ ball (AB n 1)).getD c []=(DD ball [(c:Int)]).map (Gg (AB n 1)):=by
  unfold CJ
  have hg:=F0 hc
  rw [ACy,ACz hl,Option.getD_some] at hg
  rw [ACy,List.getElem?_map,ACz hl,Option.map_some,Option.getD_some,hg]
 rw [e,List.mem_map]
 constructor
 ·rintro ⟨m,hm,rfl⟩
  obtain ⟨y,hy,rfl⟩:=T5.1 hm
  obtain ⟨y',h1,rfl⟩:=hb c hc y hy
  rw [TP h1]
  exact hy
 ·intro hd
  obtain ⟨y',h1,rfl⟩:=hb c hc d hd
  exact ⟨[(y':Int)],T5.2 ⟨_,hd,rfl⟩,TP h1⟩
theorem T9 {n:Nat} {ball:Int->List Int} {T:Tab} {d:Nat} (hd:d<n) (x:Int):BU (AB n 1) ball T (d:Int) x=AE ball T (d:Int) x:=by
 unfold BU AE
 rw [Int.toNat_natCast,F0 hd]
 by_cases e:(d:Int)=x
 ·rw [if_pos (show Cu [(d:Int)] x=true by simp [Cu,e]),if_pos e]
 ·rw [if_neg (show ¬Cu [(d:Int)] x=true by simp [Cu,e]),if_neg e]
theorem Wg {n:Nat} {ball:Int->List Int} (hb:DE n ball) {f:Nat->Nat->Int} {c x:Nat} (hc:c<n) (hx:x<n):HO (AB n 1) (CJ ball (AB n 1)) ball (AM n f) c x=BT n ball f c x:=by
 unfold HO BT
 rw [Bj f hc hx]
 congr 1
 rw [Bool.eq_iff_iff,List.any_eq_true,List.any_eq_true]
 constructor
 ·rintro ⟨d,h1,h2⟩
  have h1:=(Aqx hb hc).1 h1
  obtain ⟨y,hy,rfl⟩:=hb c hc d h1
  rw [T9 hy] at h2
  exact ⟨_,h1,h2⟩
 ·rintro ⟨d,h1,h2⟩
  obtain ⟨y,hy,rfl⟩:=hb c hc d h1
  rw [<- T9 hy] at h2
  exact ⟨_,(Aqx hb hc).2 h1,h2⟩
theorem Apa {n:Nat} {ball:Int->List Int} (hb:DE n ball):∀(k k2:Nat) (t:Int) (f:Nat->Nat->Int),VL n f<k->VL n f<k2->0<=t ->
  Hk (AB n 1) (CJ ball (AB n 1)) ball n k t (AM n f)=AM n (CT n ball k2 t f):=by
 intro k
 induction k with
 | zero=>intro k2 t f h;omega
 | succ k ih=>
  intro k2 t f h1 h2 ht
  obtain ⟨k2,rfl⟩:∃m,k2=m+1:=⟨k2-1,by omega⟩
  unfold Hk CT
  have ea:PX (AB n 1) (CJ ball (AB n 1)) ball n (AM n f)=KQ n (BT n ball f):=by
   unfold PX KQ
   rw [C1,Bool.eq_iff_iff,List.any_eq_true,List.any_eq_true]
   constructor
   ·rintro ⟨c,hc,h⟩
    obtain ⟨x,hx,h⟩:=List.any_eq_true.1 h
    exact ⟨c,hc,List.any_eq_true.2 ⟨x,hx,by rw [<- Wg hb (List.mem_range.1 hc) (List.mem_range.1 hx)];exact h⟩⟩
   ·rintro ⟨c,hc,h⟩
    obtain ⟨x,hx,h⟩:=List.any_eq_true.1 h
    exact ⟨c,hc,List.any_eq_true.2 ⟨x,hx,by rw [Wg hb (List.mem_range.1 hc) (List.mem_range.1 hx)];exact h⟩⟩
  rw [ea]
  by_cases h:KQ n (BT n ball f)=true
  ·rw [if_pos h,if_pos h]
   have es:Jh (AB n 1) (CJ ball (AB n 1)) ball n t (AM n f)=AM n (B4 n ball t f):=by
    unfold Jh
    rw [C1]
    refine Dv fun c x hc hx => ?_
    unfold B4
    rw [Wg hb hc hx,Bj f hc hx]
   rw [es]
   have hs:=JV (ball:=ball) ht h
   exact ih k2 (t+1) _ (by omega) (by omega) (by omega)
  ·rw [if_neg h,if_neg h]
theorem Apr {n:Nat} (hn:n<=8) (es:List E) (v:Unit):tmG ((n:Int),es,v) 1=AS n (Ax n es):=by
 unfold tmG cfG mvG cfG Jo AS
 simp only [Int.toNat_natCast]
 have es':M5 (AB n 1) n=AM n A0:=by
  unfold M5
  rw [C1]
  refine Dv fun c x hc hx => ?_
  rw [F0 hc]
  unfold A0 Cu
  by_cases e:c=x
  ·simp [e]
  ·have e2:¬(c:Int)=(x:Int):=by omega
   simp [e,e2]
 rw [es']
 have h1:=Q6 n A0
 have h2:n*n<=64:=by
  have:=Nat.mul_le_mul hn hn
  omega
 exact Apa (Fe n es) 1000 65 1 A0 (by omega) (by omega) (by omega)
open Go.Proofs
theorem Ajk (d) (r) (h:Iw d=some r):∃N,FQ N d=some r:=by
 obtain ⟨⟨n,es,v⟩,a,b,u⟩:=d
 unfold Iw at h
 split at h
 ·rename_i hl
  have hl:es.length<=lim:=of_decide_eq_true hl
  have hmx:=Dj hl
  cases h
  have key:∀k i f,i+k=es.length->k<f->E1 (es.length+1) f (a,b,(n,es,v),(i:Int),())=some (if BH (es.drop i) a b=true then .inl (true,()) else .inr (.inl ())):=by
   intro k
   induction k with
   | zero=>
    intro i f h1 h2
    obtain ⟨f,rfl⟩:∃m,f=m+1:=⟨f-1,by omega⟩
    have hlt:decide ((i:Int)<(es.length:Int))=false:=decide_eq_false (by omega)
    rw [ACu (by omega)]
    show C7 _ _ _=_
    unfold C7
    simp only [hlt,ACn,if_false,BH,List.any_nil]
   | succ k ih=>
    intro i f h1 h2
    obtain ⟨f,rfl⟩:∃m,f=m+1:=⟨f-1,by omega⟩
    have hi:i<es.length:=by omega
    have ei:at_ Aj es i=es[i]:=Aw (e:=Aj) hi
    rw [ACv hi]
    have hc:=ih (i+1) f (by omega) (by omega)
    show C7 _ _ _=_
    unfold C7
    generalize es[i]=e at ei |-
    obtain ⟨p,q,w⟩:=e
    have q1:eqB Aj ((p,q,w):E) ((a,b,()):E)=(p==a&&q==b):=by
     rw [Awo,Bool.eq_iff_iff]
     simp
    have q2:eqB Aj ((p,q,w):E) ((b,a,()):E)=(p==b&&q==a):=by
     rw [Awo,Bool.eq_iff_iff]
     simp
    simp only [AD hi,if_true,Ag hi,Int.toNat_natCast,ei,q1,q2,BK hi hmx,BH,List.any_cons]
    unfold BH at hc
    by_cases h1:(p==a&&q==b)=true
    ·simp only [h1,if_true,Bool.true_or]
    ·by_cases h2:(p==b&&q==a)=true
     ·simp only [h1,h2,if_true,ACn,if_false,Bool.or_true,Bool.true_or]
     ·simp only [h1,h2,if_false,Bool.false_or,Bool.not_eq_true] at h1 h2 |-
      simp only [h1,h2,ACn,if_false,Bool.false_or]
      exact hc
  refine ⟨es.length+1,?_⟩
  unfold FQ
  have hk:=key es.length 0 (es.length+1) (by omega) (by omega)
  simp only [Int.natCast_zero,List.drop_zero] at hk
  cases hab:(a==b) with
  | true=>simp only [hab,if_true,Bool.true_or]
  | false=>
   simp only [hab,ACn,if_false,hk,Option.bind_some,Bool.false_or]
   cases BH es a b<;>simp
 ·cases h
theorem Ane (N:Nat) (T:Tab) (c:Nat) (hc:c<T.length) (hlen:(at_ Af T c).length=T.length) (h100:T.length<=100):∀k r f (m:Int),r+k=T.length->k<f->0<=m ->
  ∃o,QF N f (T,(c:Int),m,(r:Int),())=some o/\((o=.inl (-1,())/\A6 (fun z=>z) ((at_ Af T c).drop r) m = -1)\/(o=.inr (.inl (A6 (fun z=>z) ((at_ Af T c).drop r) m,())))):=by
 intro k
 induction k with
 | zero=>
  intro r f m h1 h2 h3
  obtain ⟨f,rfl⟩:∃m,f=m+1:=⟨f-1,by omega⟩
  have hlt:decide ((r:Int)<(T.length:Int))=false:=decide_eq_false (by omega)
  rw [ACu (by omega)]
  refine ⟨.inr (.inl (m,())),?_,.inr rfl⟩
  show EW _ _ _=_
  unfold EW
  simp only [hlt,ACn,if_false]
 | succ k ih=>
  intro r f m h1 h2 h3
  obtain ⟨f,rfl⟩:∃m,f=m+1:=⟨f-1,by omega⟩
  have hr:r<T.length:=by omega
  have hr2:r<(at_ Af T c).length:=by omega
  have er:at_ I (at_ Af T c) r=(at_ Af T c)[r]:=Aw (e:=I) hr2
  rw [ACv hr2]
  simp only [A6]
  by_cases hn:(at_ Af T c)[r]<0
  ·refine ⟨.inl (-1,()),?_,.inl ⟨rfl,by rw [if_pos hn]⟩⟩
   show EW _ _ _=_
   unfold EW
   simp only [AD hr,if_true,Ag hc,Ag hr2,Int.toNat_natCast,er,hn,decide_true]
  ·rw [if_neg hn]
   obtain ⟨o,e1,e2⟩:=ih (r+1) f (if m<(at_ Af T c)[r] then (at_ Af T c)[r] else m) (by omega) (by omega) (by split<;>omega)
   refine ⟨o,?_,e2⟩
   rw [<- e1]
   show EW _ _ _=_
   unfold EW
   simp only [AD hr,if_true,Ag hc,Ag hr2,Int.toNat_natCast,er,hn,decide_false,ACn,if_false,Aed,Aq (show r<=100000 by omega)]
theorem YK (d) (r) (h:Dd d=some r):∃N,V9 N d=some r:=by
 obtain ⟨T,c,u⟩:=d
 unfold Dd at h
 split at h
 ·rename_i hh
  simp only [ACo,decide_eq_true_eq] at hh
  obtain ⟨⟨hq,h100⟩,hc⟩:=hh
  have hc:=AI.1 hc
  obtain ⟨c,rfl⟩:=En hc.1
  have hcl:c<T.length:=by omega
  obtain ⟨hsq,hbd⟩:=Pm hq
  obtain ⟨t1,t2⟩:=Dw hsq
  have ec:at_ Af T c=T[c]:=Aw (e:=Af) hcl
  have hT:T.getD c []=at_ Af T c:=by rw [ACy,ACz hcl,Option.getD_some,ec]
  cases h
  obtain ⟨o,e1,e2⟩:=Ane 101 T c hcl (t2 c hcl) h100 T.length 0 101 0 (by omega) (by omega) (by omega)
  simp only [Int.natCast_zero,List.drop_zero] at e1 e2
  refine ⟨101,?_⟩
  unfold V9 Bf
  simp only [e1,Option.bind_some,Int.toNat_natCast,hT]
  rcases e2 with ⟨rfl,e2⟩ | rfl
  ·rw [e2]
  ·rfl
 ·cases h
theorem ABd (N:Nat) (T:Tab) (hT:T.length<=1000) (hr:∀r∈T,1<=r.length/\r.length<=1000 /\ ∀x∈r,-1<=x):∀(k c f:Nat) (b l:Int),c+k=T.length->k<f ->
  QC N f ((Ds (b,l)).1,(Ds (b,l)).2.1,(Ds (b,l)).2.2.1,T,(T.length:Int),(c:Int),())=some (.inl (Ds (Bx (T.drop c) (c:Int) b l))):=by
 intro k
 induction k with
 | zero=>
  intro c f b l h1 h2
  obtain ⟨f,rfl⟩:∃m,f=m+1:=⟨f-1,by omega⟩
  have e:c=T.length:=by omega
  subst e
  rw [ACu (ACr _)]
  show HT _ _ _=_
  unfold HT
  simp only [A4,ACn,if_false,Bx]
 | succ k ih=>
  intro c f b l h1 h2
  obtain ⟨f,rfl⟩:∃m,f=m+1:=⟨f-1,by omega⟩
  have hc:c<T.length:=by omega
  have ec:at_ Af T c=T[c]:=Aw (e:=Af) hc
  obtain ⟨r1,r2,r3⟩:=hr _ (ACw hc)
  obtain ⟨n1,n2⟩:=Aea r3
  have e1:((c:Int)+1)=((c+1:Nat):Int):=rfl
  have hok:okL T[c]=true:=Et (by omega)
  have hc0:Ds ((c:Int),Bf T[c])=((c:Int),Bf T[c],true,()):=by unfold Ds;rw [if_neg (by simp only;omega)]
  rw [ACv hc]
  show HT _ _ _=_
  unfold HT
  simp only [AD hc,if_true,Ag hc,Int.toNat_natCast,ec,Anw hok,Option.bind_some,Aq (show c<=100000 by omega),Bx]
  simp only [e1]
  cases hh:Cu T[c] (-1) with
  | true=>
   have hw:¬0<=Bf T[c]:=by have:=n1 hh;omega
   simp only [if_true,hw,if_false,false_and]
   exact ih (c+1) f b l (by omega) (by omega)
  | false=>
   obtain ⟨hw,hall⟩:=n2 hh
   have hmx:Lw (T[c],())=some (Bf T[c],()):=by
    unfold Lw
    have a1:decide (0<T[c].length)=true:=decide_eq_true (by omega)
    simp only [hok,a1,Bool.and_self,if_true]
    rw [Aqz hall (by omega)]
   have hi:=ih (c+1) f (c:Int) (Bf T[c]) (by omega) (by omega)
   rw [hc0] at hi
   simp only [ACn,if_false,hmx,Option.bind_some,hw,true_and]
   by_cases hb:b<0
   ·have ho:Ds (b,l)=(0,0,false,()):=by unfold Ds;rw [if_pos hb]
    simp only [ho,hb,Bool.not_false,if_true,true_or]
    exact hi
   ·have ho:Ds (b,l)=(b,l,true,()):=by unfold Ds;rw [if_neg hb]
    have hi2:=ih (c+1) f b l (by omega) (by omega)
    rw [ho] at hi2
    simp only [ho,Bool.not_true,ACn,if_false]
    by_cases hlt:Bf T[c]<l
    ·simp only [hb,hlt,decide_true,if_true,or_true]
     exact hi
    ·simp only [hb,hlt,decide_false,ACn,if_false,or_self]
     exact hi2
theorem XS (d) (r) (h:Hh d=some r):∃N,VY N d=some r:=by
 obtain ⟨⟨l,v⟩,u⟩:=d
 unfold Hh at h
 split at h
 ·rename_i hn
  have hn:CA l=true:=hn
  obtain ⟨p1,p2,p3,p4⟩:=Bl hn
  cases h
  have hsq:sqL l.length (AS l.length (AF l))=true:=Qv _ _
  obtain ⟨t1,t2⟩:=Dw hsq
  have hr:∀r∈AS l.length (AF l),1<=r.length/\r.length<=1000 /\ ∀x∈r,-1<=x:=fun r hr=>by
   obtain ⟨i,hi,rfl⟩:=List.getElem_of_mem hr
   have hil:i<l.length:=by omega
   have ei:at_ Af (AS l.length (AF l)) i=(AS l.length (AF l))[i]:=Aw (e:=Af) hi
   have hlen:=t2 i hil
   rw [ei] at hlen
   refine ⟨by omega,by omega,fun x hx => ?_⟩
   obtain ⟨j,hj,rfl⟩:=List.getElem_of_mem hx
   have hb:=(Pm (JE (LG hn)).1).2 i j hil (by omega)
   rw [<- VE hsq hil (show j<l.length by omega),ei] at hb
   rw [Aw (e:=I) hj] at hb
   exact hb.1
  have hl:=ABd 1010 (AS l.length (AF l)) (by omega) hr (AS l.length (AF l)).length 0 1010 (-1) 0 (by omega) (by omega)
  simp only [Int.natCast_zero,List.drop_zero] at hl
  have ho:Ds ((-1:Int),(0:Int))=(0,0,false,()):=rfl
  rw [ho] at hl
  refine ⟨1010,?_⟩
  unfold VY Gf
  simp only [hn,if_true,Option.bind_some,hl]
 ·cases h
theorem AA7 (N:Nat) (y:Gr) (T:Tab) (hy:y.1=(T.length:Int)) (hq:sqB T.length T=true) (h100:T.length<=100):∀(k c f:Nat) (b l:Int),c+k=T.length->k<f->Ad7 T b l -> -1<=b ->
  Q2 N f (y,T,b,(c:Int),())=some (.inl (T,(Bx (T.drop c) (c:Int) b l).1,())):=by
 have hst:∀c:Nat,c<T.length->Dd (T,(c:Int),())=some (Bf (at_ Af T c),()):=fun c hc=>by
  unfold Dd
  have h1:inB 0 ((T.length:Int)-1) (c:Int)=true:=AI.2 (by omega)
  have ec:at_ Af T c=T[c]:=Aw (e:=Af) hc
  simp only [hq,h1,h100,decide_true,Bool.and_self,if_true,Int.toNat_natCast,ACy,ACz hc,Option.getD_some,ec]
 intro k
 induction k with
 | zero=>
  intro c f b l h1 h2 h3 h4
  obtain ⟨f,rfl⟩:∃m,f=m+1:=⟨f-1,by omega⟩
  have e:c=T.length:=by omega
  subst e
  rw [ACu (ACr _)]
  show Ie _ _ _=_
  unfold Ie
  simp only [hy,A4,ACn,if_false,Bx]
 | succ k ih=>
  intro c f b l h1 h2 h3 h4
  obtain ⟨f,rfl⟩:∃m,f=m+1:=⟨f-1,by omega⟩
  have hc:c<T.length:=by omega
  have ec:at_ Af T c=T[c]:=Aw (e:=Af) hc
  have hI:Ad7 T (c:Int) (Bf T[c]):=.inr ⟨c,hc,rfl,by rw [ec]⟩
  have e1:((c:Int)+1)=((c+1:Nat):Int):=rfl
  have hs:=hst c hc
  rw [ec] at hs
  rw [ACv hc]
  show Ie _ _ _=_
  unfold Ie
  simp only [hy,AD hc,if_true,hs,Option.bind_some,Aq (show c<=100000 by omega),Bx]
  simp only [e1]
  by_cases hw:0<=Bf T[c]
  ·have hw':decide (Bf T[c]>=0)=true:=decide_eq_true hw
   by_cases hb:b<0
   ·simp only [hw',hw,hb,decide_true,if_true,true_or,and_self]
    exact ih (c+1) f (c:Int) (Bf T[c]) (by omega) (by omega) hI (by omega)
   ·rcases h3 with h3 | ⟨p,p1,rfl,rfl⟩
    ·exact absurd h3 hb
    ·simp only [hw',hw,hb,decide_true,decide_false,ACn,if_true,if_false,hst p p1,Option.bind_some,false_or,true_and]
     by_cases hlt:Bf T[c]<Bf (at_ Af T p)
     ·simp only [hlt,decide_true,if_true]
      exact ih (c+1) f (c:Int) (Bf T[c]) (by omega) (by omega) hI (by omega)
     ·simp only [hlt,decide_false,ACn,if_false]
      exact ih (c+1) f (p:Int) (Bf (at_ Af T p)) (by omega) (by omega) (.inr ⟨p,p1,rfl,rfl⟩) (by omega)
  ·have hw':decide (Bf T[c]>=0)=false:=decide_eq_false hw
   simp only [hw',hw,decide_false,ACn,if_false,false_and]
   exact ih (c+1) f b l (by omega) (by omega) h3 h4
theorem Sp (d) (r) (h:H6 d=some r):∃N,Wa N d=some r:=by
 obtain ⟨⟨n,es,v⟩,u⟩:=d
 unfold H6 at h
 split at h
 ·rename_i ho
  have ho:okL es=true:=ho
  cases h
  refine ⟨200,?_⟩
  unfold Wa Fl Bt Eo
  simp only [ho,if_true,Option.bind_some]
  cases hg:A9 (n,es,v) with
  | false=>simp only [ACn,if_false,Bool.not_false,if_true,Option.bind_some]
  | true=>
   obtain ⟨n0,n8⟩:=DG hg
   obtain ⟨a,rfl⟩:=En n0
   by_cases ha:(a:Int)>0
   ·have hT:Ab8 ((a:Int),es,v)=AS a (Ax a es):=rfl
    have hq:=(JE (Fe a es)).1
    obtain ⟨hsq,_⟩:=Pm hq
    obtain ⟨t1,t2⟩:=Dw hsq
    rw [<- t1] at hq
    have hl:=AA7 200 ((a:Int),es,v) (AS a (Ax a es)) (by simp only;omega) (by rw [t1] at hq |-;exact hq) (by omega) (AS a (Ax a es)).length 0 200 (-1) 0 (by omega) (by omega) (.inl (by omega)) (by omega)
    have hI:=PL (AS a (Ax a es)) (AS a (Ax a es)).length 0 (-1) 0 (by omega) (.inl (by omega))
    simp only [Int.natCast_zero,List.drop_zero] at hl hI
    simp only [if_true,ha,decide_true,Option.bind_some,Bool.not_true,ACn,if_false,HP,De hg ho,Int.toNat_natCast,hl,hT,Ds]
    rcases hI with hI | ⟨p,p1,p2,p3⟩
    ·simp only [hI,decide_true,if_true]
    ·have hneg:¬((p:Int)<0):=by omega
     have hs:Dd (AS a (Ax a es),(p:Int),())=some (Bf (at_ Af (AS a (Ax a es)) p),()):=by
      unfold Dd
      have h1:inB 0 (((AS a (Ax a es)).length:Int)-1) (p:Int)=true:=AI.2 (by omega)
      have h100:decide ((AS a (Ax a es)).length<=100)=true:=decide_eq_true (by omega)
      have ec:at_ Af (AS a (Ax a es)) p=(AS a (Ax a es))[p]:=Aw (e:=Af) p1
      have hq2:sqB (AS a (Ax a es)).length (AS a (Ax a es))=true:=by rw [t1] at hq |-;exact hq
      simp only [hq2,h1,h100,Bool.and_self,if_true,Int.toNat_natCast,ACy,ACz p1,Option.getD_some,ec]
     simp only [p2,p3,hneg,decide_false,ACn,if_false,hs,Option.bind_some]
   ·have ha0:a=0:=by omega
    subst ha0
    have hT:Ab8 (((0:Nat):Int),es,v)=[]:=rfl
    have hb:Bx [] 0 (-1) 0=(-1,0):=rfl
    simp only [if_true,ha,decide_false,Option.bind_some,Bool.not_false,hT,hb,Ds]
    rfl
 ·cases h
open Go.Proofs
theorem XY:∀(T:Tab) (i b l:Int),0<=i->(0<=(Bx T i b l).1↔0<=b\/S8 T=true):=by
 intro T
 induction T with
 | nil=>intro i b l _;simp [Bx,S8]
 | cons r T ih=>
  intro i b l hi
  have hw:S8 (r::T)=(decide (0<=Bf r)||S8 T):=rfl
  rw [hw,Bool.or_eq_true,decide_eq_true_eq]
  unfold Bx
  split
  ·rename_i hh
   rw [ih _ _ _ (by omega)]
   constructor
   ·intro _;exact .inr (.inl hh.1)
   ·intro _;exact .inl hi
  ·rename_i hh
   rw [ih _ _ _ (by omega)]
   constructor
   ·rintro (h | h)
    ·exact .inl h
    ·exact .inr (.inr h)
   ·rintro (h | h | h)
    ·exact .inl h
    ·exact .inl (Int.not_lt.1 fun hb=>hh ⟨h,.inl hb⟩)
    ·exact .inr h
theorem Xl (cf:List (List Int)) (T:Tab):(J6 cf (Bx T 0 (-1) 0)).2.2.1=S8 T:=by
 have h:=XY T 0 (-1) 0 (by omega)
 unfold J6
 split
 ·rename_i hn
  cases hw:S8 T with
  | false=>rfl
  | true=>
   have:=h.2 (.inr hw)
   omega
 ·rename_i hn
  rcases h.1 (by omega) with h2 | h2
  ·omega
  ·exact h2.symm
theorem Axt {n:Int} {es:List E} {v:Unit} (ho:okL es=true) (k:Int) (u:Unit):O9 0 ((n,es,v),k,u)=some (Axd (n,es,v) k):=by
 unfold O9 Axd
 simp only [Al5 (g:=(n,es,v)) ho]
 cases h:Jl (n,es,v) k with
 | false=>simp only [Option.bind_some,Bool.not_false,if_true,ACn,if_false]
 | true=>
  obtain ⟨hg,m,q,rfl,rfl,m1,m8,q1,q3⟩:=Xd h
  obtain ⟨h1,h2⟩:=Alc (v:=v) hg ho m1 q3 ()
  have h3:F9 (((toI (Dn m es),()),cfG ((m:Int),es,v) q,mvG ((m:Int),es,v) q,tmG ((m:Int),es,v) q,()),())=some (J6 (cfG ((m:Int),es,v) q) (Bx (tmG ((m:Int),es,v) q) 0 (-1) 0)):=by
   unfold F9
   simp only [h2,Axu,Bool.and_self,if_true]
  simp only [Option.bind_some,Bool.not_true,ACn,if_false,GG hg ho,h1,h3,if_true,Int.toNat_natCast,Xl]
open Go.Proofs
theorem AAs {e:Kd} {l:List e.den} {i:Nat} (h:i<l.length):at_ e l i=l[i]:=Aw h
structure Inv3 (p n:Nat) (ball:Nat->Int->List Int) (f:Nat->Nat->Nat->Int):Prop where
 low:∀r c q,-1<=f r c q
 home:∀r c,f r c c=0
 away:∀r c q,c≠q->f r c q≠0
 why:∀r c q,r<p->c<n->q<n->0<=f r c q->c=q \/ ∃b∈ball r (c:Int),0<=AE (ball r) (AM n (f ((r+1) % p))) b (q:Int)
theorem Inv3.start (p n:Nat) (ball:Nat->Int->List Int):Inv3 p n ball GZ:=by
 refine ⟨fun r c q => ?_,fun r c => ?_,fun r c q h => ?_,fun r c q _ _ _ h => ?_⟩
 ·unfold GZ A0;split<;>omega
 ·unfold GZ A0;simp
 ·unfold GZ A0;rw [if_neg h];omega
 ·unfold GZ A0 at h
  by_cases e:c=q
  ·exact .inl e
  ·rw [if_neg e] at h;omega
def Wi (p n:Nat) (ball:Nat->Int->List Int):Prop := ∀r,r<p->DE n (ball r)
theorem Ze {n:Nat} {ball:Int->List Int} (hb:DE n ball) {f g:Nat->Nat->Int} (h:∀c q,0<=f c q->0<=g c q) {b q:Nat} (hbn:b<n) (hq:q<n) (h0:0<=AE ball (AM n f) (b:Int) (q:Int)):0<=AE ball (AM n g) (b:Int) (q:Int):=by
 unfold AE at h0 |-
 by_cases e:(b:Int)=(q:Int)
 ·rw [if_pos e];exact Int.le_refl _
 ·rw [if_neg e] at h0 |-
  rcases B3 (AY (AM n f) (b:Int)) (ball (q:Int)) 0 with ⟨_,h1⟩ | ⟨h1,_,_⟩
  ·omega
  ·rcases B3 (AY (AM n g) (b:Int)) (ball (q:Int)) 0 with ⟨⟨x,hx,h2⟩,_⟩ | ⟨_,h2,_⟩
   ·exfalso
    obtain ⟨y,hy,rfl⟩:=hb q hq x hx
    have:=(h1 _ hx).1
    rw [Bj _ hbn hy] at this h2
    have:=h _ _ this
    omega
   ·exact h2
theorem Inv3.next {p n:Nat} {ball:Nat->Int->List Int} (hb:Wi p n ball) {t:Int} (ht:1<=t) {f:Nat->Nat->Nat->Int} (hI:Inv3 p n ball f):Inv3 p n ball (Fj p n ball t f):=by
 have hkeep:∀r c q,0<=f r c q->Fj p n ball t f r c q=f r c q:=fun r c q h=>by
  unfold Fj P9
  have:decide (f r c q<0)=false:=by simp;omega
  simp [this]
 have hge:∀r c q,0<=f r c q->0<=Fj p n ball t f r c q:=fun r c q h=>by rw [hkeep r c q h];exact h
 refine ⟨fun r c q => ?_,fun r c => ?_,fun r c q h => ?_,fun r c q hr hc hq h => ?_⟩
 ·unfold Fj;split
  ·omega
  ·exact hI.low r c q
 ·rw [hkeep r c c (by rw [hI.home];exact Int.le_refl _)];exact hI.home r c
 ·unfold Fj;split
  ·omega
  ·exact hI.away r c q h
 ·have key:(∃b∈ball r (c:Int),0<=AE (ball r) (AM n (f ((r+1) % p))) b (q:Int)) -> ∃b∈ball r (c:Int),0<=AE (ball r) (AM n (Fj p n ball t f ((r+1) % p))) b (q:Int):=by
   rintro ⟨b,hbm,h1⟩
   obtain ⟨y,hy,rfl⟩:=hb r hr c hc b hbm
   exact ⟨_,hbm,Ze (hb r hr) (hge _) hy hq h1⟩
  by_cases hf:0<=f r c q
  ·exact (hI.why r c q hr hc hq hf).imp _root_.id key
  ·right
   have hcan:P9 p n ball f r c q=true:=by
    cases hcan:P9 p n ball f r c q with
    | true=>rfl
    | false=>unfold Fj at h;rw [if_neg (by rw [hcan];simp)] at h;exact absurd h hf
   unfold P9 at hcan
   simp only [ACo,List.any_eq_true,decide_eq_true_eq] at hcan
   exact key hcan.2
open Go.Proofs
structure TT (nets:List Nt) (p n:Nat):Prop where
 ok:AAr n nets=true
 len:nets.length=p
 n8:n<=8
open Go.Proofs
theorem Avb (d) (r) (h:Lw d=some r):∃N,UW N d=some r:=by
 obtain ⟨l,_⟩:=d
 unfold Lw at h
 split at h
 ·rename_i hc
  simp only [ACo,decide_eq_true_eq] at hc
  obtain ⟨hl,h0⟩:=hc
  have h0:0<l.length:=h0
  have hmx:=Dj (GT hl)
  have h:=ACs h
  subst h
  have key:∀(k i f:Nat) (m:Int),i+k=l.length->k<f->KJ (l.length+1) f (l,m,(i:Int),())=some (.inl ((l.drop i).foldl (fun a b=>if a<b then b else a) m,())):=by
   intro k
   induction k with
   | zero=>
    intro i f m h1 h2
    obtain ⟨f,rfl⟩:∃z,f=z+1:=⟨f-1,by omega⟩
    have e:i=l.length:=by omega
    subst e
    rw [ACu (ACr _)]
    simp [KJ,Kb]
   | succ k ih=>
    intro i f m h1 h2
    obtain ⟨f,rfl⟩:∃z,f=z+1:=⟨f-1,by omega⟩
    have hi:i<l.length:=by omega
    show Kb (l.length+1) (KJ (l.length+1) f) _=_
    unfold Kb
    rw [ACv hi]
    simp only [AD hi,if_true,Ag hi,Int.toNat_natCast,AAs (e:=I) hi,BK hi hmx,List.foldl_cons]
    exact ih (i+1) f _ (by omega) (by omega)
  refine ⟨l.length+1,?_⟩
  unfold UW
  have h1:decide ((l.length:Int)<1)=false:=by simp;omega
  have i0:Ak (0:Int) l.length=true:=Ag h0
  have z0:(0:Int).toNat=0:=rfl
  have:=key (l.length-1) 1 (l.length+1) l[0] (by omega) (by omega)
  simp only [Int.natCast_one] at this
  simp only [h1,ACn,if_false,i0,if_true,z0,AAs (e:=I) h0,this,Option.bind_some]
  cases l with
  | nil=>simp at h0
  | cons a l=>simp
 ·cases h
open Go.Proofs
theorem Aif {n:Nat} {ball:Int->List Int} (hb:DE n ball) {f g:Nat->Nat->Int} {t:Int} (ht:1<=t) (hf:∀c q,c<n->q<n->f c q<t) (hg:∀c q,c<n->q<n->g c q=f c q\/(f c q<0/\g c q=t)) {b q:Nat} (hbn:b<n) (hq:q<n) :
  (0<=AE ball (AM n f) (b:Int) (q:Int)->AE ball (AM n g) (b:Int) (q:Int)=AE ball (AM n f) (b:Int) (q:Int)) /\
  (0<=AE ball (AM n g) (b:Int) (q:Int)->AE ball (AM n g) (b:Int) (q:Int)=AE ball (AM n f) (b:Int) (q:Int)\/AE ball (AM n g) (b:Int) (q:Int)=t):=by
 unfold AE
 by_cases e:(b:Int)=(q:Int)
 ·rw [if_pos e,if_pos e]
  exact ⟨fun _=>rfl,fun _=>.inl rfl⟩
 ·simp only [if_neg e]
  have key:(∀x∈ball (q:Int),0<=AY (AM n f) (b:Int) x)->A6 (AY (AM n g) (b:Int)) (ball (q:Int)) 0=A6 (AY (AM n f) (b:Int)) (ball (q:Int)) 0:=fun h=>GL fun x hx=>by
   obtain ⟨y,hy,rfl⟩:=hb q hq x hx
   have:=h _ hx
   rw [Bj _ hbn hy] at this |-
   rw [Bj _ hbn hy]
   rcases hg b y hbn hy with h1 | ⟨h1,_⟩
   ·exact h1
   ·omega
  constructor
  ·intro h0
   rcases B3 (AY (AM n f) (b:Int)) (ball (q:Int)) 0 with ⟨_,h1⟩ | ⟨h1,_,_⟩
   ·omega
   ·exact key fun x hx=>(h1 x hx).1
  ·intro h0
   rcases B3 (AY (AM n g) (b:Int)) (ball (q:Int)) 0 with ⟨_,h1⟩ | ⟨h1,h2,h3⟩
   ·omega
   ·by_cases ha:∀x∈ball (q:Int),0<=AY (AM n f) (b:Int) x
    ·exact .inl (key ha)
    ·right
     obtain ⟨x,hx,hn⟩:∃x∈ball (q:Int),¬0<=AY (AM n f) (b:Int) x:=Classical.byContradiction fun hc=>ha fun x hx=>Classical.byContradiction fun h=>hc ⟨x,hx,h⟩
     obtain ⟨y,hy,rfl⟩:=hb q hq x hx
     rw [Bj _ hbn hy] at hn
     have hy1:=h1 _ hx
     rw [Bj _ hbn hy] at hy1
     have hyt:g b y=t:=by
      rcases hg b y hbn hy with h4 | ⟨_,h4⟩
      ·omega
      ·exact h4
     have hle:A6 (AY (AM n g) (b:Int)) (ball (q:Int)) 0<=t:=by
      rcases h3 with h3 | ⟨z,hz,h3⟩
      ·omega
      ·obtain ⟨y2,hy2,rfl⟩:=hb q hq z hz
       rw [h3,Bj _ hbn hy2]
       rcases hg b y2 hbn hy2 with h4 | ⟨_,h4⟩
       ·have:=hf b y2 hbn hy2
        omega
       ·omega
     omega
structure Exa3 (p n:Nat) (ball:Nat->Int->List Int) (t:Int) (f:Nat->Nat->Nat->Int):Prop where
 pos:1<=t
 high:∀r c q,r<p->c<n->q<n->f r c q<t
 none:∀r c q,r<p->c<n->q<n->f r c q<0 -> ∀b∈ball r (c:Int),¬(0<=AE (ball r) (AM n (f ((r+1) % p))) b (q:Int)/\AE (ball r) (AM n (f ((r+1) % p))) b (q:Int)<t-1)
 some:∀r c q,r<p->c<n->q<n->1<=f r c q -> ∃b∈ball r (c:Int),0<=AE (ball r) (AM n (f ((r+1) % p))) b (q:Int)/\AE (ball r) (AM n (f ((r+1) % p))) b (q:Int)+1=f r c q
 best:∀r c q,r<p->c<n->q<n->0<=f r c q -> ∀b∈ball r (c:Int),0<=AE (ball r) (AM n (f ((r+1) % p))) b (q:Int)->f r c q<=AE (ball r) (AM n (f ((r+1) % p))) b (q:Int)+1
theorem Arg {n:Nat} {ball:Int->List Int} (hb:DE n ball) {f:Nat->Nat->Int} {t:Int} (ht:1<=t) (hf:∀c q,c<n->q<n->f c q<t) {b q:Nat} (hbn:b<n) (hq:q<n):AE ball (AM n f) (b:Int) (q:Int)<=t-1:=by
 unfold AE
 split
 ·omega
 ·rcases B3 (AY (AM n f) (b:Int)) (ball (q:Int)) 0 with ⟨_,h⟩ | ⟨_,_,h | ⟨x,hx,h⟩⟩
  ·omega
  ·omega
  ·obtain ⟨y,hy,rfl⟩:=hb q hq x hx
   rw [Bj f hbn hy] at h
   have:=hf b y hbn hy
   omega
theorem Exa3.next {p n:Nat} {ball:Nat->Int->List Int} (hp:0<p) (hb:Wi p n ball) {t:Int} {f:Nat->Nat->Nat->Int} (hI:Exa3 p n ball t f):Exa3 p n ball (t+1) (Fj p n ball t f):=by
 have ht:=hI.pos
 have hstep:∀r c q,Fj p n ball t f r c q=f r c q\/(f r c q<0/\Fj p n ball t f r c q=t):=fun r c q=>by
  unfold Fj
  split
  ·rename_i h
   unfold P9 at h
   rw [ACo,decide_eq_true_eq] at h
   exact .inr ⟨h.1,rfl⟩
  ·exact .inl rfl
 have hm:∀r,(r+1) % p<p:=fun r=>Nat.mod_lt _ hp
 have hext:∀r b q,r<p->b<n->q<n->_:=fun r b q hr hbn hq=>Aif (f:=f ((r+1) % p)) (g:=Fj p n ball t f ((r+1) % p)) (hb r hr) ht (fun c q hc hq=>hI.high ((r+1) % p) c q (hm r) hc hq) (fun c q _ _=>hstep ((r+1) % p) c q) hbn hq
 have hlt:∀r b q,r<p->b<n->q<n->_:=fun r b q hr hbn hq=>Arg (f:=f ((r+1) % p)) (hb r hr) ht (fun c q hc hq=>hI.high ((r+1) % p) c q (hm r) hc hq) (b:=b) (q:=q) hbn hq
 refine ⟨by omega,fun r c q hr hc hq => ?_,fun r c q hr hc hq h b hbm => ?_,fun r c q hr hc hq h => ?_,fun r c q hr hc hq h b hbm h0 => ?_⟩
 ·rcases hstep r c q with h | ⟨_,h⟩
  ·have:=hI.high r c q hr hc hq;omega
  ·omega
 ·obtain ⟨b,hbn,rfl⟩:=hb r hr c hc b hbm
  have hcan:P9 p n ball f r c q=false:=by
   cases hcc:P9 p n ball f r c q with
   | false=>rfl
   | true=>
    have:Fj p n ball t f r c q=t:=by unfold Fj;rw [if_pos hcc]
    omega
  have hfr:f r c q<0:=by
   rcases hstep r c q with h1 | ⟨h1,_⟩
   ·omega
   ·exact h1
  unfold P9 at hcan
  rw [decide_eq_true hfr,Bool.true_and,List.any_eq_false] at hcan
  have hno:=hcan _ hbm
  simp only [decide_eq_true_eq] at hno
  rintro ⟨h1,h2⟩
  rcases (hext r b q hr hbn hq).2 h1 with h3 | h3
  ·rw [h3] at h1
   exact hno h1
  ·omega
 ·rcases hstep r c q with h1 | ⟨h1,h2⟩
  ·rw [h1] at h |-
   obtain ⟨b,hbm,k0,k1⟩:=hI.some r c q hr hc hq h
   obtain ⟨b',hbn,rfl⟩:=hb r hr c hc b hbm
   have:=(hext r b' q hr hbn hq).1 k0
   exact ⟨_,hbm,by rw [this];exact k0,by rw [this];exact k1⟩
  ·have hcc:P9 p n ball f r c q=true:=by
    cases hcc:P9 p n ball f r c q with
    | true=>rfl
    | false=>
     have:Fj p n ball t f r c q=f r c q:=by unfold Fj;rw [if_neg (by simp [hcc])]
     omega
   unfold P9 at hcc
   rw [ACo,List.any_eq_true] at hcc
   obtain ⟨_,b,hbm,hb0⟩:=hcc
   have hb0:=of_decide_eq_true hb0
   obtain ⟨b',hbn,rfl⟩:=hb r hr c hc b hbm
   have h3:=(hext r b' q hr hbn hq).1 hb0
   have h4:=hlt r b' q hr hbn hq
   have h5:=hI.none r c q hr hc hq h1 _ hbm
   exact ⟨_,hbm,by rw [h3];exact hb0,by rw [h3,h2];omega⟩
 ·obtain ⟨b',hbn,rfl⟩:=hb r hr c hc b hbm
  rcases (hext r b' q hr hbn hq).2 h0 with h3 | h3
  ·rw [h3] at h0 |-
   rcases hstep r c q with h1 | ⟨h1,h2⟩
   ·rw [h1] at h |-
    exact hI.best r c q hr hc hq h _ hbm h0
   ·have h5:=hI.none r c q hr hc hq h1 _ hbm
    omega
  ·rcases hstep r c q with h1 | ⟨h1,h2⟩
   ·have:=hI.high r c q hr hc hq
    omega
   ·omega
theorem Exa3.start {p n:Nat} {ball:Nat->Int->List Int} (hb:Wi p n ball):Exa3 p n ball 1 GZ:=by
 refine ⟨by omega,fun r c q _ _ _ => ?_,fun r c q _ _ _ _ b _ h=>by omega,fun r c q _ _ _ h => ?_,fun r c q _ _ _ _ b _ h0 => ?_⟩
 ·unfold GZ A0;split<;>omega
 ·unfold GZ A0 at h;split at h<;>omega
 ·have:GZ r c q<=0:=by unfold GZ A0;split<;>omega
  omega
open Go.Proofs
theorem Azg (x:Int):0<=bits .and .u64 x 255/\bits .and .u64 x 255<=255:=by
 have h:bits .and .u64 x 255=IntKind.wrap .u64 ((BitVec.ofInt 64 x&&&BitVec.ofInt 64 255).toNat:Int):=rfl
 have e:(BitVec.ofInt 64 x&&&BitVec.ofInt 64 255).toNat<=255:=by
  rw [BitVec.toNat_and]
  have:(BitVec.ofInt 64 255).toNat=255:=by decide
  rw [this]
  exact Nat.and_le_right
 rw [h]
 generalize (BitVec.ofInt 64 x&&&BitVec.ofInt 64 255).toNat=m at e
 unfold IntKind.wrap
 simp [IntKind.bits,IntKind.signed]
 omega
theorem Adq {c:Cur} {u:Unit} (h:I8 c) (hf:c.2.1<=GU):Ok (O4 0 (c,u)) fun r=>0<=r.1/\r.1<=255/\Adv 1 c r.2.1:=by
 obtain ⟨l,a,s,_⟩:=c
 obtain ⟨hb,ha⟩:=h
 simp only at hb ha hf
 unfold GU at hf
 have w1:IntKind.wrap .i64 (a+1)=a+1:=BY _ (by omega) (by omega)
 have hx:=Azg
 have w2:∀x:Int,IntKind.wrap .i64 (bits .and .u64 x 255)=bits .and .u64 x 255:=fun x=>BY _ (by have:=(hx x).1;omega) (by have:=(hx x).2;omega)
 have adv:∀s',Adv 1 (l,a,s,()) (l,a+1,s',()):=fun s'=>⟨⟨hb,by simp only;omega⟩,by simp only;omega⟩
 unfold O4
 simp only [w1,w2]
 refine Ok.ite (fun h1 => ?_) (fun h1 => ?_)
 ·have h1:a<l.length:=of_decide_eq_true h1
  refine Ok.pos (by unfold Ak;simp;omega) ?_
  obtain ⟨v,hv⟩:∃v:Int,at_ (.int .u8) l a.toNat=v:=⟨_,rfl⟩
  have hv':0<=v/\v<=255:=by
   have hlt:a.toNat<l.length:=by omega
   rw [Aw (e:=.int .u8) hlt] at hv
   rw [<- hv]
   exact hb _ (ACw hlt)
  rw [hv]
  have w3:IntKind.wrap .i64 v=v:=BY _ (by omega) (by omega)
  simp only [w3]
  refine Ok.ite (fun _=>Ok.some ⟨hv'.1,hv'.2,adv _⟩) (fun _=>Ok.pos rfl (Ok.some ⟨(hx _).1,(hx _).2,adv _⟩))
 ·refine Ok.ite (fun _=>Ok.some ⟨by simp,by simp,adv _⟩) (fun _=>Ok.pos rfl (Ok.some ⟨(hx _).1,(hx _).2,adv _⟩))
theorem Aeh {x n:Int} (h:0<=x) (hn:0<n):0<=x.tmod n/\x.tmod n<n:=by
 rw [Int.tmod_eq_emod_of_nonneg h]
 exact ⟨Int.emod_nonneg _ (by omega),Int.emod_lt_of_pos _ hn⟩
theorem CF {c:Cur} {n:Int} {u:Unit} (h:I8 c) (hf:c.2.1+2<=GU):Ok (CD 0 (c,n,u)) fun r=>0<=r.1/\(r.1<n\/r.1=0)/\Adv 2 c r.2.1:=by
 unfold CD
 simp only
 refine Ok.ite (fun h1=>Ok.some ⟨Int.le_refl _,.inr rfl,h,by simp only;omega⟩) (fun h1 => ?_)
 have h1:¬n<=1:=of_decide_eq_false h1
 have hn:(n != 0)=true:=by simp;omega
 refine Ok.bind (Adq h (by omega)) fun r hr => ?_
 obtain ⟨r1,r2,r3⟩:=hr
 refine Ok.ite (fun h2 => ?_) (fun h2 => ?_)
 ·have w1:IntKind.wrap .i64 (r.1*256)=r.1*256:=BY _ (by omega) (by omega)
  refine Ok.bind (Adq r3.1 (by have:=r3.2;omega)) fun q hq => ?_
  obtain ⟨q1,q2,q3⟩:=hq
  have w2:IntKind.wrap .i64 (r.1*256+q.1)=r.1*256+q.1:=BY _ (by omega) (by omega)
  refine Ok.pos hn (Ok.some ?_)
  rw [w1,w2]
  have:=Aeh (x:=r.1*256+q.1) (n:=n) (by omega) (by omega)
  exact ⟨this.1,.inl this.2,(r3.trans q3).le (by omega)⟩
 ·refine Ok.pos hn (Ok.some ?_)
  have:=Aeh (x:=r.1) (n:=n) (by omega) (by omega)
  exact ⟨this.1,.inl this.2,r3.le (by omega)⟩
theorem Jz {c:Cur} {n:Int} {u:Unit} (h:I8 c) (hf:c.2.1+2<=GU):Ok (DR 0 (c,n,u)) fun r=>Adv 2 c r.2.1:=by
 unfold DR
 simp only
 exact Ok.bind (CF h hf) fun r hr=>Ok.some hr.2.2
theorem LJ {c:Cur} {l:List Int} {u:Unit} (h:I8 c) (hf:c.2.1+2<=GU) (hl:0<l.length):Ok (Gw 0 (c,l,u)) fun r=>r.1∈l/\Adv 2 c r.2.1:=by
 unfold Gw
 simp only
 refine Ok.bind (CF h hf) fun r hr => ?_
 obtain ⟨r1,r2,r3⟩:=hr
 have hlt:r.1.toNat<l.length:=by omega
 refine Ok.pos (by unfold Ak;simp;omega) (Ok.some ⟨?_,r3⟩)
 rw [Aw (e:=I) hlt]
 exact ACw hlt
open Go.Proofs
theorem ABn (N:Nat) (n:Nat) (hn:n<=8) (z:Gr) (a:Int):∀k x f (es:List E),x+k=n->k<f->es.length<=x -> ∃es',Q9 N f ((n:Int),z,(a,es,()),(x:Int),())=some (.inl (z,(a,es',()),()))/\es'.length<=100:=by
 intro k
 induction k with
 | zero=>
  intro x f es h1 h2 h3
  obtain ⟨f,rfl⟩:∃m,f=m+1:=⟨f-1,by omega⟩
  refine ⟨es,?_,by omega⟩
  have hlt:decide (((x+1:Nat):Int)<(n:Int))=false:=decide_eq_false (by omega)
  show ES _ _ _=_
  unfold ES
  simp only [Aq (show x<=100000 by omega),hlt,ACn,if_false]
 | succ k ih=>
  intro x f es h1 h2 h3
  obtain ⟨f,rfl⟩:∃m,f=m+1:=⟨f-1,by omega⟩
  by_cases hx:x+1<n
  ·have hlt:decide (((x+1:Nat):Int)<(n:Int))=true:=decide_eq_true (by omega)
   have hle:∀e:E,decide (es.length+List.length [e]<=lim)=true:=fun e=>by unfold lim;simp;omega
   obtain ⟨es',e1,e2⟩:=ih (x+1) f (es++[((x:Int),((x+1:Nat):Int),())]) (by omega) (by omega) (by simp;omega)
   refine ⟨es',?_,e2⟩
   rw [<- e1]
   show ES _ _ _=_
   unfold ES
   simp only [Aq (show x<=100000 by omega),hlt,if_true,hle]
  ·refine ⟨es,?_,by omega⟩
   have hlt:decide (((x+1:Nat):Int)<(n:Int))=false:=decide_eq_false (by omega)
   show ES _ _ _=_
   unfold ES
   simp only [Aq (show x<=100000 by omega),hlt,ACn,if_false]
theorem Adr (n:Nat) (hn:n<=8):Ok (Cq G0 DS ((n:Int),())) (DS ((n:Int),())):=by
 refine Ok.pick 20 ?_
 obtain ⟨es,e1,e2⟩:=ABn 20 n hn (0,[],()) (n:Int) n 0 20 [] (by omega) (by omega) (by simp)
 refine ⟨(((n:Int),es,()),()),?_,e2⟩
 unfold G0
 simp only [Int.natCast_zero] at e1
 simp only [e1,Option.bind_some]
theorem Az9 (N:Nat) (n:Nat) (hn:n<=8) (z:Gr) (a:Int) (x:Int):∀k y f (es:List E),y+k=n->k<f->es.length+k<=1000 -> ∃es',QV N f ((n:Int),z,(a,es,()),x,(y:Int),())=some (.inl ((n:Int),z,(a,es',()),x,()))/\es'.length=es.length+k:=by
 intro k
 induction k with
 | zero=>
  intro y f es h1 h2 h3
  obtain ⟨f,rfl⟩:∃m,f=m+1:=⟨f-1,by omega⟩
  refine ⟨es,?_,by omega⟩
  have hlt:decide ((y:Int)<(n:Int))=false:=decide_eq_false (by omega)
  show Ia _ _ _=_
  unfold Ia
  simp only [hlt,ACn,if_false]
 | succ k ih=>
  intro y f es h1 h2 h3
  obtain ⟨f,rfl⟩:∃m,f=m+1:=⟨f-1,by omega⟩
  have hlt:decide ((y:Int)<(n:Int))=true:=decide_eq_true (by omega)
  have hle:∀e:E,decide (es.length+List.length [e]<=lim)=true:=fun e=>by unfold lim;simp;omega
  obtain ⟨es',e1,e2⟩:=ih (y+1) f (es++[(x,(y:Int),())]) (by omega) (by omega) (by simp;omega)
  refine ⟨es',?_,by rw [e2];simp;omega⟩
  rw [<- e1]
  show Ia _ _ _=_
  unfold Ia
  simp only [hlt,if_true,hle,Aq (show y<=100000 by omega)]
theorem ABa (N:Nat) (hN:20<=N) (n:Nat) (hn:n<=8) (z:Gr) (a:Int):∀k x f (es:List E),x+k=n->k<f->es.length<=8*x -> ∃es',Qp N f ((n:Int),z,(a,es,()),(x:Int),())=some (.inl (z,(a,es',()),()))/\es'.length<=100:=by
 intro k
 induction k with
 | zero=>
  intro x f es h1 h2 h3
  obtain ⟨f,rfl⟩:∃m,f=m+1:=⟨f-1,by omega⟩
  refine ⟨es,?_,by omega⟩
  have hlt:decide ((x:Int)<(n:Int))=false:=decide_eq_false (by omega)
  show HV _ _ _=_
  unfold HV
  simp only [hlt,ACn,if_false]
 | succ k ih=>
  intro x f es h1 h2 h3
  obtain ⟨f,rfl⟩:∃m,f=m+1:=⟨f-1,by omega⟩
  have hlt:decide ((x:Int)<(n:Int))=true:=decide_eq_true (by omega)
  obtain ⟨e1,q1,q2⟩:=Az9 N n hn z a (x:Int) (n-(x+1)) (x+1) N es (by omega) (by omega) (by omega)
  obtain ⟨es',r1,r2⟩:=ih (x+1) f e1 (by omega) (by omega) (by omega)
  refine ⟨es',?_,r2⟩
  rw [<- r1]
  show HV _ _ _=_
  unfold HV
  simp only [hlt,if_true,Aq (show x<=100000 by omega),q1,Option.bind_some]
theorem Al6 (n:Nat) (hn:n<=8):Ok (Cq IW DS ((n:Int),())) (DS ((n:Int),())):=by
 refine Ok.pick 20 ?_
 obtain ⟨es,e1,e2⟩:=ABa 20 (by omega) n hn (0,[],()) (n:Int) n 0 20 [] (by omega) (by omega) (by simp)
 refine ⟨(((n:Int),es,()),()),?_,e2⟩
 unfold IW
 simp only [Int.natCast_zero] at e1
 simp only [e1,Option.bind_some]
open Go.Proofs
theorem TC {c:Cur} {n:Int} {es:List E} {v u:Unit} (h:I8 c) (hf:c.2.1+20<=GU) (hl:es.length<=150):Ok (BV 0 (c,(n,es,v),u)) fun r=>r.1.2.1.length<=es.length+1/\Adv 10 c r.2.1:=by
 unfold BV
 simp only
 have hle:∀e:E,decide (es.length+List.length [e]<=lim)=true:=fun e=>by unfold lim;simp;omega
 refine Ok.bind (CF h (by omega)) fun r hr => ?_
 obtain ⟨r1,r2,r3⟩:=hr
 have q3:=r3.2
 refine Ok.ite (fun _ => ?_) fun _=>Ok.ite (fun _ => ?_) fun _=>Ok.ite (fun _ => ?_) fun _ => ?_
 ·refine Ok.bind (LJ r3.1 (by omega) (by simp)) fun s hs=>Ok.some ⟨by simp,(r3.trans hs.2).le (by omega)⟩
 ·refine Ok.bind (CF r3.1 (by omega)) fun s hs => ?_
  have s3:=hs.2.2.2
  refine Ok.bind (CF hs.2.2.1 (by omega)) fun t ht => ?_
  refine Ok.pos (hle _) (Ok.some ⟨by simp,((r3.trans hs.2.2).trans ht.2.2).le (by omega)⟩)
 ·refine Ok.ite (fun hp => ?_) fun _=>Ok.some ⟨by simp,r3.le (by omega)⟩
  have hp:=of_decide_eq_true hp
  refine Ok.bind (CF r3.1 (by omega)) fun s hs => ?_
  obtain ⟨s1,s2,s3⟩:=hs
  refine Ok.pos (by unfold Ak;simp;omega) (Ok.pos (hle _) (Ok.some ⟨by simp,(r3.trans s3).le (by omega)⟩))
 ·exact Ok.some ⟨by simp,r3.le (by omega)⟩
open Go.Proofs
theorem Ahs (e:E):∀l:List E,(Adc e l).length=l.length+1:=by
 intro l
 induction l with
 | nil=>rfl
 | cons a l ih=>unfold Adc;split<;>simp [ih]
theorem SU {es:List E} {e:E} {u:Unit} (h:es.length<=1000):Ok (E2 (es,e,u)) fun r=>r.1.length=es.length+1:=by
 unfold E2
 rw [if_pos (decide_eq_true h)]
 exact Ok.some (Ahs _ _)
theorem Att {g:Gr} {x y:Int} {u:Unit} (h:g.2.1.length<=1000):Ok (Dm (g,x,y,u)) fun _=>True:=by
 unfold Dm
 rw [if_pos (show okL g.2.1=true from decide_eq_true (by unfold lim;omega))]
 exact Ok.some trivial
theorem Aq1 (n:Nat) (hn:n<=8):Ok (Jf 0 ((n:Int),())) fun r=>r.1.2.1.length<=101:=by
 unfold Jf
 simp only
 refine Ok.bind (Adr n hn) fun r hr => ?_
 have hr:r.1.2.1.length<=100:=hr
 refine Ok.bind (SU (by omega)) fun q hq=>Ok.some ?_
 simp only
 omega
theorem ABt (N:Nat) (n:Nat) (hn:n<=8) (z:Gr) (a w:Int) (b:Bool) (x:Int):∀k y f (c:Cur) (es:List E),y+k=n->k<f->I8 c->c.2.1+2*(k:Int)<=GU->es.length+k<=1000 ->
  Ok (Q7 N f (c,z,(n:Int),(a,es,()),w,b,x,(y:Int),())) fun o => ∃c' es',o=.inl (c',z,(n:Int),(a,es',()),w,b,x,())/\Adv (2*(k:Int)) c c'/\es'.length<=es.length+k:=by
 intro k
 induction k with
 | zero=>
  intro y f c es h1 h2 h3 h4 h5
  obtain ⟨f,rfl⟩:∃m,f=m+1:=⟨f-1,by omega⟩
  have hlt:decide ((y:Int)<(n:Int))=false:=decide_eq_false (by omega)
  show Ok (Io _ _ _) _
  unfold Io
  simp only [hlt,ACn,if_false]
  exact Ok.some ⟨c,es,rfl,⟨h3,by omega⟩,by omega⟩
 | succ k ih=>
  intro y f c es h1 h2 h3 h4 h5
  obtain ⟨f,rfl⟩:∃m,f=m+1:=⟨f-1,by omega⟩
  have hlt:decide ((y:Int)<(n:Int))=true:=decide_eq_true (by omega)
  show Ok (Io _ _ _) _
  unfold Io
  simp only [hlt,if_true,Aq (show y<=100000 by omega)]
  refine Ok.bind (CF h3 (by omega)) fun r hr => ?_
  have r3:=hr.2.2.2
  refine Ok.ite (fun _ => ?_) (fun _ => ?_)
  ·refine Ok.bind (SU (by omega)) fun q hq => ?_
   refine (ih (y+1) f r.2.1 q.1 (by omega) (by omega) hr.2.2.1 (by omega) (by omega)).mono fun o ho => ?_
   obtain ⟨c',es',e1,e2,e3⟩:=ho
   exact ⟨c',es',e1,(hr.2.2.trans e2).le (by omega),by omega⟩
  ·refine (ih (y+1) f r.2.1 es (by omega) (by omega) hr.2.2.1 (by omega) (by omega)).mono fun o ho => ?_
   obtain ⟨c',es',e1,e2,e3⟩:=ho
   exact ⟨c',es',e1,(hr.2.2.trans e2).le (by omega),by omega⟩
theorem ABc (N:Nat) (hN:20<=N) (n:Nat) (hn:n<=8) (z:Gr) (a w:Int) (b:Bool):∀k x f (c:Cur) (es:List E),x+k=n->k<f->I8 c->c.2.1+20*(k:Int)<=GU->es.length<=10*x ->
  Ok (GM N f (c,z,(n:Int),(a,es,()),w,b,(x:Int),())) fun o => ∃c' es',o=.inl (c',z,(a,es',()),())/\Adv (20*(k:Int)) c c'/\es'.length<=10*n:=by
 intro k
 induction k with
 | zero=>
  intro x f c es h1 h2 h3 h4 h5
  obtain ⟨f,rfl⟩:∃m,f=m+1:=⟨f-1,by omega⟩
  have hlt:decide ((x:Int)<(n:Int))=false:=decide_eq_false (by omega)
  show Ok (HZ _ _ _) _
  unfold HZ
  simp only [hlt,ACn,if_false]
  exact Ok.some ⟨c,es,rfl,⟨h3,by omega⟩,by omega⟩
 | succ k ih=>
  intro x f c es h1 h2 h3 h4 h5
  obtain ⟨f,rfl⟩:∃m,f=m+1:=⟨f-1,by omega⟩
  have hlt:decide ((x:Int)<(n:Int))=true:=decide_eq_true (by omega)
  show Ok (HZ _ _ _) _
  unfold HZ
  simp only [hlt,if_true,Aq (show x<=100000 by omega)]
  refine Ok.bind (ABt N n hn z a w b (x:Int) (n-(x+1)) (x+1) N c es (by omega) (by omega) h3 (by omega) (by omega)) fun o ho => ?_
  obtain ⟨c1,e1,rfl,a1,l1⟩:=ho
  have b1:=a1.2
  simp only [Aq (show x<=100000 by omega)]
  refine Ok.bind (CF a1.1 (by omega)) fun r hr => ?_
  have r3:=hr.2.2.2
  have more:∀es2:List E,es2.length<=10*(x+1)->Ok (GM N f (r.2.1,z,(n:Int),(a,es2,()),w,b,((x+1:Nat):Int),())) fun o => ∃c' es',o=.inl (c',z,(a,es',()),())/\Adv (20*((k+1:Nat):Int)) c c'/\es'.length<=10*n:=fun es2 h=>by
   refine (ih (x+1) f r.2.1 es2 (by omega) (by omega) hr.2.2.1 (by omega) (by omega)).mono fun o ho => ?_
   obtain ⟨c',es',e1,e2,e3⟩:=ho
   exact ⟨c',es',e1,((a1.trans hr.2.2).trans e2).le (by omega),by omega⟩
  refine Ok.ite (fun _=>Ok.ite (fun _ => ?_) fun _=>more _ (by omega)) fun _=>more _ (by omega)
  refine Ok.bind (Att (by simp only;omega)) fun _ _=>Ok.ite (fun _ => ?_) fun _=>more _ (by omega)
  refine Ok.bind (SU (by omega)) fun q hq=>more _ (by omega)
def Abq (N:Nat) (c:Cur) (n:Int):Option (Gr×Cur×Unit):=
  ((CD 0) ((c,((8:Int),())))).bind fun r49=>
  if (r49.1==(0:Int))=true then
   ((Cq G0 DS) (n,())).bind fun r50=>
   ((BV 0) ((r49.2.1,(r50.1,())))).bind fun r51=>
   some ((r51.1,(r51.2.1,())))
  else
   if (r49.1==(1:Int))=true then
    if (decide (n>(2:Int)))=true then
     ((Jf 0) (n,())).bind fun r52=>
     ((BV 0) ((r49.2.1,(r52.1,())))).bind fun r53=>
     some ((r53.1,(r53.2.1,())))
    else
     ((BV 0) ((r49.2.1,((n,(([]:List (Int×Int×Unit)),())),())))).bind fun r54=>
     some ((r54.1,(r54.2.1,())))
   else
    if (r49.1==(2:Int))=true then
     ((Cq IW DS) (n,())).bind fun r55=>
     ((BV 0) ((r49.2.1,(r55.1,())))).bind fun r56=>
     some ((r56.1,(r56.2.1,())))
    else
     ((Gw 0) ((r49.2.1,([(3:Int),(4:Int),(6:Int)],())))).bind fun r57=>
     ((DR 0) ((r57.2.1,((6:Int),())))).bind fun r58=>
     (GM N N ((r58.2.1,(((0:Int),(([]:List (Int×Int×Unit)),())),(n,((n,(([]:List (Int×Int×Unit)),())),(r57.1,(r58.1,((0:Int),()))))))))).bind fun o59=>match o59 with
     | .inl d60=>
      ((BV 0) ((d60.1,(d60.2.2.1,())))).bind fun r61=>
      some ((r61.1,(r61.2.1,())))
theorem Afq {c:Cur} {n:Int} {m:Nat} (hm:m<=8) (he:n=m) (h:I8 c) (hf:c.2.1+250<=GU):Ok (Abq 20 c n) fun r=>Adv 200 c r.2.1/\r.1.2.1.length<=200:=by
 subst he
 have mar:∀(c1:Cur) (g:Gr),Adv 180 c c1->g.2.1.length<=150->Ok ((BV 0 (c1,g,())).bind fun r=>some (r.1,r.2.1,())) fun r=>Adv 200 c r.2.1/\r.1.2.1.length<=200:=by
  intro c1 g h1 h2
  have:=h1.2
  obtain ⟨n,es,u⟩:=g
  refine Ok.bind (TC h1.1 (by omega) h2) fun r hr=>Ok.some ⟨(h1.trans hr.2).le (by omega),?_⟩
  have:=hr.1
  simp only at h2 |-
  omega
 unfold Abq
 refine Ok.bind (CF h (by omega)) fun r hr => ?_
 have a1:=hr.2.2
 have b1:=a1.2
 refine Ok.ite (fun _ => ?_) fun _=>Ok.ite (fun _=>Ok.ite (fun _ => ?_) fun _=>mar _ _ (a1.le (by omega)) (by simp)) fun _=>Ok.ite (fun _ => ?_) fun _ => ?_
 ·refine Ok.bind (Adr m hm) fun q hq=>mar _ _ (a1.le (by omega)) ?_
  have:q.1.2.1.length<=100:=hq
  omega
 ·refine Ok.bind (Aq1 m hm) fun q hq=>mar _ _ (a1.le (by omega)) (by omega)
 ·refine Ok.bind (Al6 m hm) fun q hq=>mar _ _ (a1.le (by omega)) ?_
  have:q.1.2.1.length<=100:=hq
  omega
 ·refine Ok.bind (LJ a1.1 (by omega) (by simp)) fun q hq => ?_
  have a2:=a1.trans hq.2
  have b2:=a2.2
  refine Ok.bind (Jz a2.1 (by omega)) fun s hs => ?_
  have a3:=a2.trans hs
  have b3:=a3.2
  have hl:=ABc 20 (by omega) m hm (0,[],()) (m:Int) q.1 s.1 m 0 20 s.2.1 [] (by omega) (by omega) a3.1 (by omega) (by simp)
  simp only [Int.natCast_zero] at hl
  refine Ok.bind hl fun o ho => ?_
  obtain ⟨c',es',rfl,e2,e3⟩:=ho
  exact mar _ _ ((a3.trans e2).le (by omega)) (by simp only;omega)
theorem SI {x y:Int} {u:Unit} (h:0<=x) (h2:0<=y) (h3:y<=8):∃m:Nat,m<=8/\(Fp (x,y,u)).1=(m:Int):=by
 unfold Fp
 simp only
 split
 ·rename_i hh
  have:=of_decide_eq_true hh
  exact ⟨x.toNat,by omega,by simp only;omega⟩
 ·exact ⟨y.toNat,by omega,by simp only;omega⟩
theorem Vp {c:Cur} {a:Int} (h:I8 c) (hf:c.2.1+300<=GU) (h0:0<=a) (h8:a<=8):Ok (Cq Oz FV (c,a,())) (FV (c,a,())):=by
 refine Ok.pick 20 ?_
 have fin:∀(c1:Cur) (n:Int) (m:Nat),m<=8->n=m->Adv 50 c c1->Ok (Abq 20 c1 n) (FV (c,a,())):=fun c1 n m hm he h1=>by
  have:=h1.2
  exact (Afq hm he h1.1 (by omega)).mono fun r hr=>⟨(h1.trans hr.1).le (by omega),hr.2⟩
 unfold Oz
 simp only
 refine Ok.bind (LJ h (by omega) (by simp)) fun r hr => ?_
 have r0:0<=r.1:=by
  have:=hr.1
  simp at this
  omega
 have a1:=hr.2
 have b1:=a1.2
 refine Ok.ite (fun _ => ?_) fun _ => ?_
 ·refine Ok.bind (Jz a1.1 (by omega)) fun s hs => ?_
  have a2:=a1.trans hs
  have b2:=a2.2
  refine Ok.ite (fun _ => ?_) fun _ => ?_
  ·refine Ok.bind (CF a2.1 (by omega)) fun t ht => ?_
   have a3:=a2.trans ht.2.2
   have w:IntKind.wrap .i64 ((7:Int)+t.1)=7+t.1:=BY _ (by have:=ht.1;omega) (by have:=ht.2.1;omega)
   obtain ⟨m,hm,em⟩:=SI (x:=IntKind.wrap .i64 ((7:Int)+t.1)) (u:=()) (by rw [w];have:=ht.1;omega) h0 h8
   exact fin _ _ m hm em (a3.le (by omega))
  ·obtain ⟨m,hm,em⟩:=SI (u:=()) r0 h0 h8
   exact fin _ _ m hm em (a2.le (by omega))
 ·obtain ⟨m,hm,em⟩:=SI (u:=()) r0 h0 h8
  exact fin _ _ m hm em (a1.le (by omega))
open Go.Proofs
theorem ABs (N:Nat) (z:Gr) (n x y:Int) (ball:List Int) (hb:ball.length<=9):∀k i f (c:Cur) (es:List E),i+k=ball.length->k<f->I8 c->c.2.1+2*(k:Int)<=GU->es.length+k<=900 ->
  Ok (L6 N f (c,z,(n,es,()),x,y,ball,(i:Int),())) fun o => ∃c' es',o=.inl (c',z,(n,es',()),x,())/\Adv (2*(k:Int)) c c'/\es'.length<=es.length+k:=by
 intro k
 induction k with
 | zero=>
  intro i f c es h1 h2 h3 h4 h5
  obtain ⟨f,rfl⟩:∃m,f=m+1:=⟨f-1,by omega⟩
  have hlt:decide ((i:Int)<(ball.length:Int))=false:=decide_eq_false (by omega)
  show Ok (HB _ _ _) _
  unfold HB
  simp only [hlt,ACn,if_false]
  exact Ok.some ⟨c,es,rfl,⟨h3,by omega⟩,by omega⟩
 | succ k ih=>
  intro i f c es h1 h2 h3 h4 h5
  obtain ⟨f,rfl⟩:∃m,f=m+1:=⟨f-1,by omega⟩
  have hi:i<ball.length:=by omega
  have go:∀(c1:Cur) (es1:List E),Adv 2 c c1->es1.length<=es.length+1->Ok (L6 N f (c1,z,(n,es1,()),x,y,ball,((i+1:Nat):Int),())) fun o => ∃c' es',o=.inl (c',z,(n,es',()),x,())/\Adv (2*((k+1:Nat):Int)) c c'/\es'.length<=es.length+(k+1):=fun c1 es1 ha hl=>by
   have hb:=ha.2
   refine (ih (i+1) f c1 es1 (by omega) (by omega) ha.1 (by omega) (by omega)).mono fun o ho => ?_
   obtain ⟨c',es',e1,e2,e3⟩:=ho
   exact ⟨c',es',e1,(ha.trans e2).le (by omega),by omega⟩
  have a0:Adv 2 c c:=⟨h3,by omega⟩
  show Ok (HB _ _ _) _
  unfold HB
  simp only [AD hi,if_true,Ag hi,Int.toNat_natCast,Aq (show i<=100000 by omega)]
  refine Ok.ite (fun _=>Ok.ite (fun _ => ?_) fun _ => ?_) fun _=>go c es a0 (by omega)
  ·exact Ok.bind (SU (by omega)) fun q hq=>go c q.1 a0 (by omega)
  ·refine Ok.bind (Jz h3 (by omega)) fun r hr=>Ok.ite (fun _ => ?_) fun _=>go _ es hr (by omega)
   exact Ok.bind (SU (by omega)) fun q hq=>go _ q.1 hr (by omega)
theorem ABm (N:Nat) (hN:20<=N) (z:Gr) (n:Nat) (hn:n<=8):∀k x f (c:Cur) (es:List E),x+k=n->k<f->I8 c->c.2.1+20*(k:Int)<=GU->es.length+9*k<=100 ->
  Ok (QI N f (c,z,((n:Int),es,()),(x:Int),())) fun o => ∃c' es',o=.inl (c',z,((n:Int),es',()),())/\Adv (20*(k:Int)) c c'/\es'.length<=100:=by
 intro k
 induction k with
 | zero=>
  intro x f c es h1 h2 h3 h4 h5
  obtain ⟨f,rfl⟩:∃m,f=m+1:=⟨f-1,by omega⟩
  have hlt:decide ((x:Int)<(n:Int))=false:=decide_eq_false (by omega)
  show Ok (HR _ _ _) _
  unfold HR
  simp only [hlt,ACn,if_false]
  exact Ok.some ⟨c,es,rfl,⟨h3,by omega⟩,by omega⟩
 | succ k ih=>
  intro x f c es h1 h2 h3 h4 h5
  obtain ⟨f,rfl⟩:∃m,f=m+1:=⟨f-1,by omega⟩
  have hlt:decide ((x:Int)<(n:Int))=true:=decide_eq_true (by omega)
  show Ok (HR _ _ _) _
  unfold HR
  simp only [hlt,if_true]
  refine Ok.bind (CF h3 (by omega)) fun r hr => ?_
  have rb:=hr.2.2.2
  have ho:okL es=true:=Et (by omega)
  have hball:=Ae2 ((n:Int),es,()) n rfl hn ho r.1
  have hlen:(PQ n es r.1).length<=9:=by
   unfold PQ
   have h1:=Ao0 r.1 (Ap (fun y=>BH es r.1 (y:Int)) n 0)
   have h2:(Ap (fun y=>BH es r.1 (y:Int)) n 0).length<=n:=C3
   omega
  simp only [hball,Option.bind_some]
  have hin:=ABs N z (n:Int) (x:Int) r.1 (PQ n es r.1) hlen (PQ n es r.1).length 0 N r.2.1 es (by omega) (by omega) hr.2.2.1 (by omega) (by omega)
  simp only [Int.natCast_zero] at hin
  refine Ok.bind hin fun o ho' => ?_
  obtain ⟨c1,e1,rfl,a1,l1⟩:=ho'
  have b1:=a1.2
  simp only [Aq (show x<=100000 by omega)]
  refine (ih (x+1) f c1 e1 (by omega) (by omega) a1.1 (by omega) (by omega)).mono fun o ho2 => ?_
  obtain ⟨c',es',q1,q2,q3⟩:=ho2
  exact ⟨c',es',q1,((hr.2.2.trans a1).trans q2).le (by omega),q3⟩
theorem Ave {c:Cur} {a:Int} (h:I8 c) (hf:c.2.1+300<=GU) (h8:a<=8):Ok (Cq MH FV (c,a,())) (FV (c,a,())):=by
 refine Ok.pick 30 ?_
 unfold MH
 simp only
 refine Ok.bind (CF h (by omega)) fun r hr => ?_
 have b1:=hr.2.2.2
 obtain ⟨j,hj⟩:∃j:Nat,r.1=j:=⟨r.1.toNat,by have:=hr.1;omega⟩
 have hj8:j<8:=by
  have:=hr.2.1
  omega
 have hw:IntKind.wrap .i64 ((1:Int)+r.1)=((1+j:Nat):Int):=by rw [hj,BY _ (by omega) (by omega)];omega
 simp only [hw]
 have hl:=ABm 30 (by omega) (0,[],()) (1+j) (by omega) j 1 30 r.2.1 [] (by omega) (by omega) hr.2.2.1 (by omega) (by simp;omega)
 refine Ok.bind hl fun o ho => ?_
 obtain ⟨c1,es,rfl,a1,l1⟩:=ho
 have a2:=hr.2.2.trans a1
 have b2:=a2.2
 simp only
 refine Ok.bind (Jz a2.1 (by omega)) fun s hs => ?_
 have a3:=a2.trans hs
 have b3:=a3.2
 refine Ok.ite (fun _ => ?_) fun _=>Ok.some ⟨a3.le (by omega),by simp only;omega⟩
 refine Ok.bind (TC a3.1 (by omega) (by omega)) fun t ht=>Ok.some ⟨(a3.trans ht.2).le (by omega),?_⟩
 have:=ht.1
 simp only
 omega
theorem Ajs {c:Cur} {u:Unit} (h:I8 c) (hf:c.2.1+400<=GU):Ok (RU 0 (c,u)) fun r=>Adv 400 c r.2.1/\r.1.2.1.length<=200:=by
 unfold RU Vy
 simp only
 refine Ok.bind (Jz h (by omega)) fun r hr => ?_
 have b1:=hr.2
 refine Ok.ite (fun _ => ?_) fun _ => ?_
 ·exact Ok.bind (Ave hr.1 (by omega) (by omega)) fun s hs=>Ok.some ⟨(hr.trans hs.1).le (by omega),hs.2⟩
 ·exact Ok.bind (Ok.bind (Vp hr.1 (by omega) (by omega) (by omega)) fun s hs=>Ok.some hs) fun s hs=>Ok.some ⟨(hr.trans hs.1).le (by omega),hs.2⟩
open Go.Proofs
theorem law54:∀d,WfD (Kd.tuple ([(K_Su8,false)].map (·.1))) d -> ∃out,Xs d=some out/\(EV [.bool] [] out).1.1=true:=by
 rintro ⟨code,_⟩ ⟨⟨hl,hc⟩,_⟩
 refine ⟨(true,()),?_,rfl⟩
 unfold Xs
 rw [if_pos]
 simp only [ACo,List.all_eq_true,decide_eq_true_eq]
 refine ⟨fun x hx => ?_,hl⟩
 have:=hc x hx
 simp [WfD,Lit.wf,IntKind.min,IntKind.max,IntKind.signed,IntKind.bits] at this
 unfold inB
 simp
 omega
open Go.Proofs
structure Sts (m cfn:Nat) (st:List St):Prop where
 at_:∀j (h:j<st.length),(∃c:Nat,st[j].1=(c:Int)/\c<cfn)/\(∃p:Nat->Bool,st[j].2.1=Ap p m 0) /\ -1<=st[j].2.2.1/\st[j].2.2.1<(j:Int)
theorem Sts.push {m cfn:Nat} {st:List St} (h:Sts m cfn st) {c:Nat} (hc:c<cfn) (p:Nat->Bool) {b:Int} (h1 : -1<=b) (h2:b<(st.length:Int)):Sts m cfn (st++[((c:Int),Ap p m 0,b,())]):=by
 refine ⟨fun j hj => ?_⟩
 by_cases hl:j<st.length
 ·rw [List.getElem_append_left hl]
  exact h.at_ j hl
 ·have e:j=st.length:=by simp at hj;omega
  subst e
  rw [List.getElem_append_right (by omega)]
  simp only [Nat.sub_self,List.getElem_cons_zero]
  exact ⟨⟨c,rfl,hc⟩,⟨p,rfl⟩,h1,h2⟩
def ABz (l:List Bool):Nat:=l.foldr (fun b s=>(if b=true then 1 else 0)+s) 0
structure ShI (m cfn:Nat) (st:List St) (sn:List Bool):Prop where
 sts:Sts m cfn st
 len:sn.length=cfn*2 ^ m
 cnt:st.length<=cfn+ABz sn
open Go.Proofs
def Awx (g:Gr) (w:List (List Int)):Prop:=g.2.1.length<=200/\w.length<=60 /\ ∀l∈w,l.length<=10
theorem Awx.ok {g:Gr} {w:List (List Int)} (h:Awx g w):okL g.2.1=true/\I6 w=true:=⟨Et (by have:=h.1;omega),Abp (by have:=h.2.1;omega) (List.all_eq_true.2 fun l hl=>decide_eq_true (by have:=h.2.2 l hl;omega))⟩
open Go.Proofs
inductive WinS (B:Nat->Nat->Prop) (S:Nat->Prop):Nat->Nat->Prop
 | home {c:Nat}:S c->WinS B S c c
 | take {c r:Nat}:S c->S r->B c r->WinS B S c r
 | go {c r b:Nat}:S c->S r->S b->B c b->(∀q,S q->B r q->WinS B S b q)->WinS B S c r
def C0 (B:Nat->Nat->Prop) (S:Nat->Prop):Prop := ∃c,S c /\ ∀r,S r->WinS B S c r
def Aaa (B:Nat->Nat->Prop) (S:Nat->Prop) (x y:Nat):Prop:=x≠y/\S x/\S y /\ ∀z,S z->B x z->B y z
def Xn (S:Nat->Prop) (x:Nat):Nat->Prop:=fun z=>S z/\z≠x
section
variable {B:Nat->Nat->Prop} {S:Nat->Prop} (hr:∀x,B x x) (hs:∀x y,B x y->B y x)
include hr hs in
theorem Azh {x y:Nat} (h:Aaa B S x y) (hw:C0 B (Xn S x)):C0 B S:=by
 obtain ⟨hne,hx,hy,hc⟩:=h
 have key:∀{c r':Nat},WinS B (Xn S x) c r' -> ∀r,S r->(r=x/\r'=y\/r≠x/\r'=r)->WinS B S c r:=by
  intro c r' hW
  induction hW with
  | home h=>
   rename_i c
   rintro r h2 (⟨rfl,rfl⟩ | ⟨h3,rfl⟩)
   ·exact .take hy hx (hc r hx (hr r))
   ·exact .home h2
  | take h1 h2 h3=>
   rename_i c r'
   rintro r h4 (⟨rfl,rfl⟩ | ⟨h5,rfl⟩)
   ·exact .go h1.1 h4 hy h3 fun q q1 q2=>.take hy q1 (hc q q1 q2)
   ·exact .take h1.1 h4 h3
  | go h1 h2 h3 h4 h5 ih=>
   rename_i c r' b
   rintro r h6 (⟨rfl,rfl⟩ | ⟨h7,rfl⟩)
   ·refine .go h1.1 h6 h3.1 h4 fun q q1 q2 => ?_
    by_cases hq:q=r
    ·exact ih r' ⟨hy,fun e=>hne e.symm⟩ (hr _) q q1 (.inl ⟨hq,rfl⟩)
    ·exact ih q ⟨q1,hq⟩ (hc q q1 q2) q q1 (.inr ⟨hq,rfl⟩)
   ·refine .go h1.1 h6 h3.1 h4 fun q q1 q2 => ?_
    by_cases hq:q=x
    ·subst hq
     exact ih y ⟨hy,fun e=>hne e.symm⟩ (hs _ _ (hc _ h6 (hs _ _ q2))) q q1 (.inl ⟨rfl,rfl⟩)
    ·exact ih q ⟨q1,hq⟩ q2 q q1 (.inr ⟨hq,rfl⟩)
 obtain ⟨c,hc1,hc2⟩:=hw
 refine ⟨c,hc1.1,fun r h => ?_⟩
 by_cases e:r=x
 ·exact key (hc2 y ⟨hy,fun e=>hne e.symm⟩) r h (.inl ⟨e,rfl⟩)
 ·exact key (hc2 r ⟨h,e⟩) r h (.inr ⟨e,rfl⟩)
include hr hs in
theorem Aqu {x y:Nat} (h:Aaa B S x y) (hw:C0 B S):C0 B (Xn S x):=by
 obtain ⟨hne,hx,hy,hc⟩:=h
 have hy':Xn S x y:=⟨hy,fun e=>hne e.symm⟩
 have key:∀{c r:Nat},WinS B S c r->Xn S x r -> ∀c',(c=x/\c'=y\/c≠x/\c'=c)->WinS B (Xn S x) c' r:=by
  intro c r hW
  induction hW with
  | home h=>
   rename_i c
   rintro h2 c' (⟨rfl,rfl⟩ | ⟨h3,rfl⟩)
   ·exact absurd rfl h2.2
   ·exact .home h2
  | take h1 h2 h3=>
   rename_i c r
   rintro h4 c' (⟨rfl,rfl⟩ | ⟨h5,rfl⟩)
   ·exact .take hy' h4 (hc _ h2 h3)
   ·exact .take ⟨h1,h5⟩ h4 h3
  | go h1 h2 h3 h4 h5 ih=>
   rename_i c r b
   rintro h6 c' h7
   have hc':Xn S x c':=by
    rcases h7 with ⟨_,rfl⟩ | ⟨h8,rfl⟩
    ·exact hy'
    ·exact ⟨h1,h8⟩
   by_cases hb:b=x
   ·subst hb
    refine .go (b:=y) hc' h6 hy' ?_ fun q q1 q2=>ih q q1.1 q2 q1 y (.inl ⟨rfl,rfl⟩)
    rcases h7 with ⟨rfl,rfl⟩ | ⟨h8,rfl⟩
    ·exact hr _
    ·exact hs _ _ (hc _ h1 (hs _ _ h4))
   ·refine .go (b:=b) hc' h6 ⟨h3,hb⟩ ?_ fun q q1 q2=>ih q q1.1 q2 q1 b (.inr ⟨hb,rfl⟩)
    rcases h7 with ⟨rfl,rfl⟩ | ⟨h8,rfl⟩
    ·exact hc _ h3 h4
    ·exact h4
 obtain ⟨c,hc1,hc2⟩:=hw
 by_cases e:c=x
 ·exact ⟨y,hy',fun r h=>key (hc2 r h.1) h y (.inl ⟨e,rfl⟩)⟩
 ·exact ⟨c,⟨hc1,e⟩,fun r h=>key (hc2 r h.1) h c (.inr ⟨e,rfl⟩)⟩
include hr in
theorem Aer (hno:∀x y,¬Aaa B S x y) {a b:Nat} (ha:S a) (hb:S b) (hab:a≠b):¬C0 B S:=by
 rintro ⟨c,hc1,hc2⟩
 have key:∀{c r:Nat},WinS B S c r->B c r:=by
  intro c r hW
  induction hW with
  | home h=>exact hr _
  | take h1 h2 h3=>exact h3
  | go h1 h2 h3 h4 h5 ih=>
   rename_i c r b
   by_cases e:b=r
   ·subst e;exact h4
   ·exact absurd ⟨fun e'=>e e'.symm,h2,h3,ih⟩ (hno r b)
 obtain ⟨d,hd,hdc⟩:∃d,S d/\d≠c:=by
  by_cases e:a=c
  ·exact ⟨b,hb,fun e'=>hab (e.trans e'.symm)⟩
  ·exact ⟨a,ha,e⟩
 exact hno d c ⟨hdc,hd,hc1,fun z hz _=>key (hc2 z hz)⟩
end
theorem U0 {B:Nat->Nat->Prop} {S:Nat->Prop} {a:Nat} (ha:S a) (h:∀b,S b->b=a):C0 B S:=
 ⟨a,ha,fun r hr=>by rw [h r hr];exact .home ha⟩
theorem C0.congr {B:Nat->Nat->Prop} {S S':Nat->Prop} (h:∀x,S x↔S' x) (hw:C0 B S):C0 B S':=by
 have:S=S':=funext fun x=>propext (h x)
 rwa [<- this]
end Go.V.W
namespace Go.V.W
open Go.Proofs
theorem Abb {n:Nat} {ball:Int->List Int}:∀(k:Nat) (t:Int) (f:Nat->Nat->Int),VL n f<k->0<=t->KQ n (BT n ball (CT n ball k t f))=false:=by
 intro k
 induction k with
 | zero=>intro t f h;omega
 | succ k ih=>
  intro t f h ht
  simp only [CT]
  by_cases hc:KQ n (BT n ball f)=true
  ·rw [if_pos hc]
   have:=JV ht hc
   exact ih _ _ (by omega) (by omega)
  ·rw [if_neg hc]
   simpa using hc
theorem Up {n:Nat} (hn:n<=8) {ball:Int->List Int} {c r:Nat} (hc:c<n) (hr:r<n) (h:AY (AS n ball) (c:Int) (r:Int)<0):∀b∈ball (c:Int),¬0<=AE ball (AS n ball) b (r:Int):=by
 intro b hb h0
 have h1:=Q6 n A0
 have h2:n*n<=64:=by
  have:=Nat.mul_le_mul hn hn
  omega
 have he:=Abb (n:=n) (ball:=ball) 65 1 A0 (by omega) (by omega)
 have:KQ n (BT n ball (CT n ball 65 1 A0))=true:=EB.2 ⟨c,r,hc,hr,by
  unfold BT
  unfold AS at h
  rw [Bj _ hc hr] at h
  rw [decide_eq_true h,Bool.true_and]
  exact List.any_eq_true.2 ⟨b,hb,decide_eq_true h0⟩⟩
 rw [he] at this
 cases this
def BN (es:List E) (x z:Nat):Prop:=An es x z=true
theorem QA (es:List E) (x:Nat):BN es x x:=by unfold BN An;simp
theorem Ae0 (es:List E) (x y:Nat) (h:BN es x y):BN es y x:=by
 unfold BN An at h |-
 rw [Afg]
 rw [Bool.or_eq_true,decide_eq_true_eq] at h |-
 exact h.imp id fun e=>e.symm
theorem HC {n:Nat} {es:List E} {x z:Nat} (hz:z<n):(z:Int)∈Ax n es (x:Int)↔BN es x z:=by
 unfold Ax BN An
 rw [Cs]
 constructor
 ·rintro ⟨y,_,_,h,e⟩
  have:y=z:=by omega
  subst this
  rw [Bool.or_eq_true,decide_eq_true_eq] at h |-
  exact h.imp id fun e=>by omega
 ·intro h
  refine ⟨z,by omega,by omega,?_,rfl⟩
  rw [Bool.or_eq_true,decide_eq_true_eq] at h |-
  exact h.imp id fun e=>by omega
theorem Aft {n:Nat} (hn:n<=8) {es:List E} {c r:Nat} (h:WinS (BN es) (fun x=>x<n) c r):0<=AY (AS n (Ax n es)) (c:Int) (r:Int):=by
 induction h with
 | home h=>rw [(So h h).2 rfl];exact Int.le_refl _
 | take h1 h2 h3=>
  rename_i c r
  apply Classical.byContradiction
  intro h
  refine Up hn h1 h2 (by omega) _ ((HC h2).2 h3) ?_
  unfold AE
  rw [if_pos rfl]
  exact Int.le_refl _
 | go h1 h2 h3 h4 h5 ih=>
  rename_i c r b
  apply Classical.byContradiction
  intro h
  refine Up hn h1 h2 (by omega) _ ((HC h3).2 h4) ?_
  unfold AE
  split
  ·exact Int.le_refl _
  ·rcases B3 (AY (AS n (Ax n es)) (b:Int)) (Ax n es (r:Int)) 0 with ⟨⟨z,hz,hneg⟩,_⟩ | ⟨_,h0,_⟩
   ·obtain ⟨q,hq,rfl⟩:=Fe n es r h2 z hz
    have:=ih q hq ((HC hq).1 hz)
    omega
   ·exact h0
theorem Ahu {n:Nat} {es:List E}:∀(k c r:Nat),c<n->r<n->0<=AY (AS n (Ax n es)) (c:Int) (r:Int)->AY (AS n (Ax n es)) (c:Int) (r:Int)<(k:Int)->WinS (BN es) (fun x=>x<n) c r:=by
 intro k
 induction k with
 | zero=>intro c r _ _ h1 h2;omega
 | succ k ih=>
  intro c r hc hr h1 h2
  by_cases e:c=r
  ·subst e;exact .home hc
  ·obtain ⟨b,q,hb,hq,k1,k2,k3,k4,k5,k6,k7⟩:=Ai5 (es:=es) hc hr e h1
   by_cases hbr:b=r
   ·subst hbr
    exact .take hc hr ((HC hb).1 k5)
   ·refine .go hc hr hb ((HC hb).1 k5) fun z hz hBz => ?_
    obtain ⟨m1,m2⟩:=k7 hbr z ((HC hz).2 hBz)
    exact ih b z hb hz m1 (by omega)
theorem Al7 {n:Nat} (hn:n<=8) (es:List E):(∃c,c<n /\ ∀r,r<n->0<=AY (AS n (Ax n es)) (c:Int) (r:Int))↔C0 (BN es) (fun x=>x<n):=by
 constructor
 ·rintro ⟨c,hc,h⟩
  exact ⟨c,hc,fun r hr=>Ahu _ c r hc hr (h r hr) (show _<(((AY (AS n (Ax n es)) (c:Int) (r:Int)).toNat+1:Nat):Int) by omega)⟩
 ·rintro ⟨c,hc,h⟩
  exact ⟨c,hc,fun r hr=>Aft hn (h r hr)⟩
def SP (n:Nat) (p:Nat->Bool):Nat->Prop:=fun x=>x<n/\p x=true
theorem Adp {n:Nat} {es:List E} {p:Nat->Bool} {x y:Nat} (hx:SP n p x) (hy:y<n):Ce n (An es) p x y=true↔Aaa (BN es) (SP n p) x y:=by
 unfold Ce Aaa
 simp only [ACo,Bool.not_eq_true',decide_eq_false_iff_not,List.all_eq_true,List.mem_range,Bool.or_eq_true]
 constructor
 ·rintro ⟨⟨h1,h2⟩,h3⟩
  refine ⟨h1,hx,⟨hy,h2⟩,fun z hz hB => ?_⟩
  rcases h3 z hz.1 with h | h
  ·have hB:An es x z=true:=hB
   rw [hz.2,hB] at h
   cases h
  ·exact h
 ·rintro ⟨h1,_,h2,h3⟩
  refine ⟨⟨h1,h2.2⟩,fun z hz => ?_⟩
  cases hc:p z&&An es x z with
  | false=>exact .inl rfl
  | true=>
   rw [ACo] at hc
   exact .inr (h3 z ⟨hz,hc.1⟩ hc.2)
theorem QW {n:Nat} {es:List E} {p:Nat->Bool} {x:Nat} (hx:x<n):Ba n (An es) p x=true ↔ ∃y,Aaa (BN es) (SP n p) x y:=by
 unfold Ba
 rw [ACo,List.any_eq_true]
 constructor
 ·rintro ⟨h1,y,hy,h2⟩
  exact ⟨y,(Adp ⟨hx,h1⟩ (List.mem_range.1 hy)).1 h2⟩
 ·rintro ⟨y,h⟩
  exact ⟨h.2.1.2,y,List.mem_range.2 h.2.2.1.1,(Adp h.2.1 h.2.2.1.1).2 h⟩
theorem Nv {n:Nat} {p:Nat->Bool} {x z:Nat}:SP n (BC p x) z↔Xn (SP n p) x z:=by
 show (z<n/\(p z && !decide (z=x))=true)↔(z<n/\p z=true)/\z≠x
 rw [ACo,Bool.not_eq_true',decide_eq_false_iff_not]
 constructor
 ·rintro ⟨h1,h2,h3⟩;exact ⟨⟨h1,h2⟩,h3⟩
 ·rintro ⟨⟨h1,h2⟩,h3⟩;exact ⟨h1,h2,h3⟩
theorem QN {n:Nat} {es:List E} {p:Nat->Bool} {x:Nat} (hx:x<n) (h:Ba n (An es) p x=true):C0 (BN es) (SP n p)↔C0 (BN es) (SP n (BC p x)):=by
 obtain ⟨y,hy⟩:=(QW hx).1 h
 constructor
 ·intro hw
  exact (Aqu (QA es) (Ae0 es) hy hw).congr fun z=>Nv.symm
 ·intro hw
  exact Azh (QA es) (Ae0 es) hy (hw.congr fun z=>Nv)
theorem C8 {n:Nat} {p:Nat->Bool} {x:Nat} (hx:SP n p x):Ay n p=Ay n (BC p x)+1:=by
 unfold Ay
 have key:∀(l:List Nat),l.Nodup->x∈l->l.countP p=l.countP (BC p x)+1:=by
  intro l
  induction l with
  | nil=>intro _ h;simp at h
  | cons a l ih=>
   intro hnd hm
   rw [List.nodup_cons] at hnd
   rcases List.mem_cons.1 hm with rfl | hm
   ·have e1:p x=true:=hx.2
    have e2:BC p x x=false:=by unfold BC;simp
    have e3:l.countP p=l.countP (BC p x):=List.countP_congr fun z hz=>by
     have:z≠x:=fun e=>hnd.1 (e▸hz)
     unfold BC
     simp [this]
    rw [List.countP_cons,List.countP_cons,e1,e2,e3]
    simp
   ·have hne:a≠x:=fun e=>hnd.1 (e▸hm)
    have e1:BC p x a=p a:=by unfold BC;simp [hne]
    rw [List.countP_cons,List.countP_cons,e1,ih hnd.2 hm]
    omega
 exact key _ List.nodup_range (List.mem_range.2 hx.1)
theorem K7 {n:Nat} {q:Nat->Bool} (h:(List.range n).any q=true):Bh q n 0<n/\q (Bh q n 0)=true:=by
 obtain ⟨x,hx,hq⟩:=List.any_eq_true.1 h
 obtain ⟨_,h1,h2⟩:=XF (p:=q) (k:=n) (x:=0) ⟨x,Nat.zero_le _,by have:=List.mem_range.1 hx;omega,hq⟩
 exact ⟨by omega,h2⟩
theorem Sd {n:Nat} {es:List E}:∀(k:Nat) (p:Nat->Bool),Ay n p<k->(C0 (BN es) (SP n p)↔C0 (BN es) (SP n (A7 n (An es) k p).2))/\(∀x,x<n->Ba n (An es) (A7 n (An es) k p).2 x=false)/\(0<Ay n p->0<Ay n (A7 n (An es) k p).2) /\
  Ay n p=(A7 n (An es) k p).1.length+Ay n (A7 n (An es) k p).2 /\ ∀x,(A7 n (An es) k p).2 x=true->p x=true:=by
 intro k
 induction k with
 | zero=>intro p h;omega
 | succ k ih=>
  intro p h
  simp only [A7]
  by_cases hc:(List.range n).any (Ba n (An es) p)=true
  ·rw [if_pos hc]
   obtain ⟨h1,h2⟩:=K7 hc
   generalize Bh (Ba n (An es) p) n 0=x at h1 h2
   have hx:SP n p x:=⟨h1,by unfold Ba at h2;rw [ACo] at h2;exact h2.1⟩
   have ho:=C8 hx
   obtain ⟨i1,i2,i3,i4,i5⟩:=ih (BC p x) (by omega)
   refine ⟨(QN h1 h2).trans i1,i2,fun _=>i3 ?_,by simp only [List.length_cons];omega,fun z hz => ?_⟩
   ·obtain ⟨y,hy⟩:=(QW h1).1 h2
    unfold Ay
    rw [List.countP_pos_iff]
    exact ⟨y,List.mem_range.2 hy.2.2.1.1,(Nv.2 ⟨hy.2.2.1,fun e=>hy.1 e.symm⟩).2⟩
   ·have:=i5 z hz
    unfold BC at this
    rw [ACo] at this
    exact this.1
  ·rw [if_neg hc]
   refine ⟨Iff.rfl,fun x hx => ?_,fun h=>h,by simp,fun x hx=>hx⟩
   cases hq:Ba n (An es) p x with
   | false=>rfl
   | true=>exact absurd (List.any_eq_true.2 ⟨x,List.mem_range.2 hx,hq⟩) hc
theorem Xp {n:Nat} {p:Nat->Bool} (h:2<=Ay n p):∃a b,SP n p a/\SP n p b/\a≠b:=by
 have h0:0<Ay n p:=by omega
 unfold Ay at h0
 obtain ⟨a,ha,hpa⟩:=List.countP_pos_iff.1 h0
 have hA:SP n p a:=⟨List.mem_range.1 ha,hpa⟩
 have:=C8 hA
 have h1:0<Ay n (BC p a):=by omega
 unfold Ay at h1
 obtain ⟨b,hb,hpb⟩:=List.countP_pos_iff.1 h1
 obtain ⟨h2,h3⟩:=Nv.1 (show SP n (BC p a) b from ⟨List.mem_range.1 hb,hpb⟩)
 exact ⟨a,b,hA,h2,fun e=>h3 e.symm⟩
theorem RW {n:Nat} {p:Nat->Bool} (h:Ay n p=1):∃a,SP n p a /\ ∀b,SP n p b->b=a:=by
 have h0:0<Ay n p:=by omega
 unfold Ay at h0
 obtain ⟨a,ha,hpa⟩:=List.countP_pos_iff.1 h0
 have hA:SP n p a:=⟨List.mem_range.1 ha,hpa⟩
 refine ⟨a,hA,fun b hb=>Classical.byContradiction fun e => ?_⟩
 have:=C8 hA
 have h1:0<Ay n (BC p a):=by
  unfold Ay
  rw [List.countP_pos_iff]
  exact ⟨b,List.mem_range.2 hb.1,(Nv.2 ⟨hb,e⟩).2⟩
 omega
theorem Aqc {n:Nat} {es:List E} {p:Nat->Bool} (h:∀x,x<n->Ba n (An es) p x=false) (h0:0<Ay n p):C0 (BN es) (SP n p)↔Ay n p=1:=by
 constructor
 ·intro hw
  apply Classical.byContradiction
  intro h1
  obtain ⟨a,b,ha,hb,hab⟩:=Xp (show 2<=Ay n p by omega)
  refine Aer (QA es) (fun x y hxy => ?_) ha hb hab hw
  have:=(QW hxy.2.1.1).2 ⟨y,hxy⟩
  rw [h x hxy.2.1.1] at this
  cases this
 ·intro h1
  obtain ⟨a,ha,hb⟩:=RW h1
  exact U0 ha hb
theorem Afm {n:Nat} {es:List E} {k:Nat} {p:Nat->Bool} (hk:Ay n p<k) (h0:0<Ay n p):C0 (BN es) (SP n p)↔Ay n (A7 n (An es) k p).2=1:=by
 obtain ⟨i1,i2,i3,_⟩:=Sd (es:=es) k p hk
 exact i1.trans (Aqc i2 (i3 h0))
theorem Qr:∀m:Nat,m<256 -> ∀x:Nat,x<8->m.testBit x=true -> ∀y:Nat,y<8->(m-2 ^ x).testBit y=(m.testBit y && !decide (y=x)):=by decide +kernel
theorem J7 {m x:Nat} (hm:m<256):m-2 ^ x<256:=Nat.lt_of_le_of_lt (Nat.sub_le _ _) hm
theorem Al9 {n m x:Nat} (hn:n<=8) (hm:m<256) (hx:x<n) (hb:m.testBit x=true) (z:Nat):SP n (m-2 ^ x).testBit z↔SP n (BC m.testBit x) z:=by
 unfold SP
 constructor
 ·rintro ⟨h1,h2⟩
  rw [Qr m hm x (by omega) hb z (by omega)] at h2
  exact ⟨h1,h2⟩
 ·rintro ⟨h1,h2⟩
  refine ⟨h1,?_⟩
  rw [Qr m hm x (by omega) hb z (by omega)]
  exact h2
theorem IV {n:Nat} {p q:Nat->Bool} (h:∀x,x<n->p x=q x):Ay n p=Ay n q:=List.countP_congr fun x hx=>by rw [h x (List.mem_range.1 hx)]
theorem LL {n m x:Nat} (hn:n<=8) (hm:m<256) (hx:x<n) (hb:m.testBit x=true):Ay n m.testBit=Ay n (m-2 ^ x).testBit+1:=by
 rw [C8 (x:=x) ⟨hx,hb⟩]
 congr 1
 exact IV fun z hz=>by rw [Qr m hm x (by omega) hb z (by omega)];rfl
theorem Aoi {α:Type} (q:α->Bool) (f:α->Nat):∀(l:List α) (s:Nat),0<l.foldl (fun s x=>if q x=true then s+f x else s) s↔0<s \/ ∃x∈l,q x=true/\0<f x:=by
 intro l
 induction l with
 | nil=>intro s;simp
 | cons a l ih=>
  intro s
  rw [List.foldl_cons,ih]
  by_cases h:q a=true
  ·rw [if_pos h]
   constructor
   ·rintro (h1 | ⟨x,hx,h2⟩)
    ·by_cases hs:0<s
     ·exact .inl hs
     ·exact .inr ⟨a,List.mem_cons_self ..,h,by omega⟩
    ·exact .inr ⟨x,List.mem_cons_of_mem _ hx,h2⟩
   ·rintro (h1 | ⟨x,hx,h2,h3⟩)
    ·exact .inl (by omega)
    ·rcases List.mem_cons.1 hx with rfl | hx
     ·exact .inl (by omega)
     ·exact .inr ⟨x,hx,h2,h3⟩
  ·rw [if_neg h]
   constructor
   ·rintro (h1 | ⟨x,hx,h2⟩)
    ·exact .inl h1
    ·exact .inr ⟨x,List.mem_cons_of_mem _ hx,h2⟩
   ·rintro (h1 | ⟨x,hx,h2,h3⟩)
    ·exact .inl h1
    ·rcases List.mem_cons.1 hx with rfl | hx
     ·exact absurd h2 h
     ·exact .inr ⟨x,hx,h2,h3⟩
theorem Avk {α:Type} (q:α->Bool) (f:α->Nat) (b:Nat):∀(l:List α) (s:Nat),(∀x∈l,q x=true->f x<=b)->l.foldl (fun s x=>if q x=true then s+f x else s) s<=s+l.length*b:=by
 intro l
 induction l with
 | nil=>intro s _;simp
 | cons a l ih=>
  intro s h
  rw [List.foldl_cons,List.length_cons,Nat.succ_mul]
  have h2:=fun s'=>ih s' fun x hx=>h x (List.mem_cons_of_mem _ hx)
  by_cases hq:q a=true
  ·rw [if_pos hq]
   have:=h a (List.mem_cons_self ..) hq
   have:=h2 (s+f a)
   omega
  ·rw [if_neg hq]
   have:=h2 s
   omega
theorem SG {α:Type} {q q':α->Bool} {f f':α->Nat}:∀(l:List α) (s:Nat),(∀x∈l,q x=q' x/\(q x=true->f x=f' x))->l.foldl (fun s x=>if q x=true then s+f x else s) s=l.foldl (fun s x=>if q' x=true then s+f' x else s) s:=by
 intro l
 induction l with
 | nil=>intro s _;rfl
 | cons a l ih=>
  intro s h
  obtain ⟨h1,h2⟩:=h a (List.mem_cons_self ..)
  rw [List.foldl_cons,List.foldl_cons,<- h1,ih _ fun x hx=>h x (List.mem_cons_of_mem _ hx)]
  congr 1
  by_cases hq:q a=true
  ·rw [if_pos hq,if_pos hq,h2 hq]
  ·rw [if_neg hq,if_neg hq]
theorem Aqt {n:Nat} (hn:n<=8) {es:List E}:∀(k k' m:Nat),m<256->Ay n m.testBit<=k->Ay n m.testBit<=k'->0<Ay n m.testBit->CV n (An es) k m=CV n (An es) k' m:=by
 intro k
 induction k with
 | zero=>intro k' m _ h1 _ h2;omega
 | succ k ih=>
  intro k' m hm h1 h2 h3
  obtain ⟨k',rfl⟩:∃z,k'=z+1:=⟨k'-1,by omega⟩
  simp only [CV]
  by_cases h:Ay n m.testBit=1
  ·rw [if_pos h,if_pos h]
  ·rw [if_neg h,if_neg h]
   refine SG _ _ fun x hx=>⟨rfl,fun hc => ?_⟩
   have hxn:=List.mem_range.1 hx
   have hb:m.testBit x=true:=by unfold Ba at hc;rw [ACo] at hc;exact hc.1
   have:=LL hn hm hxn hb
   exact ih k' _ (J7 hm) (by omega) (by omega) (by omega)
theorem Aye {n:Nat} (hn:n<=8) {es:List E}:∀(k m:Nat),CV n (An es) k m<=8 ^ k:=by
 intro k
 induction k with
 | zero=>intro m;simp [CV]
 | succ k ih=>
  intro m
  simp only [CV]
  split
  ·exact Nat.one_le_pow _ _ (by omega)
  ·refine Nat.le_trans (Avk _ _ (8 ^ k) _ _ fun x _ _=>ih _) ?_
   rw [List.length_range,Nat.pow_succ,Nat.zero_add,Nat.mul_comm]
   exact Nat.mul_le_mul_left _ hn
theorem As7 {n:Nat} (hn:n<=8) {es:List E}:∀(k m:Nat),m<256->Ay n m.testBit<=k->0<Ay n m.testBit->(0<CV n (An es) k m↔C0 (BN es) (SP n m.testBit)):=by
 intro k
 induction k with
 | zero=>intro m _ h1 h2;omega
 | succ k ih=>
  intro m hm h1 h2
  simp only [CV]
  by_cases h:Ay n m.testBit=1
  ·rw [if_pos h]
   obtain ⟨a,ha,hb⟩:=RW h
   exact ⟨fun _=>U0 ha hb,fun _=>by omega⟩
  ·rw [if_neg h,Aoi]
   constructor
   ·rintro (h3 | ⟨x,hx,hc,h4⟩)
    ·omega
    ·have hxn:=List.mem_range.1 hx
     have hb:m.testBit x=true:=by unfold Ba at hc;rw [ACo] at hc;exact hc.1
     have:=LL hn hm hxn hb
     have hw:=(ih _ (J7 hm) (by omega) (by omega)).1 h4
     exact (QN hxn hc).2 (hw.congr fun z=>Al9 hn hm hxn hb z)
   ·intro hw
    obtain ⟨a,b,ha,hb,hab⟩:=Xp (show 2<=Ay n m.testBit by omega)
    obtain ⟨x,y,hxy⟩:∃x y,Aaa (BN es) (SP n m.testBit) x y:=Classical.byContradiction fun hno=>Aer (QA es) (fun x y hxy=>hno ⟨x,y,hxy⟩) ha hb hab hw
    have hxn:=hxy.2.1.1
    have hxb:=hxy.2.1.2
    have hc:=(QW hxn).2 ⟨y,hxy⟩
    have:=LL hn hm hxn hxb
    refine .inr ⟨x,List.mem_range.2 hxn,hc,(ih _ (J7 hm) (by omega) (by omega)).2 ?_⟩
    exact ((QN hxn hc).1 hw).congr fun z=>(Al9 hn hm hxn hxb z).symm
theorem Asr {n:Nat} {es:List E}:∀(l:List Nat) (p:Nat->Bool),l≠[]->l.Nodup->(∀x,SP n p x↔x∈l)->G6 n (An es) p l=true->C0 (BN es) (SP n p):=by
 intro l
 induction l with
 | nil=>intro p h;exact absurd rfl h
 | cons a l ih=>
  intro p _ hnd hp ho
  match l,ih,hnd,hp,ho with
  | [],_,_,hp,_=>exact U0 ((hp a).2 (List.mem_singleton.2 rfl)) fun b hb=>List.mem_singleton.1 ((hp b).1 hb)
  | b::l,ih,hnd,hp,ho=>
   simp only [G6,ACo] at ho
   have hA:SP n p a:=(hp a).2 (List.mem_cons_self ..)
   have hc:Ba n (An es) p a=true:=by unfold Ba;rw [hA.2,Bool.true_and];exact ho.1
   rw [List.nodup_cons] at hnd
   refine (QN hA.1 hc).2 (ih (BC p a) (by simp) hnd.2 (fun x => ?_) ho.2)
   rw [Nv]
   constructor
   ·rintro ⟨h1,h2⟩
    exact (List.mem_cons.1 ((hp x).1 h1)).resolve_left h2
   ·intro h1
    exact ⟨(hp x).2 (List.mem_cons_of_mem _ h1),fun e=>hnd.1 (e▸h1)⟩
open Go.Proofs
def Ayc (B:Nat->Nat->Prop) (S:Nat->Prop):Prop := ∀A:Nat->Prop,(∃a,S a/\A a)->(∀x,S x->A x -> ∀z,S z->B x z->A z) -> ∀z,S z->A z
theorem Ayc.congr {B:Nat->Nat->Prop} {S S':Nat->Prop} (h:∀x,S x↔S' x) (hw:Ayc B S):Ayc B S':=by
 have:S=S':=funext fun x=>propext (h x)
 rwa [<- this]
open Go.Proofs
theorem OU {n:Nat} (hn:n<=8):2 ^ n<=256:=Nat.pow_le_pow_right (by omega) hn
inductive ChC (n:Nat) (sz:Nat->Int) (v:Int):Nat->Nat->Prop
 | nil (m:Nat):ChC n sz v m m
 | cons {m x t:Nat}:x<n->m.testBit x=false->sz (m+2 ^ x)<=v->ChC n sz v (m+2 ^ x) t->ChC n sz v m t
theorem ChC.last {n:Nat} {sz:Nat->Int} {v:Int} {a t:Nat} (h:ChC n sz v a t):a=t \/ ∃m x,x<n/\m.testBit x=false/\t=m+2 ^ x/\sz t<=v/\ChC n sz v a m:=by
 induction h with
 | nil m=>exact .inl rfl
 | cons h1 h2 h3 h4 ih=>
  rename_i m x t
  right
  rcases ih with e | ⟨m',x',k1,k2,k3,k4,k5⟩
  ·subst e
   exact ⟨m,x,h1,h2,rfl,h3,.nil _⟩
  ·exact ⟨m',x',k1,k2,k3,k4,.cons h1 h2 h3 k5⟩
theorem BQ {p:Nat->Bool} {n:Nat}:(Ap p n 0).length=Ay n p:=by
 have key:∀k x,(Ap p k x).length=(List.range' x k).countP p:=by
  intro k
  induction k with
  | zero=>intro x;rfl
  | succ k ih=>
   intro x
   rw [List.range'_succ,List.countP_cons,Ap]
   by_cases h:p x=true
   ·simp [h,ih]
   ·simp [h,ih]
 rw [key]
 unfold Ay
 rw [List.range_eq_range']
open Go.Proofs
theorem Aqd {a b:Nat} (ha:a<256):(((GI a b:Nat):Int) != 0)=(List.range 8).any fun y=>a.testBit y && !b.testBit y:=by
 have hlt:GI a b<256:=Ad5 ha
 cases h:(List.range 8).any fun y=>a.testBit y && !b.testBit y with
 | false=>
  have:GI a b=0:=by
   apply Nat.eq_of_testBit_eq
   intro y
   rw [Nat.zero_testBit]
   by_cases hy:y<8
   ·rw [Sg a b y ha]
    rw [List.any_eq_false] at h
    simpa using h y (List.mem_range.2 hy)
   ·exact Nat.testBit_lt_two_pow (Nat.lt_of_lt_of_le hlt (show 2 ^ 8<=2 ^ y from Nat.pow_le_pow_right (by omega) (by omega)))
  rw [this]
  rfl
 | true=>
  obtain ⟨y,hy,h2⟩:=List.any_eq_true.1 h
  have:GI a b≠0:=fun e=>by
   have h3:=Sg a b y ha
   rw [e,Nat.zero_testBit] at h3
   rw [<- h3] at h2
   cases h2
  simpa using this
theorem Afk {T:List Int} {i j:Nat} {c:Int} (h:i≠j):at_ I (List.set T i c) j=at_ I T j:=by
 unfold at_
 rw [ACy,ACy,List.getElem?_set_ne h]
def AO (ys:List Nat):List Int:=ys.map fun y:Nat=>(y:Int)
open Go.Proofs
theorem Ahq (es:List E) (a b:Int):BH es a b=BH es b a:=by
 unfold BH
 congr 1
 funext e
 rw [Bool.or_comm]
theorem Akp (p:Nat->Bool):∀k x,Ap p k x=AO ((List.range' x k).filter p):=by
 intro k
 induction k with
 | zero=>intro x;rfl
 | succ k ih=>
  intro x
  rw [List.range'_succ,List.filter_cons,Ap,ih (x+1)]
  split<;>rfl
theorem D3 (n:Nat) (p:Nat->Bool):Ap p n 0=AO ((List.range n).filter p):=by rw [Akp,List.range_eq_range']
theorem Arr (p:Nat->Bool) (q:Int->Bool) (n:Nat):(Ap p n 0).all q=(List.range n).all fun z => !p z||q (z:Int):=by
 rw [D3]
 unfold AO
 rw [List.all_map,List.all_filter]
 rfl
theorem Km {n:Nat} {s:List Int} (h:Pi n s=true):s=Ap (BR s) n 0:=of_decide_eq_true h
theorem IC {n x:Nat} {p:Nat->Bool} (hx:x<n):BR (Ap p n 0) x=p x:=Lv hx
theorem J4 (n:Nat) (p:Nat->Bool):Pi n (Ap p n 0)=true:=decide_eq_true (Bm fun y _ h=>(IC (by omega)).symm)
theorem RD {n:Nat} {s:List Int} (h:Pi n s=true):s.length<=n:=by
 rw [Km h]
 exact C3
theorem Aek {n:Nat} {s:List Int} (h:Pi n s=true) {i:Nat} (hi:i<s.length):∃y:Nat,y<n/\s[i]=(y:Int)/\BR s y=true:=by
 have hm:s[i]∈Ap (BR s) n 0:=by
  rw [<- Km h]
  exact ACw hi
 obtain ⟨y,_,h1,h2,h3⟩:=Cs.1 hm
 exact ⟨y,by omega,h3,h2⟩
theorem EP {n:Nat} {b b':Nat->Nat->Bool} {p p':Nat->Bool} (hb:∀x y,x<n->y<n->b x y=b' x y) (hp:∀x,x<n->p x=p' x) {x y:Nat} (hx:x<n) (hy:y<n):Ce n b p x y=Ce n b' p' x y:=by
 unfold Ce
 rw [hp y hy]
 congr 1
 rw [Bool.eq_iff_iff,List.all_eq_true,List.all_eq_true]
 have:∀z∈List.range n,((!(p z&&b x z)||b y z)=(!(p' z&&b' x z)||b' y z)):=fun z hz=>by
  have hz:=List.mem_range.1 hz
  rw [hp z hz,hb x z hx hz,hb y z hy hz]
 exact ⟨fun h z hz=>by rw [<- this z hz];exact h z hz,fun h z hz=>by rw [this z hz];exact h z hz⟩
theorem DW {n:Nat} {f g:Nat->Bool} (h:∀x,x<n->f x=g x):(List.range n).any f=(List.range n).any g:=by
 rw [Bool.eq_iff_iff,List.any_eq_true,List.any_eq_true]
 constructor
 ·rintro ⟨x,hx,h1⟩;exact ⟨x,hx,by rw [<- h x (List.mem_range.1 hx)];exact h1⟩
 ·rintro ⟨x,hx,h1⟩;exact ⟨x,hx,by rw [h x (List.mem_range.1 hx)];exact h1⟩
theorem In {n:Nat} {b b':Nat->Nat->Bool} {p p':Nat->Bool} (hb:∀x y,x<n->y<n->b x y=b' x y) (hp:∀x,x<n->p x=p' x) {x:Nat} (hx:x<n):Ba n b p x=Ba n b' p' x:=by
 unfold Ba
 rw [hp x hx,DW fun y hy=>EP hb hp hx hy]
theorem UE {n:Nat} {b b':Nat->Nat->Bool} {p p':Nat->Bool} (hb:∀x y,x<n->y<n->b x y=b' x y) (hp:∀x,x<n->p x=p' x) {x:Nat} (hx:x<n):FE n b p x=FE n b' p' x:=by
 unfold FE
 rw [DW fun y hy=>EP hb hp hx hy,Iq fun y _ hy=>EP hb hp hx (show y<n by omega)]
theorem Jt {n:Nat} {b b':Nat->Nat->Bool} (hb:∀x y,x<n->y<n->b x y=b' x y):∀(k:Nat) (p p':Nat->Bool),(∀x,x<n->p x=p' x) ->
  (A7 n b k p).1=(A7 n b' k p').1 /\ ∀x,x<n->(A7 n b k p).2 x=(A7 n b' k p').2 x:=by
 intro k
 induction k with
 | zero=>intro p p' hp;exact ⟨rfl,hp⟩
 | succ k ih=>
  intro p p' hp
  have ha:=DW fun x hx=>In hb hp (x:=x) hx
  have hf:Bh (Ba n b p) n 0=Bh (Ba n b' p') n 0:=Iq fun y _ hy=>In hb hp (show y<n by omega)
  simp only [A7,ha]
  split
  ·rename_i h
   have hx:=(K7 h).1
   have hc:Bh (Ce n b p (Bh (Ba n b p) n 0)) n 0=Bh (Ce n b' p' (Bh (Ba n b' p') n 0)) n 0:=by
    rw [hf]
    exact Iq fun y _ hy=>EP hb hp hx (show y<n by omega)
   have:=ih (BC p (Bh (Ba n b p) n 0)) (BC p' (Bh (Ba n b' p') n 0)) (fun x hx=>by unfold BC;rw [hp x hx,hf])
   exact ⟨by rw [hc,hf,<- this.1,hf],fun x hx=>this.2 x hx⟩
  ·exact ⟨rfl,hp⟩
def Apl (es:List E) (s:List Int) (y:Int) (z:Int):Bool := !Cu s z||(z==y||BH es z y)
theorem Ajb {n:Nat} {es:List E} {s:List Int} {x y:Nat} (hx:x<n) (hy:y<n) :
  Ce n (An es) (BR s) x y=((x:Int) != (y:Int)&&Cu s (y:Int)&&(Ax n es (x:Int)).all (Apl es s (y:Int))):=by
 unfold Ce Ax
 rw [Arr]
 have h1:((x:Int) != (y:Int)) = !decide (x=y):=by
  by_cases h:x=y
  ·subst h;simp
  ·have:((x:Int)==(y:Int))=false:=by simpa using (show (x:Int)≠(y:Int) by omega)
   simp [bne,this,h]
 rw [h1]
 congr 1
 congr 1
 funext z
 unfold Apl BR An
 have h2:decide ((z:Int)=(x:Int))=decide (z=x):=decide_eq_decide.2 (by omega)
 have h3:((z:Int)==(y:Int))=decide (z=y):=by
  by_cases h:z=y
  ·subst h;simp
  ·simpa [h] using (show (z:Int)≠(y:Int) by omega)
 rw [h2,h3,Ahq es (z:Int) (y:Int)]
 cases Cu s (z:Int)<;>cases (BH es (x:Int) (z:Int)||decide (z=x))<;>cases decide (z=y)<;>cases BH es (y:Int) (z:Int)<;>rfl
theorem Tj {g:Gr} (hg:grB g=true) {s:List Int} (hs:Pi g.1.toNat s=true) {x y:Nat} (hx:x<g.1.toNat) (hy:y<g.1.toNat) (v:Unit):ET (g,s,(x:Int),(y:Int),v)=some (Ce g.1.toNat (An g.2.1) (BR s) x y,()):=by
 obtain ⟨g1,g2,g3,g4⟩:=AV hg
 unfold ET
 have i1:inB 0 (g.1-1) (x:Int)=true:=AI.2 (by omega)
 have i2:inB 0 (g.1-1) (y:Int)=true:=AI.2 (by omega)
 simp only [hg,hs,i1,i2,Bool.and_self,if_true,Int.toNat_natCast]
theorem Wf (d) (r) (h:ET d=some r):∃N,Wx N d=some r:=by
 obtain ⟨g,s,x,y,v⟩:=d
 unfold ET at h
 split at h
 ·rename_i hc
  simp only [ACo] at hc
  obtain ⟨⟨⟨hg,hs⟩,hx⟩,hy⟩:=hc
  obtain ⟨g1,g2,g3,g4⟩:=AV hg
  obtain ⟨x1,x2⟩:=IU g2 hx
  obtain ⟨y1,y2⟩:=IU g2 hy
  obtain ⟨xn,hxn⟩:∃a,a=x.toNat:=⟨_,rfl⟩
  obtain ⟨yn,hyn⟩:∃a,a=y.toNat:=⟨_,rfl⟩
  rw [<- hxn] at x1 x2
  rw [<- hyn] at y1 y2
  subst x1 y1
  cases h
  have hls:=RD hs
  have ho:okL s=true:=decide_eq_true (by unfold lim;omega)
  have hhas:∀z:Int,E7 (s,z,())=some (Cu s z,()):=fun z=>by
   unfold E7
   rw [if_pos ho]
   rfl
  have hnear:∀z:Int,Dm (g,z,(yn:Int),())=some (BH g.2.1 z (yn:Int),()):=fun z=>by
   unfold Dm
   rw [if_pos g1]
  have hbl:=Kn g.1.toNat g.2.1 (xn:Int)
  refine ⟨20,?_⟩
  unfold Wx
  simp only [MP hg x2,Option.bind_some]
  have key:=Sl (L:=Q0 20) (r:=Kf 20) (fun _ _=>rfl) (Ax g.1.toNat g.2.1 (xn:Int)) (mk:=fun i=>(s,(xn:Int),(yn:Int),g,Ax g.1.toNat g.2.1 (xn:Int),(i:Int),()))
   (q:=Apl g.2.1 s (yn:Int)) (o:=.inl (false,())) (f:=.inr (.inl (s,(xn:Int),(yn:Int),())))
   (by
    intro back i hi
    have e:at_ I (Ax g.1.toNat g.2.1 (xn:Int)) i=(Ax g.1.toNat g.2.1 (xn:Int))[i]:=Aw (e:=I) hi
    unfold Kf
    simp only [AD hi,if_true,Ag hi,Int.toNat_natCast,e,hhas,hnear,Option.bind_some,Aq (show i<=100000 by omega)]
    generalize (Ax g.1.toNat g.2.1 (xn:Int))[i]=z
    unfold Apl
    cases Cu s z with
    | false=>simp
    | true=>
     by_cases hz:z=(yn:Int)
     ·simp [hz]
     ·have h1:(z==(yn:Int))=false:=by simpa using hz
      simp only [if_true,bne,h1,Bool.not_false,Bool.not_true,Bool.false_or]
      cases BH g.2.1 z (yn:Int)<;>simp)
   (by intro back;unfold Kf;simp only [A4,ACn,if_false]) 19 0 (by omega) (by omega)
  simp only [Int.natCast_zero,List.drop_zero] at key
  simp only [key,Int.toNat_natCast]
  rw [Ajb x2 y2]
  cases (Ax g.1.toNat g.2.1 (xn:Int)).all (Apl g.2.1 s (yn:Int)) with
  | false=>simp
  | true=>
   simp only [if_true,hhas,Bool.and_true,Option.bind_some]
   cases ((xn:Int) != (yn:Int))<;>simp
 ·cases h
theorem Lt {g:Gr} (hg:grB g=true) {s:List Int} (hs:Pi g.1.toNat s=true) {x:Nat} (hx:x<g.1.toNat) (v:Unit):EG (g,s,(x:Int),v)=some (FE g.1.toNat (An g.2.1) (BR s) x,()):=by
 obtain ⟨g1,g2,g3,g4⟩:=AV hg
 unfold EG
 have i1:inB 0 (g.1-1) (x:Int)=true:=AI.2 (by omega)
 simp only [hg,hs,i1,Bool.and_self,if_true,Int.toNat_natCast]
theorem Afr (p:Nat->Bool) (q:Nat->Bool) (hq:∀y,q y=true->p y=true):∀k x:Nat,((Ap p k x).find? (fun z=>q z.toNat)).getD (-1)=if (List.range' x k).any q=true then ((Bh q k x:Nat):Int) else -1:=by
 intro k
 induction k with
 | zero=>intro x;rfl
 | succ k ih=>
  intro x
  rw [List.range'_succ,List.any_cons,Ap,Bh]
  by_cases h:q x=true
  ·rw [if_pos (hq x h),if_pos h]
   simp [List.find?_cons,h]
  ·rw [if_neg h]
   have hf:q x=false:=by simpa using h
   rw [hf,Bool.false_or,<- ih (x+1)]
   split
   ·simp [List.find?_cons,hf]
   ·rfl
theorem Sx {α:Type} (q:α->Bool) (dflt:α):∀(l:List α) (i:Nat),(match ER q l i with | some j=>(∃h:j-i<l.length,i<=j/\l.find? q=some l[j-i]) | none=>l.find? q=none):=by
 intro l
 induction l with
 | nil=>intro i;rfl
 | cons a l ih=>
  intro i
  unfold ER
  by_cases h:q a=true
  ·simp only [h,if_true]
   exact ⟨by simp,ACr _,by simp [List.find?_cons,h]⟩
  ·have hf:q a=false:=by simpa using h
   simp only [hf,ACn,if_false]
   have:=ih (i+1)
   revert this
   cases ER q l (i+1) with
   | none=>intro this;simpa [List.find?_cons,hf] using this
   | some j=>
    rintro ⟨h1,h2,h3⟩
    have e:j-i=(j-(i+1))+1:=by omega
    refine ⟨by rw [e];simpa using h1,by omega,?_⟩
    simp only [e,List.getElem_cons_succ,List.find?_cons,hf]
    exact h3
theorem WX (d) (r) (h:EG d=some r):∃N,WL N d=some r:=by
 obtain ⟨g,s,x,v⟩:=d
 unfold EG at h
 split at h
 ·rename_i hc
  simp only [ACo] at hc
  obtain ⟨⟨hg,hs⟩,hx⟩:=hc
  obtain ⟨g1,g2,g3,g4⟩:=AV hg
  obtain ⟨x1,x2⟩:=IU g2 hx
  obtain ⟨xn,hxn⟩:∃a,a=x.toNat:=⟨_,rfl⟩
  rw [<- hxn] at x1 x2
  subst x1
  cases h
  have hls:=RD hs
  refine ⟨20,?_⟩
  unfold WL
  have key:=Gs (L:=Qi 20) (r:=KL 20) (fun _ _=>rfl) (e:=I) s (mk:=fun i=>(s,(xn:Int),g,(i:Int),()))
   (q:=fun z=>Ce g.1.toNat (An g.2.1) (BR s) xn z.toNat) (o:=fun i=>.inl (at_ I s i,())) (f:=.inr (.inl ()))
   (by
    intro back i hi
    obtain ⟨y,y1,y2,y3⟩:=Aek hs hi
    have e:at_ I s i=(y:Int):=by rw [Aw (e:=I) hi];exact y2
    unfold KL
    simp only [AD hi,if_true,Ag hi,Int.toNat_natCast,e,Tj hg hs x2 y1,Option.bind_some,Aq (show i<=100000 by omega)])
   (by intro back;unfold KL;simp only [A4,ACn,if_false]) 19 0 (by omega) (by omega)
  simp only [Int.natCast_zero,List.drop_zero] at key
  simp only [key,Option.bind_some,Int.toNat_natCast]
  have hf:=Afr (BR s) (Ce g.1.toNat (An g.2.1) (BR s) xn) (fun y hy=>by
   unfold Ce at hy
   simp only [ACo] at hy
   exact hy.1.2) g.1.toNat 0
  rw [<- Km hs,<- List.range_eq_range'] at hf
  unfold FE
  rw [<- hf]
  have hi:=Sx (fun z:Int=>Ce g.1.toNat (An g.2.1) (BR s) xn z.toNat) 0 s 0
  revert hi
  cases ER (fun z:Int=>Ce g.1.toNat (An g.2.1) (BR s) xn z.toNat) s 0 with
  | none=>intro hi;rw [hi];rfl
  | some j=>
   rintro ⟨h1,_,h3⟩
   rw [h3]
   simp only [Nat.sub_zero,Option.getD_some] at h1 |-
   rw [Aw (e:=I) h1]
   rfl
 ·cases h
theorem Ty {n:Nat} {b:Nat->Nat->Bool} {p:Nat->Bool} {x:Nat}:decide (FE n b p x>=(0:Int))=(List.range n).any (Ce n b p x):=by
 unfold FE
 split
 ·rename_i h;rw [h];simp
 ·rename_i h
  have hf:(List.range n).any (Ce n b p x)=false:=by simpa using h
  rw [hf]
  rfl
theorem R5 {g:Gr} (hg:grB g=true) {s:List Int} (hs:Pi g.1.toNat s=true) (v:Unit):Cc (g,s,v)=some (Ap (Ba g.1.toNat (An g.2.1) (BR s)) g.1.toNat 0,()):=by
 unfold Cc
 simp only [hg,hs,Bool.and_self,if_true]
theorem To (d) (r) (h:Cc d=some r):∃N,Wl N d=some r:=by
 obtain ⟨g,s,v⟩:=d
 unfold Cc at h
 split at h
 ·rename_i hc
  simp only [ACo] at hc
  obtain ⟨hg,hs⟩:=hc
  obtain ⟨g1,g2,g3,g4⟩:=AV hg
  cases h
  have hls:=RD hs
  refine ⟨20,?_⟩
  unfold Wl
  have key:=F5 (L:=QK 20) (r:=KI 20) (fun _ _=>rfl) s (mk:=fun i A=>(s,g,A,(i:Int),()))
   (f:=fun z=>if (List.range g.1.toNat).any (Ce g.1.toNat (An g.2.1) (BR s) z.toNat)=true then [z] else []) (fun z=>by split<;>simp) (o:=fun A=>.inl (A,()))
   (by
    intro back i hi A hA
    obtain ⟨y,y1,y2,y3⟩:=Aek hs hi
    have e:at_ I s i=(y:Int):=by rw [Aw (e:=I) hi];exact y2
    have hok:decide (A.length+[(y:Int)].length<=lim)=true:=decide_eq_true (by simp only [List.length_singleton];unfold lim;omega)
    unfold KI
    simp only [AD hi,if_true,Ag hi,Int.toNat_natCast,e,y2,Lt hg hs y1,Option.bind_some,Ty,Aq (show i<=100000 by omega),hok]
    split<;>simp)
   (by intro back A hA;unfold KI;simp only [A4,ACn,if_false]) 19 (by omega)
  simp only [Int.natCast_zero] at key
  simp only [key,Option.bind_some,Jd]
  congr 2
  have e:=Km hs
  have:Ap (Ba g.1.toNat (An g.2.1) (BR s)) g.1.toNat 0=(Ap (BR s) g.1.toNat 0).filter fun z=>(List.range g.1.toNat).any (Ce g.1.toNat (An g.2.1) (BR s) z.toNat):=by
   rw [GJ]
   rfl
  rw [this,<- e]
 ·cases h
open Go.Proofs
theorem Yu (q:Nat->Bool):∀k x:Nat,(List.range' x k).any q=true -> ∃r,Ap q k x=((Bh q k x:Nat):Int)::r:=by
 intro k
 induction k with
 | zero=>intro x h;simp at h
 | succ k ih=>
  intro x h
  rw [List.range'_succ,List.any_cons] at h
  unfold Ap Bh
  by_cases hq:q x=true
  ·rw [if_pos hq,if_pos hq];exact ⟨_,rfl⟩
  ·rw [if_neg hq,if_neg hq]
   have hf:q x=false:=by simpa using hq
   rw [hf,Bool.false_or] at h
   exact ih (x+1) h
theorem EC {n:Nat} {q:Nat->Bool} (h:(List.range n).any q=true):0<(Ap q n 0).length/\at_ I (Ap q n 0) 0=((Bh q n 0:Nat):Int):=by
 obtain ⟨r,hr⟩:=Yu q n 0 (by rw [<- List.range_eq_range'];exact h)
 rw [hr]
 exact ⟨by simp,rfl⟩
theorem JD {n:Nat} {q:Nat->Bool}:(Ap q n 0).length=0↔(List.range n).any q=false:=by
 rw [BQ]
 unfold Ay
 rw [List.countP_eq_zero,List.any_eq_false]
theorem XQ {n:Nat} {b:Nat->Nat->Bool} {p:Nat->Bool} (h:(List.range n).any (Ba n b p)=true):2<=Ay n p:=by
 obtain ⟨x,hx,hc⟩:=List.any_eq_true.1 h
 unfold Ba at hc
 rw [ACo] at hc
 obtain ⟨hp,hc⟩:=hc
 obtain ⟨y,hy,hc⟩:=List.any_eq_true.1 hc
 unfold Ce at hc
 simp only [ACo,Bool.not_eq_true',decide_eq_false_iff_not] at hc
 have h1:=C8 (n:=n) (p:=p) (x:=x) ⟨List.mem_range.1 hx,hp⟩
 have h2:=C8 (n:=n) (p:=BC p x) (x:=y) ⟨List.mem_range.1 hy,by unfold BC;rw [hc.1.2];simpa using fun e=>hc.1.1 e.symm⟩
 omega
theorem Il {n:Nat} {b:Nat->Nat->Bool} {p:Nat->Bool} (h:Ay n p<=1):(List.range n).any (Ba n b p)=false:=by
 cases hc:(List.range n).any (Ba n b p) with
 | false=>rfl
 | true=>have:=XQ hc;omega
theorem CR {n:Nat} {b:Nat->Nat->Bool} {p:Nat->Bool} (h:(List.range n).any (Ba n b p)=false) (k:Nat):A7 n b k p=([],p):=by
 cases k with
 | zero=>rfl
 | succ k=>simp only [A7,h,ACn,if_false]
theorem LA {n:Nat} {b:Nat->Nat->Bool} {p:Nat->Bool} (h:(List.range n).any (Ba n b p)=true) (k:Nat):A7 n b (k+1) p =
  ((Bh (Ba n b p) n 0,Bh (Ce n b p (Bh (Ba n b p) n 0)) n 0)::(A7 n b k (BC p (Bh (Ba n b p) n 0))).1,(A7 n b k (BC p (Bh (Ba n b p) n 0))).2):=by
 simp only [A7,h,if_true]
theorem Kj {n:Nat} {b:Nat->Nat->Bool} {p:Nat->Bool} (h:(List.range n).any (Ba n b p)=true):SP n p (Bh (Ba n b p) n 0)/\(List.range n).any (Ce n b p (Bh (Ba n b p) n 0))=true:=by
 obtain ⟨h1,h2⟩:=K7 h
 unfold Ba at h2
 rw [ACo] at h2
 exact ⟨⟨h1,h2.1⟩,h2.2⟩
theorem Iy {n:Nat} (hn:n<=8) (p:Nat->Bool) (x:Nat) (v:Unit):CO (Ap p n 0,(x:Int),v)=some (Ap (BC p x) n 0,()):=by
 unfold CO
 have hl:(Ap p n 0).length<=n:=C3
 have ho:okL (Ap p n 0)=true:=decide_eq_true (show (Ap p n 0).length<=lim by unfold lim;omega)
 show (if okL (Ap p n 0)=true then some ((Ap p n 0).filter (fun y=>y != (x:Int)),()) else none)=_
 rw [if_pos ho,GJ]
 congr 2
 refine Bm fun y _ _ => ?_
 unfold BC
 congr 1
 by_cases h:y=x
 ·subst h;simp
 ·simp only [h,decide_false,Bool.not_false]
  simpa using (show (y:Int)≠(x:Int) by omega)
theorem Pb {g:Gr} (hg:grB g=true) (p:Nat->Bool) (v:Unit):Cc (g,Ap p g.1.toNat 0,v)=some (Ap (Ba g.1.toNat (An g.2.1) p) g.1.toNat 0,()):=by
 rw [R5 hg (J4 _ _)]
 congr 2
 exact Bm fun y _ hy=>In (fun _ _ _ _=>rfl) (fun z hz=>IC hz) (by omega)
theorem Js (n:Nat) (p:Nat->Bool):Ay n p<=n:=by rw [<- BQ];exact C3
theorem Mr {n:Nat} {b:Nat->Nat->Bool}:∀(k:Nat) (p:Nat->Bool),(A7 n b k p).1.length<=k:=by
 intro k
 induction k with
 | zero=>intro p;exact ACr _
 | succ k ih=>
  intro p
  simp only [A7]
  split
  ·simp only [List.length_cons]
   exact Nat.succ_le_succ (ih _)
  ·simp
theorem Ayd (N:Nat) {g:Gr} (hg:grB g=true):∀(m f:Nat) (p:Nat->Bool),Ay g.1.toNat p<=m->m<f -> ∃o,E5 N f (Ap p g.1.toNat 0,g,())=some o /\
  (match o with | .inl d4=>d4.1 | .inr (.inl d5)=>((List.length d5.1:Int)==(1:Int)))=decide (Ay g.1.toNat (A7 g.1.toNat (An g.2.1) (m+1) p).2=1):=by
 obtain ⟨g1,g2,g3,g4⟩:=AV hg
 intro m
 induction m with
 | zero=>
  intro f p h1 h2
  obtain ⟨f,rfl⟩:∃m,f=m+1:=⟨f-1,by omega⟩
  refine ⟨.inr (.inl (Ap p g.1.toNat 0,())),?_,?_⟩
  ·show C5 _ _ _=_
   unfold C5
   have:¬((Ap p g.1.toNat 0).length:Int)>1:=by rw [BQ];omega
   simp only [decide_eq_false this,ACn,if_false]
  ·rw [CR (Il (by omega))]
   simp only [BQ]
   have:Ay g.1.toNat p=0:=by omega
   rw [this]
   rfl
 | succ m ih=>
  intro f p h1 h2
  obtain ⟨f,rfl⟩:∃m,f=m+1:=⟨f-1,by omega⟩
  show ∃o,C5 _ _ _=_/\_
  unfold C5
  by_cases hl:Ay g.1.toNat p<=1
  ·refine ⟨.inr (.inl (Ap p g.1.toNat 0,())),?_,?_⟩
   ·have:¬((Ap p g.1.toNat 0).length:Int)>1:=by rw [BQ];omega
    simp only [decide_eq_false this,ACn,if_false]
   ·rw [CR (Il hl)]
    simp only [BQ]
    have:Ay g.1.toNat p=0\/Ay g.1.toNat p=1:=by omega
    rcases this with h | h<;>rw [h]<;>rfl
  ·have hgt:((Ap p g.1.toNat 0).length:Int)>1:=by rw [BQ];omega
   simp only [decide_eq_true hgt,if_true,Pb hg,Option.bind_some]
   by_cases hc:(List.range g.1.toNat).any (Ba g.1.toNat (An g.2.1) p)=true
   ·obtain ⟨k1,k2⟩:=EC hc
    obtain ⟨k3,k4⟩:=Kj hc
    have hne:(((Ap (Ba g.1.toNat (An g.2.1) p) g.1.toNat 0).length:Int)==(0:Int))=false:=by
     rw [beq_eq_false_iff_ne]
     omega
    have hi:=Ag (i:=0) k1
    simp only [Int.natCast_zero] at hi
    have ho:=C8 k3
    simp only [hne,ACn,if_false,hi,if_true,show (0:Int).toNat=0 from rfl,k2,Iy g3,Option.bind_some]
    rw [LA hc]
    exact ih f _ (by omega) (by omega)
   ·have hf:(List.range g.1.toNat).any (Ba g.1.toNat (An g.2.1) p)=false:=by simpa using hc
    have h0:=JD.2 hf
    have he:(((Ap (Ba g.1.toNat (An g.2.1) p) g.1.toNat 0).length:Int)==(0:Int))=true:=by rw [h0];rfl
    simp only [he,if_true]
    refine ⟨_,rfl,?_⟩
    rw [CR hf]
    simp only
    exact (decide_eq_false (by omega)).symm
theorem Aa9 {g:Gr} (hg:grB g=true) (p:Nat->Bool) (v:Unit):KC (g,Ap p g.1.toNat 0,v)=some (decide (Ay g.1.toNat (A7 g.1.toNat (An g.2.1) 9 p).2=1),()):=by
 unfold KC
 simp only [hg,J4,Bool.and_self,if_true]
 rw [(Jt (fun _ _ _ _=>rfl) 9 (BR (Ap p g.1.toNat 0)) p fun x hx=>IC hx).2 |> fun h=>show Ay g.1.toNat (A7 g.1.toNat (An g.2.1) 9 (BR (Ap p g.1.toNat 0))).2=Ay g.1.toNat (A7 g.1.toNat (An g.2.1) 9 p).2 from IV h]
theorem Ajl (d) (r) (h:KC d=some r):∃N,FU N d=some r:=by
 obtain ⟨g,s,v⟩:=d
 unfold KC at h
 split at h
 ·rename_i hc
  simp only [ACo] at hc
  obtain ⟨hg,hs⟩:=hc
  obtain ⟨g1,g2,g3,g4⟩:=AV hg
  cases h
  obtain ⟨o,h1,h2⟩:=Ayd 20 hg 8 20 (BR s) (Nat.le_trans (Js _ _) g3) (by omega)
  rw [<- Km hs] at h1
  refine ⟨20,?_⟩
  unfold FU
  simp only [h1,Option.bind_some]
  rw [<- h2]
  rcases o with d | d | e
  ·rfl
  ·rfl
  ·exact e.elim
 ·cases h
theorem Ate (N:Nat) {g:Gr} (hg:grB g=true):∀(m f:Nat) (p:Nat->Bool) (out:List Int),Ay g.1.toNat p<=m->m<f->out.length+m<=100->Ay g.1.toNat (A7 g.1.toNat (An g.2.1) (m+1) p).2=1 ->
  QQ N f (g,out,Ap p g.1.toNat 0,())=some (.inl (out++(A7 g.1.toNat (An g.2.1) (m+1) p).1.map (fun e=>((e.1:Nat):Int)),Ap (A7 g.1.toNat (An g.2.1) (m+1) p).2 g.1.toNat 0,())):=by
 obtain ⟨g1,g2,g3,g4⟩:=AV hg
 intro m
 induction m with
 | zero=>
  intro f p out h1 h2 _ h3
  rw [CR (Il (by omega))] at h3
  simp only at h3
  omega
 | succ m ih=>
  intro f p out h1 h2 h4 h3
  obtain ⟨f,rfl⟩:∃m,f=m+1:=⟨f-1,by omega⟩
  show NQ _ _ _=_
  unfold NQ
  by_cases hl:Ay g.1.toNat p<=1
  ·have:¬((Ap p g.1.toNat 0).length:Int)>1:=by rw [BQ];omega
   simp only [decide_eq_false this,ACn,if_false]
   rw [CR (Il hl)]
   simp
  ·have hgt:((Ap p g.1.toNat 0).length:Int)>1:=by rw [BQ];omega
   simp only [decide_eq_true hgt,if_true,Pb hg,Option.bind_some]
   by_cases hc:(List.range g.1.toNat).any (Ba g.1.toNat (An g.2.1) p)=true
   ·obtain ⟨k1,k2⟩:=EC hc
    obtain ⟨k3,k4⟩:=Kj hc
    have hi:=Ag (i:=0) k1
    simp only [Int.natCast_zero] at hi
    have ho:=C8 k3
    have hok:decide (out.length+[((Bh (Ba g.1.toNat (An g.2.1) p) g.1.toNat 0:Nat):Int)].length<=lim)=true:=decide_eq_true (by simp only [List.length_singleton];unfold lim;omega)
    simp only [hi,if_true,show (0:Int).toNat=0 from rfl,k2,Iy g3,Option.bind_some,hok]
    rw [LA hc] at h3 |-
    rw [ih f _ _ (by omega) (by omega) (by simp only [List.length_append,List.length_singleton];omega) h3]
    simp
   ·have hf:(List.range g.1.toNat).any (Ba g.1.toNat (An g.2.1) p)=false:=by simpa using hc
    rw [CR hf] at h3
    simp only at h3
    omega
theorem PE {g:Gr} (h:DB g=true):A9 g=true/\0<g.1:=by
 unfold DB at h
 rw [ACo,decide_eq_true_eq] at h
 exact h
theorem Aha {g:Gr} (hg:grB g=true) (h:Ay g.1.toNat (Bc g).2=1):∃c:Nat,c<g.1.toNat/\Ap (Bc g).2 g.1.toNat 0=[(c:Int)]:=by
 have hl:=BQ (n:=g.1.toNat) (p:=(Bc g).2)
 rw [h] at hl
 match hs:Ap (Bc g).2 g.1.toNat 0,hl with
 | [z],_=>
  have hm:z∈Ap (Bc g).2 g.1.toNat 0:=by rw [hs];exact List.mem_singleton.2 rfl
  obtain ⟨y,_,h1,_,h3⟩:=Cs.1 hm
  exact ⟨y,by omega,by rw [h3]⟩
theorem VD (d) (r) (h:EF d=some r):∃N,Wj N d=some r:=by
 obtain ⟨g,v⟩:=d
 unfold EF at h
 split at h
 ·rename_i ho
  cases h
  refine ⟨20,?_⟩
  unfold Wj Fl Bt
  simp only [ho,if_true,Option.bind_some]
  unfold Dk DB
  by_cases hgr:A9 g=true
  ·by_cases h0:g.1>0
   ·have hg:grB g=true:=De hgr ho
    obtain ⟨g1,g2,g3,g4⟩:=AV hg
    have hall:B7 0 (g,())=some (Ap (fun _=>true) g.1.toNat 0,()):=by
     have e:(g,())=(((g.1.toNat:Int),g.2.1,g.2.2),()):=by rw [<- g2]
     rw [e]
     exact Yc g3 _ _ _
    simp only [hgr,decide_eq_true h0,Bool.and_self,if_true,Option.bind_some,Bool.not_true,ACn,if_false,hall,Aa9 hg]
    by_cases h1:Ay g.1.toNat (Bc g).2=1
    ·obtain ⟨c,hc1,hc2⟩:=Aha hg h1
     have h1':Ay g.1.toNat (A7 g.1.toNat (An g.2.1) 9 fun _=>true).2=1:=h1
     have key:=Ate 20 hg 8 20 (fun _=>true) [] (Nat.le_trans (Js _ _) g3) (by omega) (by simp) h1'
     have hc2':Ap (A7 g.1.toNat (An g.2.1) (8+1) fun _=>true).2 g.1.toNat 0=[(c:Int)]:=hc2
     rw [hc2'] at key
     have hlen:((A7 g.1.toNat (An g.2.1) (8+1) fun _=>true).1).length<=9:=Mr _ _
     have hok:decide ((List.map (fun e=>((e.1:Nat):Int)) (A7 g.1.toNat (An g.2.1) (8+1) fun _=>true).1).length+[(c:Int)].length<=lim)=true:=decide_eq_true (by rw [List.length_map];simp only [List.length_singleton];unfold lim;omega)
     simp only [decide_eq_true h1',Bool.not_true,ACn,if_false,key,Option.bind_some,List.nil_append,h1,if_true]
     have hi:Ak (0:Int) [(c:Int)].length=true:=rfl
     have e:at_ I [(c:Int)] (0:Int).toNat=(c:Int):=rfl
     simp only [hi,if_true,e,hok]
     rw [hc2]
     rfl
    ·have h1':¬Ay g.1.toNat (A7 g.1.toNat (An g.2.1) 9 fun _=>true).2=1:=h1
     simp only [decide_eq_false h1',Bool.not_false,if_true,if_neg h1]
   ·simp only [hgr,decide_eq_false h0,Bool.and_false,ACn,if_false,if_true,Option.bind_some,Bool.not_false]
  ·have hgr':A9 g=false:=by simpa using hgr
   simp only [hgr',Bool.false_and,ACn,if_false,Option.bind_some,Bool.not_false,if_true]
 ·cases h
open Go.Proofs
theorem Abv (ms:List Nat):Ca (toI ms)=ms:=by
 unfold Ca toI
 rw [List.map_map]
 have:(Int.toNat∘fun m:Nat=>(m:Int))=id:=by funext m;simp
 rw [this,List.map_id]
theorem IL {n:Nat} (hn:n<=8) {es:List E} (h:es.all (BI (n:Int))=true) (x y:Nat):Cr (toI (Dn n es)) x y=An es x y:=by
 unfold Cr An
 rw [Abv,Nat.testBit_or,Nat.testBit_two_pow]
 have:=Ahz hn h x y
 unfold Agd at this
 rw [this]
 congr 1
 exact decide_eq_decide.2 eq_comm
theorem Aph {n:Nat} {p:Nat->Bool} (hp:∀y,n<=y->p y=false):∀j,Ap p (n+j) 0=Ap p n 0:=by
 intro j
 induction j with
 | zero=>rfl
 | succ j ih=>
  rw [D3,show n+(j+1)=n+j+1 by omega,List.range_succ,List.filter_append]
  have:List.filter p [n+j]=[]:=by simp [hp (n+j) (by omega)]
  rw [this,List.append_nil,<- D3,ih]
theorem Gk {n:Nat} (hn:n<=8) {p:Nat->Bool} (hp:∀y,n<=y->p y=false):Ap p 8 0=Ap p n 0:=by
 have:=Aph hp (8-n)
 rw [show n+(8-n)=8 by omega] at this
 exact this
theorem E6 {n m y:Nat} (hm:m<2 ^ n) (hy:n<=y):m.testBit y=false:=Nat.testBit_lt_two_pow (Nat.lt_of_lt_of_le hm (Nat.pow_le_pow_right (by omega) hy))
theorem TK {m x:Nat} (hm:m<256) (y:Nat):(GI m (2 ^ x)).testBit y=BC m.testBit x y:=by
 rw [Sg _ _ _ hm,Nat.testBit_two_pow]
 unfold BC
 congr 2
 exact decide_eq_decide.2 eq_comm
theorem Anr {n A m B:Nat} (hA:A<256) (hmn:m<2 ^ n) (hn:n<=8):(((GI (A&&&m) B:Nat):Int)==(0:Int))=(List.range n).all fun z => !(m.testBit z&&A.testBit z)||B.testBit z:=by
 have h1:A&&&m<256:=Nat.lt_of_le_of_lt Nat.and_le_left hA
 have h2:=Aqd (a:=A&&&m) (b:=B) h1
 have h3:(((GI (A&&&m) B:Nat):Int)==(0:Int)) = !(((GI (A&&&m) B:Nat):Int) != 0):=by simp [bne]
 rw [h3,h2,Bool.eq_iff_iff,Bool.not_eq_true',List.any_eq_false,List.all_eq_true]
 constructor
 ·intro h z hz
  have hz:=List.mem_range.1 hz
  have:=h z (List.mem_range.2 (by omega))
  rw [Nat.testBit_and] at this
  cases e1:m.testBit z<;>cases e2:A.testBit z<;>cases e3:B.testBit z<;>simp_all
 ·intro h z hz
  rw [Nat.testBit_and]
  by_cases hzn:z<n
  ·have:=h z (List.mem_range.2 hzn)
   cases e1:m.testBit z<;>cases e2:A.testBit z<;>cases e3:B.testBit z<;>simp_all
  ·rw [E6 hmn (by omega)]
   simp
theorem Eu {l:List Int} (hn:CA l=true) (u v:Unit) {m x:Nat} (hm:m<2 ^ l.length) (hx:x<l.length):Cp ((l,u),(m:Int),(x:Int),v)=some (Ap (Ce l.length (Cr l) m.testBit x) l.length 0,()):=by
 unfold Cp
 have i1:inB 0 ((l.length:Int)-1) (x:Int)=true:=AI.2 (by omega)
 simp only [hn,AN,decide_eq_true (show (m:Int)<((2 ^ l.length:Nat):Int) by omega),i1,Bool.and_self,if_true,Int.toNat_natCast]
theorem Tb (d) (r) (h:Cp d=some r):∃N,UZ N d=some r:=by
 obtain ⟨⟨l,u⟩,m,x,v⟩:=d
 unfold Cp at h
 split at h
 ·rename_i hc
  simp only [ACo,decide_eq_true_eq] at hc
  obtain ⟨⟨⟨hn,hm0⟩,hm⟩,hx⟩:=hc
  cases h
  obtain ⟨e,hk,h8,hb⟩:=Bl hn
  obtain ⟨m,rfl⟩:=En hm0
  obtain ⟨x1,x2⟩:=IJ hx
  obtain ⟨xn,hxn⟩:∃a,a=x.toNat:=⟨_,rfl⟩
  rw [<- hxn] at x1 x2
  subst x1
  have hm:m<2 ^ l.length:=by omega
  have h256:=OU h8
  have hm256:m<256:=by omega
  have hp:2 ^ xn<256:=Nat.lt_of_lt_of_le (Nat.pow_lt_pow_right (by omega) (show xn<8 by omega)) (by omega)
  have hys:Ap (fun y=>(GI m (2 ^ xn)).testBit y) 8 0=Ap (BC m.testBit xn) l.length 0:=by
   rw [show (fun y=>(GI m (2 ^ xn)).testBit y)=BC m.testBit xn from funext fun y=>TK hm256 y]
   exact Gk h8 fun y hy=>by unfold BC;rw [E6 hm hy];rfl
  have hl8:(Ap (BC m.testBit xn) l.length 0).length<=8:=Nat.le_trans C3 h8
  have hba:bits .andNot .i64 (m:Int) ((2 ^ xn:Nat):Int)=((GI m (2 ^ xn):Nat):Int):=GS hm256 hp
  have hA:∀y,y<l.length->(Ca l).getD y 0|||2 ^ y<256:=fun y hy=>Nat.or_lt_two_pow (n:=8) (hk.2 y) (Nat.lt_of_lt_of_le (Nat.pow_lt_pow_right (by omega) (show y<8 by omega)) (by omega))
  refine ⟨20,?_⟩
  unfold UZ
  simp only [AN,if_true,GO (show xn<8 by omega),hba,IA (show GI m (2 ^ xn)<256 from Ad5 hm256),Option.bind_some,hys]
  have key:=F5 (L:=Qj 20) (r:=Kx 20) (fun _ _=>rfl) (Ap (BC m.testBit xn) l.length 0)
   (mk:=fun i A=>((m:Int),(xn:Int),(l,u),A,Ap (BC m.testBit xn) l.length 0,((Ap (BC m.testBit xn) l.length 0).length:Int),(i:Int),()))
   (f:=fun z=>if ((List.range l.length).all fun w => !(m.testBit w&&Cr l xn w)||Cr l z.toNat w)=true then [z] else []) (fun z=>by split<;>simp) (o:=fun A=>.inl (A,()))
   (by
    intro back i hi A hAl
    have hmem:(Ap (BC m.testBit xn) l.length 0)[i]∈Ap (BC m.testBit xn) l.length 0:=ACw hi
    obtain ⟨y,_,y1,_,y2⟩:=Cs.1 hmem
    have e:at_ I (Ap (BC m.testBit xn) l.length 0) i=(y:Int):=by rw [Aw (e:=I) hi];exact y2
    have hok:decide (A.length+[(y:Int)].length<=lim)=true:=decide_eq_true (by simp only [List.length_singleton];unfold lim;omega)
    have hy:y<l.length:=by omega
    have hc1:=hA xn x2
    have hc2:=hA y hy
    have hAm:((Ca l).getD xn 0|||2 ^ xn)&&&m<256:=Nat.lt_of_le_of_lt Nat.and_le_left hc1
    have hb1:bits .andNot .i64 ((((Ca l).getD xn 0|||2 ^ xn)&&&m:Nat):Int) (((Ca l).getD y 0|||2 ^ y:Nat):Int)=((GI (((Ca l).getD xn 0|||2 ^ xn)&&&m) ((Ca l).getD y 0|||2 ^ y):Nat):Int):=GS hAm hc2
    unfold Kx
    simp only [AD hi,if_true,Ag hi,Int.toNat_natCast,e,y2,LR hn u x2,LR hn u hy,Option.bind_some,XW hc1 hm256,hb1,Anr hc1 hm h8,Aq (show i<=100000 by omega),hok]
    show _=back (_,_,_,A++(if ((List.range l.length).all fun w => !(m.testBit w&&((Ca l).getD xn 0|||2 ^ xn).testBit w)||((Ca l).getD y 0|||2 ^ y).testBit w)=true then [(y:Int)] else []),_)
    split<;>simp)
   (by intro back A hAl;unfold Kx;simp only [A4,ACn,if_false]) 19 (by omega)
  simp only [Int.natCast_zero] at key
  simp only [key,Option.bind_some,Jd,GJ]
  congr 2
  refine Bm fun y _ hy => ?_
  unfold Ce BC
  simp only [Int.toNat_natCast]
  rw [Bool.and_comm (m.testBit y),show decide (y=xn)=decide (xn=y) from decide_eq_decide.2 eq_comm]
 ·cases h
theorem R3 {l:List Int} (hn:CA l=true) (u v w:Unit) {m x:Nat} (hm:m<2 ^ l.length) (hx:x<l.length):Mf ((x:Int),((),(l,u),(m:Int),v),w)=some (Fh l m (x:Int),()):=by
 unfold Mf VH
 simp only [Eu hn u () hm hx,Option.bind_some]
 congr 2
 unfold Fh
 rw [Int.toNat_natCast]
 cases h:(List.range l.length).any (Ce l.length (Cr l) m.testBit x) with
 | false=>
  rw [JD.2 h]
  rfl
 | true=>
  have:=(EC h).1
  rw [Bool.not_true,beq_eq_false_iff_ne]
  omega
theorem U6 (d) (r) (h:EE d=some r):∃N,Aes N d=some r:=by
 obtain ⟨xs,⟨w0,⟨l,u⟩,m,v⟩,w⟩:=d
 unfold EE Aju at h
 split at h
 ·rename_i hc
  simp only [ACo,decide_eq_true_eq] at hc
  obtain ⟨⟨⟨⟨hn,hm0⟩,hm⟩,hxs⟩,hlen⟩:=hc
  cases h
  obtain ⟨m,rfl⟩:=En hm0
  have hm:m<2 ^ l.length:=by omega
  refine ⟨20,?_⟩
  unfold Aes
  have key:=Gs (L:=VR 20) (r:=Mc 20) (fun _ _=>rfl) (e:=I) xs (mk:=fun i=>(xs,(w0,(l,u),(m:Int),v),(xs.length:Int),(i:Int),()))
   (q:=Fh l m) (o:=fun i=>.inl ((i:Int),())) (f:=.inr (.inl ()))
   (by
    intro back i hi
    have hx:at_ I xs i=xs[i]:=Aw (e:=I) hi
    obtain ⟨b1,b2⟩:=IJ (List.all_eq_true.1 hxs xs[i] (ACw hi))
    have hcan:=R3 hn u v () hm b2
    rw [<- b1] at hcan
    unfold Mc
    simp only [AD hi,if_true,Ag hi,Int.toNat_natCast,Aq (show i<=100000 by omega),hx,hcan,Option.bind_some])
   (by intro back;unfold Mc;simp only [A4,ACn,if_false]) 19 0 (by omega) (by omega)
  simp only [Int.natCast_zero,List.drop_zero] at key
  simp only [key,Option.bind_some,Int.toNat_natCast]
  cases ER (Fh l m) xs 0<;>rfl
 ·cases h
theorem Axb (N:Nat) {l:List Int} (hn:CA l=true) (u v w0:Unit) {m:Nat} (hm:m<2 ^ l.length) (xs:List Int) (hxs:xs.all (inB 0 ((l.length:Int)-1))=true) (hl:xs.length<=8):∀(r f k i:Nat) (s:List Int),r+k=xs.length->r<f->i<k->s.length=xs.length ->
  s.take i=Tw (Fh l m) (xs.take k)->s.drop k=xs.drop k ->
  ∃(s':List Int) (i':Nat),WF N f (s,(w0,(l,u),(m:Int),v),(i:Int),(k:Int),())=some (.inl (s',(i':Int),()))/\i'<xs.length/\s'.length=xs.length/\s'.take i'=Tw (Fh l m) xs:=by
 intro r
 induction r with
 | zero=>
  intro f k i s h1 h2 h3 h4 h5 h6
  obtain ⟨f,rfl⟩:∃m,f=m+1:=⟨f-1,by omega⟩
  refine ⟨s,i,?_,by omega,h4,?_⟩
  ·show Jn _ _ _=_
   unfold Jn
   have e:k=s.length:=by omega
   subst e
   simp only [A4,ACn,if_false]
  ·rw [h5,List.take_of_length_le (by omega)]
 | succ r ih=>
  intro f k i s h1 h2 h3 h4 h5 h6
  obtain ⟨f,rfl⟩:∃m,f=m+1:=⟨f-1,by omega⟩
  have hk:k<xs.length:=by omega
  have hks:k<s.length:=by omega
  have his:i<s.length:=by omega
  have hsk:s[k]=xs[k]:=by
   rw [ACv hks,ACv hk] at h6
   exact (List.cons.inj h6).1
  have hd:s.drop (k+1)=xs.drop (k+1):=by
   rw [ACv hks,ACv hk] at h6
   exact (List.cons.inj h6).2
  have e:at_ I s k=xs[k]:=by rw [Aw (e:=I) hks];exact hsk
  obtain ⟨b1,b2⟩:=IJ (List.all_eq_true.1 hxs xs[k] (ACw hk))
  have hcan:=R3 hn u v () hm b2
  rw [<- b1] at hcan
  have htk:xs.take (k+1)=xs.take k++[xs[k]]:=by rw [List.take_succ_eq_append_getElem hk]
  show ∃s' i',Jn _ _ _=_/\_
  unfold Jn
  have hw0:w0=():=rfl
  subst hw0
  simp only [AD hks,if_true,Ag hks,Ag his,Int.toNat_natCast,e,hcan,Option.bind_some,Aq (show k<=100000 by omega),Aq (show i<=100000 by omega)]
  cases hq:Fh l m xs[k] with
  | true=>
   simp only [Bool.not_true,ACn,if_false]
   refine ih f (k+1) i s (by omega) (by omega) (by omega) h4 ?_ hd
   rw [htk,h5]
   unfold Tw
   rw [List.filter_append]
   simp [hq]
  | false=>
   simp only [Bool.not_false,if_true]
   refine ih f (k+1) (i+1) (s.set i xs[k]) (by omega) (by omega) (by omega) (by rw [List.length_set];exact h4) ?_ ?_
   ·have his2:i<(s.set i xs[k]).length:=by rw [List.length_set];exact his
    rw [List.take_succ_eq_append_getElem his2,htk]
    unfold Tw
    rw [List.filter_append]
    have e1:(s.set i xs[k]).take i=s.take i:=by rw [List.take_set_of_le (ACr _)]
    rw [e1,h5]
    unfold Tw
    simp [hq]
   ·rw [List.drop_set_of_lt (by omega)]
    exact hd
theorem At0 {s:List Int} {i:Nat} (h:i<=s.length):B1 (clr s i) (0:Int) (i:Int)=s.take i:=by
 unfold B1 clr
 rw [Int.toNat_natCast,show (0:Int).toNat=0 from rfl,List.drop_zero,List.take_append_of_le_length (by rw [List.length_take];omega),List.take_take,Nat.min_self]
theorem Abu {α:Type} (q:α->Bool):∀(l:List α) (i:Nat),(match ER q l i with | some j => ∀x∈l.take (j-i),q x=false | none=>True):=by
 intro l
 induction l with
 | nil=>intro i;trivial
 | cons a l ih=>
  intro i
  unfold ER
  by_cases h:q a=true
  ·simp only [h,if_true]
   intro x hx
   rw [Nat.sub_self,List.take_zero] at hx
   cases hx
  ·have hf:q a=false:=by simpa using h
   simp only [hf,ACn,if_false]
   have h1:=ih (i+1)
   have h2:=Sx q a l (i+1)
   revert h1 h2
   cases ER q l (i+1) with
   | none=>intro _ _;trivial
   | some j=>
    rintro h1 ⟨_,h3,_⟩ x hx
    rw [show j-i=(j-(i+1))+1 by omega,List.take_succ_cons] at hx
    rcases List.mem_cons.1 hx with e | e
    ·rw [e];exact hf
    ·exact h1 x e
theorem Aax (d) (r) (h:Ic d=some r):∃N,Aez N d=some r:=by
 obtain ⟨xs,⟨w0,⟨l,u⟩,m,v⟩,w⟩:=d
 have hidx:Aju (xs,(w0,(l,u),m,v),w)=true->EE (xs,(w0,(l,u),m,v),())=some (P4 (ER (Fh l m.toNat) xs 0),()):=fun hc=>by
  unfold EE
  exact if_pos hc
 unfold Ic at h
 split at h
 ·rename_i hc
  have hidx:=hidx hc
  unfold Aju at hc
  simp only [ACo,decide_eq_true_eq] at hc
  obtain ⟨⟨⟨⟨hn,hm0⟩,hm⟩,hxs⟩,hlen⟩:=hc
  cases h
  obtain ⟨m,rfl⟩:=En hm0
  have hm:m<2 ^ l.length:=by omega
  rw [Int.toNat_natCast] at hidx
  refine ⟨20,?_⟩
  unfold Aez
  simp only [hidx,Option.bind_some,Int.toNat_natCast]
  have hi:=Sx (Fh l m) 0 xs 0
  have hpre:=Abu (Fh l m) xs 0
  revert hi hpre
  cases ER (Fh l m) xs 0 with
  | none=>
   intro hi _
   have hall:Tw (Fh l m) xs=xs:=by
    unfold Tw
    rw [List.filter_eq_self]
    intro x hx
    have:=List.find?_eq_none.1 hi x hx
    simpa using this
   rw [hall]
   rfl
  | some j=>
   rintro ⟨h1,_,h3⟩ hpre
   simp only [Nat.sub_zero] at h1 h3 hpre
   have hq:Fh l m xs[j]=true:=List.find?_some h3
   have hne:((j:Int) == -1)=false:=by rw [beq_eq_false_iff_ne];omega
   have hI:P4 (some j)=(j:Int):=rfl
   obtain ⟨s',i',k1,k2,k3,k4⟩:=Axb 20 hn u v w0 hm xs hxs hlen (xs.length-(j+1)) 20 (j+1) j xs (by omega) (by omega) (by omega) rfl (by
    rw [List.take_succ_eq_append_getElem h1]
    unfold Tw
    rw [List.filter_append]
    have:(xs.take j).filter (fun x => !Fh l m x)=xs.take j:=by
     rw [List.filter_eq_self]
     intro x hx
     rw [hpre x hx]
     rfl
    rw [this]
    simp [hq]) rfl
   simp only [hI,hne,ACn,if_false,Aq (show j<=100000 by omega),k1,Option.bind_some,Int.toNat_natCast]
   have hcl:(clr s' i').length=s'.length:=Adj s' (by omega)
   have c1:(decide (0<=(i':Int))&&decide ((i':Int)<(s'.length:Int)))=true:=by
    rw [AN,Bool.true_and]
    exact decide_eq_true (by omega)
   have c2:(decide (0<=(0:Int))&&decide ((0:Int)<=(i':Int))&&decide ((i':Int)<=((clr s' i').length:Int)))=true:=by
    rw [AN,hcl]
    simp
    omega
   simp only [c1,c2,if_true,At0 (show i'<=s'.length by omega),k4]
 ·cases h
end Go.V.W
end
