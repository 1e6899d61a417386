/- What the law FnTimedGame leans on, part 4: an interpreter of the model as plain data, its soundness, the functions as it tells them, and their laws. -/
import Derived.Lib.ItoaNum
import Derived.Lib.IndexMore
import Derived.Shelf.SlSortCmp.Kit1
import Derived.WalkKit
import Derived.LoopN
import Derived.Test.YtnieoolfkakmdaaGreatProg
import Derived.Shelf.RegionOpenPlain
import Derived.Deep.LoopGhost
import Derived.Deep.Draws
import Derived.Lib.Walk
import Derived.Sort.WalkB12
import Derived.Lib.SliceRun
import Derived.Lib.SlicesS
import Derived.Lib.SlicesCompact
import Derived.Test.YtnieoolfkakmdaaGreatVC
set_option linter.unusedVariables false
set_option linter.unusedSimpArgs false
set_option maxRecDepth 100000
noncomputable section
namespace Go.V.W
def Ja (l:List Tab):Bool:=okL l&&l.all DV
def Dh (d:List Tab×List Tab×Unit):Option (Bool×Unit):=if Ja d.1=true then some (decide (d.1=d.2.1),()) else none
def Kf (n:Int) (row:List Int):Bool:=decide ((row.length:Int)=n)&&row.all fun v=>decide (-1<=v)
def F0 (n:Int) (rows:Tab):Bool:=decide ((rows.length:Int)=n)&&rows.all (Kf n)
def Hg (n p:Int) (T:List Tab):Bool:=T.all (F0 n)&&decide ((T.length:Int)=p)
def Iq (d:Tt×List Tab×Unit):Option (Bool×Unit):=if (okT d.1&&Ja d.2.1)=true then some (Hg d.1.1.1 d.1.2.1 d.2.1,()) else none
def A2 (t:Tt):List Tab:=(List.range t.2.1.toNat).map fun r:Nat=>(List.range t.1.1.toNat).map fun x:Nat=>Bx t.1.1.toNat (Bv t (r:Int)) (x:Int)
def Dg (d:Tt×Unit):Option (List Tab×Unit):=if (AV d.1&&okT d.1)=true then some (A2 d.1,()) else none
def okB (n:Nat) (B:List Tab):Bool:=decide (1<=B.length)&&decide (B.length<=8)&&B.all fun b=>decide (b.length=n)&&b.all fun l=>decide (l.length<=8)&&l.all (inB 0 ((n:Int)-1))
def JM (n p:Nat) (T:List Tab):Bool:=decide (T.length=p)&&T.all (sqL n)
def CK (B:List Tab) (r:Int) (x:Int):List Int:=(B.getD r.toNat []).getD x.toNat []
def Cw (p:Nat) (T:List Tab) (r:Int):Tab:=T.getD ((r+1).tmod (p:Int)).toNat []
def nB (B:List Tab):Nat:=(B.headD []).length
def okA (d:List Tab×List Tab×Int×Int×Int×Unit):Bool:=okB (nB d.1) d.1&&decide (nB d.1<=8)&&JM (nB d.1) d.1.length d.2.1&&inB 0 ((d.1.length:Int)-1) d.2.2.1&&inB 0 ((nB d.1:Int)-1) d.2.2.2.1&&inB 0 ((nB d.1:Int)-1) d.2.2.2.2.1
def CU (d:List Tab×List Tab×Int×Int×Int×Unit):Option (Int×Unit):=if okA d=true then some (Aw (CK d.1 d.2.2.1) (Cw d.1.length d.2.1 d.2.2.1) d.2.2.2.1 d.2.2.2.2.1,()) else none
def Ct (ball:Int->List Int) (next:Tab) (v c q:Int):Bool:=if v<=0 then decide (v<0)||decide (c=q) else (ball c).any fun b=>decide (0<=Aw ball next b q)&&decide (Aw ball next b q<v)
def Auy (v:Int):Bool:=decide (-9223372036854775808<=v)&&decide (v<=9223372036854775807)
def EC (d:List Tab×List Tab×Int×Int×Int×Unit):Option (Bool×Unit):=if (okA d&&Auy (AS (d.2.1.getD d.2.2.1.toNat []) d.2.2.2.1 d.2.2.2.2.1))=true then some (Ct (CK d.1 d.2.2.1) (Cw d.1.length d.2.1 d.2.2.1) (AS (d.2.1.getD d.2.2.1.toNat []) d.2.2.2.1 d.2.2.2.2.1) d.2.2.2.1 d.2.2.2.2.1,()) else none
def W6 (p n:Nat) (q:Nat->Nat->Nat->Bool):Bool:=(List.range p).all fun r=>(List.range n).all fun c=>(List.range n).all fun x=>q r c x
def Wm (T:List Tab):Bool:=T.all fun rows=>rows.all fun row=>row.all Auy
def tpB (t:Tt) (T:List Tab):Bool×Bool×Unit:=
 if AV t=true then
  (Hg t.1.1 t.2.1 T&&W6 t.2.1.toNat t.1.1.toNat (fun r c q=>Ct (Bx t.1.1.toNat (Bv t (r:Int))) (Cw t.2.1.toNat T (r:Int)) (AS (T.getD r []) (c:Int) (q:Int)) (c:Int) (q:Int)),true,())
 else (false,false,())
def D5 (d:Tt×List Tab×Unit):Option (Bool×Bool×Unit):=if (okT d.1&&Ja d.2.1&&Wm d.2.1)=true then some (tpB d.1 d.2.1) else none
def GJ (d:List Int×(Unit×Unit)×Unit):Option (Int×Unit):=if okL d.1=true then some (Qt (Gs (fun x=>decide (x < -1)) d.1 0),()) else none
def MG (n:Int) (row:List Int):Bool := !decide ((row.length:Int)=n)||row.any fun x=>decide (x < -1)
def GK (d:Tab×(Unit×Int×Unit)×Unit):Option (Int×Unit):=if DV d.1=true then some (Qt (Gs (MG d.2.1.2.1) d.1 0),()) else none
def GY (d:List Int×(Unit×Int×Nt×Tab×(Unit×Int×Unit)×Unit)×Unit):Option (Int×Unit):=
 if (Eo d.2.1.2.2.1.1&&sqL d.2.1.2.2.1.1.length d.2.1.2.2.2.1&&inB 0 ((d.2.1.2.2.1.1.length:Int)-1) d.2.1.2.1&&d.1.all (inB 0 ((d.2.1.2.2.1.1.length:Int)-1))&&Aat d.1&&decide (0<d.2.1.2.2.2.2.1.2.1))=true then
  some (Qt (Gs (fun b=>decide (0<=Aw (AH d.2.1.2.2.1.1) d.2.1.2.2.2.1 b d.2.1.2.1)&&decide (Aw (AH d.2.1.2.2.1.1) d.2.1.2.2.2.1 b d.2.1.2.1<d.2.1.2.2.2.2.1.2.1)) d.1 0),()) else none
def HN (n:Nat) (nets:List Nt):Bool:=decide (1<=nets.length)&&decide (nets.length<=8)&&nets.all fun w=>Eo w.1&&decide (w.1.length=n)
def nN (nets:List Nt):Nat:=(nets.headD ([],())).1.length
def By (nets:List Nt) (r:Nat):Int->List Int:=AH (nets.getD r ([],())).1
def DY (d:List Nt×List Tab×Unit):Option (Bool×Unit):=
 if (HN (nN d.1) d.1&&Ja d.2.1)=true then
  some (Hg (nN d.1:Int) (d.1.length:Int) d.2.1&&W6 d.1.length (nN d.1) (fun r c q=>Ct (By d.1 r) (Cw d.1.length d.2.1 (r:Int)) (AS (d.2.1.getD r []) (c:Int) (q:Int)) (c:Int) (q:Int)),()) else none
def A7 (p n:Nat) (f:Nat->Nat->Nat->Int):List Tab:=(List.range p).map fun r=>AO n (f r)
def Ba (p n:Nat) (ball:Nat->Int->List Int) (f:Nat->Nat->Nat->Int) (r c q:Nat):Bool:=decide (f r c q<0)&&(ball r (c:Int)).any fun b=>decide (0<=Aw (ball r) (AO n (f ((r+1) % p))) b (q:Int))
def Bb (p n:Nat) (ball:Nat->Int->List Int) (t:Int) (f:Nat->Nat->Nat->Int) (r c q:Nat):Int:=if Ba p n ball f r c q=true then t else f r c q
def IX (p n:Nat) (g:Nat->Nat->Nat->Bool):Bool:=(List.range p).any fun r=>(List.range n).any fun c=>(List.range n).any fun q=>g r c q
def Db (p n:Nat) (ball:Nat->Int->List Int):Nat->Int->(Nat->Nat->Nat->Int)->(Nat->Nat->Nat->Int)
 | 0,_,f=>f
 | k+1,t,f=>if IX p n (Ba p n ball f)=true then Db p n ball k (t+1) (Bb p n ball t f) else f
def BK (_ c q:Nat):Int:=Br c q
def NB (p n:Nat) (ball:Nat->Int->List Int):List Tab:=A7 p n (Db p n ball 520 1 BK)
def Ay (t:Tt) (r:Nat):Int->List Int:=Bx t.1.1.toNat (Bv t (r:Int))
def AN (t:Tt):List Tab:=NB t.2.1.toNat t.1.1.toNat (Ay t)
def Es (d:Int×Int×Unit):Option (List Tab×Unit):=if (inB 0 8 d.1&&inB 0 8 d.2.1)=true then some (A7 d.1.toNat d.2.1.toNat BK,()) else none
def Ii (d:List Tab×List Tab×Int×Int×Int×Unit):Option (Bool×Unit):=if okA d=true then some ((CK d.1 d.2.2.1 d.2.2.2.1).any fun b=>decide (0<=Aw (CK d.1 d.2.2.1) (Cw d.1.length d.2.1 d.2.2.1) b d.2.2.2.2.1),()) else none
def Dl (d:Tt×Unit):Option (List Tab×Unit):=if (AV d.1&&okT d.1)=true then some (AN d.1,()) else none
def HZ (d:List Int×(Unit×Int×Nt×Tab×(Unit×Unit)×Unit)×Unit):Option (Int×Unit):=
 if (Eo d.2.1.2.2.1.1&&sqL d.2.1.2.2.1.1.length d.2.1.2.2.2.1&&inB 0 ((d.2.1.2.2.1.1.length:Int)-1) d.2.1.2.1&&d.1.all (inB 0 ((d.2.1.2.2.1.1.length:Int)-1))&&Aat d.1)=true then
  some (Qt (Gs (fun b=>decide (0<=Aw (AH d.2.1.2.2.1.1) d.2.1.2.2.2.1 b d.2.1.2.1)) d.1 0),()) else none
def CJ (d:List Nt×Unit):Option (List Tab×Unit):=if HN (nN d.1) d.1=true then some (NB d.1.length (nN d.1) (By d.1),()) else none
def Cs (after:Int->Int):List Int->Int->Int->Int
 | [],b,_=>b
 | x::xs,b,l=>if after x>=0/\(b<0\/after x<l) then Cs after xs x (after x) else Cs after xs b l
def As (t:Tt) (c:Int):Nat:=(c.tmod t.2.1).toNat
def trB (t:Tt) (c x y:Int):Int×Bool×Unit:=
 if (JA t x y&&inB 0 1000 c && !decide (x=y))=true then
  (let b:=Cs (fun b=>Aw (Ay t (As t c)) (Cw t.2.1.toNat (AN t) (As t c:Int)) b y) (Ay t (As t c) x) (-1) 0
   if b<0 then (0,false,()) else (b,true,()))
 else (0,false,())
def Bo (d:Tt×Int×Int×Int×Unit):Option (Int×Bool×Unit):=if okT d.1=true then some (trB d.1 d.2.1 d.2.2.1 d.2.2.2.1) else none
def EE (d:List Int×Unit):Option (Int×Unit):=if okL d.1=true then some (AW (fun z=>z) d.1 0,()) else none
def ST (d:List Int×Unit):Option (Int×Unit):=if (okL d.1&&decide (0<d.1.length))=true then some (d.1.foldl (fun a b=>if a<b then b else a) (d.1.headD 0),()) else none
def Gx (w:Nat->Int):List Nat->Int->Int
 | [],b=>b
 | x::xs,b=>if w x>=0/\(b<0\/w x<w b.toNat) then Gx w xs (x:Int) else Gx w xs b
def tcB (t:Tt) (c:Int):Int×Int×Bool×Unit:=
 if (AV t&&inB 0 1000 c)=true then
  (let w:=fun x:Nat=>AW (fun z=>z) (((AN t).getD (As t c) []).getD x []) 0
   let b:=Gx w (List.range t.1.1.toNat) (-1)
   if b<0 then (0,0,false,()) else (b,w b.toNat,true,()))
 else (0,0,false,())
def BO (d:Tt×Int×Unit):Option (Int×Int×Bool×Unit):=if okT d.1=true then some (tcB d.1 d.2.1) else none
def Ajv:List Tab->Int
 | []=>0
 | x::l=>Al8 x+Ajv l
def ba (l:List UInt8):ByteArray:=⟨l.toArray⟩
def ckL (h:Int) (l:List UInt8):Int:=l.foldl (fun h b=>(41*h+(b.toNat:Int)+1).tmod 999979) h
def Ajk (c:UInt8) (l:List UInt8):List UInt8:=l.takeWhile (· != c)
def Amb (c:UInt8) (l:List UInt8):List UInt8:=(l.dropWhile (· != c)).drop 1
def YQ (l:List UInt8):Bool:=l.all fun b=>decide (32<=b.toNat)&&decide (b.toNat<=126)
def ABc (c r:List UInt8):Bool:=
 (decide (1<=c.length)&&decide (c.length<=160)&&YQ c && !c.contains 35 && !c.contains 64)&&(decide (r.length<=200)&&YQ r && !r.contains 35)
def ADt (l:List UInt8):List UInt8:=l++[35]++Lib.itoa (ckL 7 l)
def AFg (k:Nat) (c r:List UInt8):List UInt8:=Lib.itoa (k:Int)++[32]++c++[64]++r
def AEe (k:Nat) (c r:List UInt8):List UInt8:=ADt (AFg k c r)++[10]
def Axy (k:Nat) (l:List UInt8):Option (List UInt8×List UInt8):=
 let rest:=Amb 32 (Ajk 35 l)
 if (ABc (Ajk 64 rest) (Amb 64 rest)&&(AEe k (Ajk 64 rest) (Amb 64 rest)==l++[10]))=true then some (Ajk 64 rest,Amb 64 rest) else none
def Yp:Nat->Nat->List UInt8->List (List UInt8×List UInt8)×Nat
 | 0,_,_=>([],0)
 | n+1,k,l=>if l.contains 10=true then
   match Axy k (Ajk 10 l) with
   | none=>([],0)
   | some e=>(e::(Yp n (k+1) (Amb 10 l)).1,(Ajk 10 l).length+1+(Yp n (k+1) (Amb 10 l)).2)
  else ([],0)
open Go.RowKit Go.Proofs
open Go.Sort (grow putRow mapBlock putCells onCells SWO PermIn SortedIn)
open Go.Lib
theorem Ln:∀l:List Int,B6 l l=0:=by
 intro l
 induction l with
 | nil=>rfl
 | cons a l ih=>simp [B6,ih]
theorem EG:∀l m:List Int,B6 m l = - B6 l m:=by
 intro l
 induction l with
 | nil=>intro m;cases m<;>rfl
 | cons a l ih=>
  intro m
  cases m with
  | nil=>rfl
  | cons b m=>
   simp only [B6]
   by_cases h:a<b
   ·have:¬b<a:=by omega
    simp [h,this]
   ·by_cases h2:b<a
    ·simp [h,h2]
    ·simp [h,h2,ih m]
theorem WK:∀{l m:List Int},B6 l m=0->l=m:=by
 intro l
 induction l with
 | nil=>intro m h;cases m with
  | nil=>rfl
  | cons b m=>simp [B6] at h
 | cons a l ih=>
  intro m h
  cases m with
  | nil=>simp [B6] at h
  | cons b m=>
   simp only [B6] at h
   by_cases h1:a<b
   ·simp [h1] at h
   ·by_cases h2:b<a
    ·simp [h1,h2] at h
    ·simp only [h1,h2,if_false] at h
     have:a=b:=by omega
     rw [this,ih h]
theorem RZ:∀{l m k:List Int},B6 l m<=0->B6 m k<=0->B6 l k<=0:=by
 intro l
 induction l with
 | nil=>intro m k _ _;cases k<;>simp [B6]
 | cons a l ih=>
  intro m k h1 h2
  cases m with
  | nil=>simp [B6] at h1
  | cons b m=>
   cases k with
   | nil=>simp [B6] at h2
   | cons c k=>
    simp only [B6] at h1 h2 |-
    by_cases x1:a<b
    ·by_cases x2:b<c
     ·have:a<c:=by omega
      simp [this]
     ·by_cases x3:c<b
      ·simp [x2,x3] at h2
      ·have:a<c:=by omega
       simp [this]
    ·by_cases y1:b<a
     ·simp [x1,y1] at h1
     ·have e:a=b:=by omega
      subst e
      simp only [x1,if_false] at h1
      by_cases x2:a<c
      ·simp [x2]
      ·by_cases x3:c<a
       ·simp [x2,x3] at h2
       ·simp only [x2,x3,if_false] at h2 |-
        exact ih h1 h2
def leL (a b:List Int):Prop:=B6 a b<=0
theorem XK {a b:List Int} (h1:leL a b) (h2:leL b a):a=b:=by
 unfold leL at h1 h2
 rw [EG a b] at h2
 exact WK (by omega)
theorem Akb (a b:List Int):leL a b\/leL b a:=by
 unfold leL
 rw [EG a b]
 omega
def Ae1 (x:List Int):List (List Int)->List (List Int)
 | []=>[x]
 | a::l=>if B6 x a<=0 then x::a::l else a::Ae1 x l
def Iw (l:List (List Int)):List (List Int):=l.foldr Ae1 []
theorem Vh (x:List Int):∀l,(Ae1 x l).Perm (x::l):=by
 intro l
 induction l with
 | nil=>exact .refl _
 | cons a l ih=>
  unfold Ae1
  split
  ·exact .refl _
  ·exact (ih.cons a).trans (List.Perm.swap x a l)
theorem GV:∀l,(Iw l).Perm l:=by
 intro l
 induction l with
 | nil=>exact .refl _
 | cons a l ih=>exact (Vh a (Iw l)).trans (ih.cons a)
theorem YP (x:List Int):∀l:List (List Int),l.Pairwise leL->(Ae1 x l).Pairwise leL:=by
 intro l
 induction l with
 | nil=>intro _;simp [Ae1]
 | cons a l ih=>
  intro h
  rw [List.pairwise_cons] at h
  unfold Ae1
  split
  ·rename_i hx
   rw [List.pairwise_cons,List.pairwise_cons]
   refine ⟨fun b hb => ?_,h⟩
   rcases List.mem_cons.1 hb with rfl | hb
   ·exact hx
   ·exact RZ hx (h.1 b hb)
  ·rename_i hx
   have hax:leL a x:=(Akb a x).resolve_right hx
   rw [List.pairwise_cons]
   refine ⟨fun b hb => ?_,ih h.2⟩
   rcases List.mem_cons.1 ((Vh x l).mem_iff.1 hb) with rfl | hb
   ·exact hax
   ·exact h.1 b hb
theorem VL:∀l,(Iw l).Pairwise leL:=by
 intro l
 induction l with
 | nil=>exact .nil
 | cons a l ih=>exact YP a _ ih
theorem Anh:∀{l m:List (List Int)},l.Pairwise leL->m.Pairwise leL->l.Perm m->l=m:=by
 intro l
 induction l with
 | nil=>intro m _ _ h;exact (List.Perm.nil_eq h)
 | cons a l ih=>
  intro m hl hm h
  cases m with
  | nil=>exact absurd h.length_eq (by simp)
  | cons b m=>
   rw [List.pairwise_cons] at hl hm
   have e:a=b:=by
    rcases List.mem_cons.1 (h.mem_iff.1 (List.mem_cons_self (a:=a) (l:=l))) with e | ha
    ·exact e
    rcases List.mem_cons.1 (h.mem_iff.2 (List.mem_cons_self (a:=b) (l:=m))) with e | hb
    ·exact e.symm
    exact XK (hl.1 b hb) (hm.1 a ha)
   subst e
   rw [ih hl.2 hm.2 ((List.perm_cons a).1 h)]
theorem NV (l:List (List Int)):(Iw l).length=l.length:=(GV l).length_eq
theorem Ayy {α:Type} (f:α->List Int):SWO (ltOf fun x y=>B6 (f x) (f y)):=by
 refine ⟨fun x => ?_,fun x y z h1 h2 => ?_,fun x y z h1 h2 => ?_⟩
 ·simp [ltOf,Ln]
 ·simp only [ltOf,decide_eq_true_eq] at h1 h2 |-
  have h3:=RZ (Int.le_of_lt h1) (Int.le_of_lt h2)
  rcases Int.lt_or_eq_of_le h3 with h | h
  ·exact h
  ·have e:=WK h
   rw [e,EG (f y) (f z)] at h1
   omega
 ·simp only [ltOf,decide_eq_false_iff_not,Int.not_lt] at h1 h2 |-
  have a1:B6 (f y) (f x)<=0:=by rw [EG (f x) (f y)];omega
  have a2:B6 (f z) (f y)<=0:=by rw [EG (f y) (f z)];omega
  have:=RZ a2 a1
  rw [EG (f x) (f z)] at this
  omega
def Hdr (w:World) (v:Value) (l:List Int):Prop:=
 (∃a,v=.slice a 0 0/\l=[]) \/ ∃b off cap,v=.slice (some ⟨b,off,none⟩) l.length cap /\ ∀j (h:j<l.length),w.cell? ⟨b,off+j,none⟩=some (.int .i64 l[j])
theorem Aqo {w w':World} {S:BW} {q:Ak} {v:Value} {l:List Int} (h:Rep w S (.slice (.int .i64)) q [v] l) (hk:∀b,S q b->w'.heap[b]? = w.heap[b]?):Hdr w' v l:=by
 simp only [Rep] at h
 rcases h with ⟨⟨a,h⟩,hl⟩ | ⟨b,off,cap,h,kc,kS,kb,ke⟩
 ·exact .inl ⟨a,(List.cons.inj h).1,hl⟩
 ·refine .inr ⟨b,off,cap,(List.cons.inj h).1,fun j hj => ?_⟩
  have:=ke j hj
  simp only [Rep,Kd.size,Nat.mul_one] at this
  obtain ⟨cs,T,fr,hrow,hfit⟩:=kb
  unfold Al at this
  rw [hrow] at this
  have h2:((cs.toList.drop (off+j)).take 1)[0]? = some (.int .i64 l[j]):=by
   have e:(cs.toList.drop (off+j)).take 1=[.int .i64 (List.get l ⟨j,hj⟩)]:=this
   rw [e]
   rfl
  unfold World.cell?
  rw [hk b kS,hrow]
  simpa using h2
theorem S5 {w w':World} {S S':BW} {q q':Ak} {v:Value} {l:List Int} (h:Rep w S (.slice (.int .i64)) q [v] l) (hk:∀b,S q b->w'.heap[b]? = w.heap[b]?/\S' q' b):Rep w' S' (.slice (.int .i64)) q' [v] l:=by
 simp only [Rep] at h |-
 rcases h with h | ⟨b,off,cap,h1,h2,h3,h4,h5⟩
 ·exact .inl h
 ·obtain ⟨k1,k2⟩:=hk b h3
  refine .inr ⟨b,off,cap,h1,h2,k2,h4.same k1,fun i hi => ?_⟩
  rw [BN k1]
  exact h5 i hi
def Jl (d:List (List Int)×(Unit×Unit)×Unit):Option (List (List Int)×Unit):=if DV d.1=true then some (Iw d.1,()) else none
theorem TQ {α:Type} [Inhabited α] {enc:α->Value} {w:World} {b off:Nat} {d:Array α} {cs:Array Value} {T:TypeId} {fr:Nat×Nat} (h:w.heap[b]? = some (.cells cs T fr)) :
  (putRow enc w b off d).heap[b]? = some (.cells (putCells enc off d cs) T fr):=by
 unfold putRow mapBlock
 simp only [Array.getElem?_modify,if_true,h,Option.map_some]
 rfl
theorem NF {α:Type} [Inhabited α] {enc:α->Value} {w:World} {b off k:Nat} {d:Array α} (h:k≠b):(putRow enc w b off d).heap[k]? = w.heap[k]?:=by
 unfold putRow mapBlock
 simp only [Array.getElem?_modify,if_neg (Ne.symm h)]
theorem Rb {α:Type} (a:Array α) (k:Nat) (h:k=a.size):a.extract 0 k=a:=by
 subst h
 exact Array.extract_size
abbrev idA (n:Nat):Array (Fin (n+1)):=Array.ofFn fun i:Fin (n+1)=>i
theorem GZ (n:Nat):(idA n).size=n+1:=by simp [idA]
theorem An7 {n:Nat} {d':Array (Fin (n+1))} (h:PermIn 0 (idA n).size (idA n) d'):d'.size=n+1/\d'.toList.Perm (idA n).toList /\ ∀i j (hi:i<d'.size) (hj:j<d'.size),d'[i]=d'[j]->i=j:=by
 obtain ⟨h1,_,h3⟩:=h
 have hs:d'.size=n+1:=by rw [h1,GZ]
 have hp:d'.toList.Perm (idA n).toList:=by
  rw [Rb d' _ h1.symm,Rb (idA n) _ rfl] at h3
  exact h3
 have hnd:d'.toList.Pairwise (· ≠ ·):=by
  refine (hp.pairwise_iff (fun h=>h.symm)).2 ?_
  rw [Array.toList_ofFn,List.pairwise_iff_getElem]
  intro i j hi hj hij e
  rw [List.getElem_ofFn,List.getElem_ofFn] at e
  have:=congrArg Fin.val e
  simp only at this
  omega
 refine ⟨hs,hp,fun i j hi hj e => ?_⟩
 rw [List.pairwise_iff_getElem] at hnd
 rcases Nat.lt_trichotomy i j with h | h | h
 ·exact absurd (show d'.toList[i]'(by simpa using hi)=d'.toList[j]'(by simpa using hj) by rw [Array.getElem_toList,Array.getElem_toList];exact e) (hnd i j _ _ h)
 ·exact h
 ·exact absurd (show d'.toList[j]'(by simpa using hj)=d'.toList[i]'(by simpa using hi) by rw [Array.getElem_toList,Array.getElem_toList];exact e.symm) (hnd j i _ _ h)
theorem Ym {n:Nat} (xss:List (List Int)) (hn:xss.length=n+1) {d':Array (Fin (n+1))} (hp:d'.toList.Perm (idA n).toList) (hs:d'.size=n+1)
  (ho:SortedIn (ltOf fun x y:Fin (n+1)=>B6 (xss.getD x.val []) (xss.getD y.val [])) 0 (idA n).size d'):Iw xss=d'.toList.map fun j=>xss.getD j.val []:=by
 refine Anh (VL xss) ?_ ?_
 ·rw [List.pairwise_map,List.pairwise_iff_getElem]
  intro i j hi hj hij
  rw [Array.length_toList] at hi hj
  have:=ho i j (Nat.zero_le _) hij (by rw [GZ];omega)
  rw [getElem!_pos d' j (by omega),getElem!_pos d' i (by omega)] at this
  simp only [ltOf,decide_eq_false_iff_not,Int.not_lt] at this
  rw [Array.getElem_toList,Array.getElem_toList]
  unfold leL
  rw [EG (xss.getD d'[j].val []) (xss.getD d'[i].val [])]
  omega
 ·refine (GV xss).trans ?_
  have h2:((idA n).toList.map fun j=>xss.getD j.val [])=xss:=by
   rw [Array.toList_ofFn,List.map_ofFn]
   apply List.ext_getElem
   ·simp [hn]
   ·intro i h1 h2
    rw [List.getElem_ofFn]
    simp only [Function.comp,AGm,AGn h2,Option.getD_some]
  have h3:=(hp.map fun j=>xss.getD j.val []).symm
  rw [h2] at h3
  exact h3
end Go.V.W
namespace Go.V.W
open Go.RowKit Go.Proofs
open Go.Sort (grow putRow mapBlock putCells onCells SWO PermIn SortedIn)
open Go.Lib
abbrev kSS:Kd:=.slice (.slice (.int .i64))
theorem Aaa {w:World} {os:Array Obj} {k:Nat} (h:k<w.heap.size):(grow w os).heap[k]? = w.heap[k]?:=by
 show (w.heap++os)[k]? = _
 exact Array.getElem?_append_left h
open Classical in
def V0 {n:Nat} (d':Array (Fin (n+1))) (j:Nat):Nat:=if h:∃k,∃hk:k<d'.size,(d'[k]).val=j then h.choose else j
theorem Ai5 {n:Nat} {d':Array (Fin (n+1))} (hinj:∀i j (hi:i<d'.size) (hj:j<d'.size),d'[i]=d'[j]->i=j) {k:Nat} (hk:k<d'.size):V0 d' (d'[k]).val=k:=by
 have h:∃k',∃hk':k'<d'.size,(d'[k']).val=(d'[k]).val:=⟨k,hk,rfl⟩
 unfold V0
 rw [dif_pos h]
 obtain ⟨h1,h2⟩:=h.choose_spec
 exact hinj _ _ h1 hk (Fin.ext h2)
def XO {n:Nat} (d':Array (Fin (n+1))):Nat×Ak->Lab
 | (0,[.i j])=>.io 0 [.i (V0 d' j)]
 | (i,q)=>.io i q
theorem Alc {P:Program} {f g:FuncId} (he:∀(args:Array Value) (w:World),(callFunc f args).run P w=.ok (.enter f args) w)
  (hc:∀(w:World) (v1 v2:Value) (xs ys:List Int),Hdr w v1 xs->Hdr w v2 ys->xs.length<=lim->ys.length<=lim->Calls P g #[v1,v2] w fun e w'=>e=.returned (.int .i64 (B6 xs ys))/\w'=w)
  (h:∀(n:Nat) (enc:Fin (n+1)->Value) (cf:Fin (n+1)->Fin (n+1)->Int) (blk off cap:Nat) (w:World),OneCell enc->SWO (ltOf cf)->CmpLays1 P g #[] enc cf blk off (idA n).size w->Go.Sort.Holds enc w blk off (idA n)->blk<w.heap.size->(idA n).size<4611686018427387904 ->
   Calls P f #[.slice (some ⟨blk,off,none⟩) (idA n).size cap,.func (.func g) #[] #[]] w fun e w'=>e=.returned (.tuple #[]) /\ ∃d' m os,PermIn 0 (idA n).size (idA n) d'/\SortedIn (ltOf cf) 0 (idA n).size d'/\w'=sortWorld enc w blk off m d' os)
  (h0:∀(p:Option Addr) (cap:Nat) (fv:Value) (w:World),Calls P f #[.slice p 0 cap,fv] w fun e w'=>e=.returned (.tuple #[])/\w'=w) :
  Aa P f ⟨[(kSS,true),(.clo g .unit .unit,false)],[],true,Jl⟩:=by
 intro w ψ U vs d out hargs hU hψ hgl ho
 obtain ⟨xss,fv,u⟩:=d
 have ho:Jl (xss,fv,u)=some out:=ho
 unfold Jl at ho
 split at ho
 case isFalse=>cases ho
 rename_i hl
 have hl:(okL xss&&xss.all okL)=true:=hl
 simp only [AGc] at hl
 obtain ⟨hl,hal⟩:=hl
 have hl:xss.length<=lim:=of_decide_eq_true hl
 have hal:∀x∈xss,x.length<=lim:=fun x hx=>of_decide_eq_true (List.all_eq_true.1 hal x hx)
 obtain rfl:=AGg ho
 obtain ⟨c1,r1,rfl,k2,c2,r2,rfl,k3,k5⟩:=hargs
 have k5:r2=[]:=k5
 subst k5
 have hfv:Ao (.clo g .unit .unit) c2=.func (.func g) #[] #[]:=by
  obtain ⟨a1,a2,e,_⟩:=(show Rep w _ (.clo g .unit .unit) [] c2 fv from k3)
  rw [e]
  rfl
 rw [hfv]
 have k2:Rep w (fun q b=>ψ b=some (0,q)) kSS [] c1 xss:=k2
 rw [Rep] at k2
 -- the world as it was
 have same:∀(v:Value),(∃p cap,c1=[.slice p 0 cap])->xss=[]->BV P f (Ao kSS c1::[.func (.func g) #[] #[]]).toArray w fun v w' => ∃χ,Post ⟨[(kSS,true),(.clo g .unit .unit,false)],[],true,Jl⟩ ψ U (Ao kSS c1::[.func (.func g) #[] #[]]) w (Iw xss,()) χ v w':=by
  rintro _ ⟨p,cap,rfl⟩ rfl
  unfold BV
  rw [show (Ao kSS [Value.slice p 0 cap]::[Value.func (.func g) #[] #[]]).toArray = #[.slice p 0 cap,.func (.func g) #[] #[]] from rfl,he]
  refine Calls.mono (h0 p cap _ w) fun e w' hh => ?_
  obtain ⟨rfl,rfl⟩:=hh
  refine ⟨fun b=>match ψ b with | some (i,q)=>some (.io i q) | none=>none,⟨rfl,rfl,rfl,AGf _,fun _ _ _=>rfl,fun b z hz => ?_,⟨[],trivial,rfl⟩,?_⟩⟩
  ·cases hb:ψ b with
   | none=>rw [hb] at hz;cases hz
   | some y=>exact ⟨.inr (by simp),hψ b y hb⟩
  ·refine ⟨fun _=>⟨[.slice p 0 cap],rfl,rfl,?_⟩,trivial⟩
   rw [IP.of (show Kd.isBx kSS=false from rfl)]
   show Rep _ _ kSS [] [.slice p 0 cap] []
   rw [Rep]
   rcases k2 with ⟨⟨a,e⟩,_⟩ | ⟨b,off,cap',e,kc,kS,kb,ke⟩
   ·exact .inl ⟨⟨a,e⟩,rfl⟩
   ·refine .inr ⟨b,off,cap',e,kc,?_,kb,fun i hi=>absurd hi (by simp)⟩
    show (match ψ b with | some (i,q)=>some (Lab.io i q) | none=>none)=some (.io 0 [])
    rw [kS]
 rcases k2 with ⟨⟨a,e⟩,hz⟩ | ⟨b,off,cap,e,kc,kS,kb,ke⟩
 ·exact same undef ⟨a,0,e⟩ hz
 cases hn:xss.length with
 | zero=>
  have hz:xss=[]:=List.length_eq_zero_iff.1 hn
  rw [hn] at e
  exact same undef ⟨_,cap,e⟩ hz
 | succ n=>
  clear same
  have kS:ψ b=some (0,[]):=kS
  obtain ⟨cs,T,fr,hrow,hthaw⟩:=hψ b _ kS
  obtain ⟨cs2,T2,fr2,hrow2,hfit⟩:=kb
  rw [hrow] at hrow2
  injection hrow2 with hrow2
  injection hrow2 with e1 e2 e3
  subst e1 e2 e3
  simp only [Kd.size,Nat.mul_one] at hfit
  rw [hn] at kc
  -- the headers
  have hlt:∀j,j<n+1->off+j<cs.size:=fun j hj=>by omega
  have hel:∀j (hj:j<n+1),Rep w (fun q b=>ψ b=some (0,q)) (.slice (.int .i64)) [.i j] [cs[off+j]'(hlt j hj)] (xss.getD j []):=fun j hj=>by
   have hj':j<xss.length:=by omega
   have:=ke j hj'
   simp only [Kd.size,Nat.mul_one,List.nil_append] at this
   unfold Al at this
   rw [hrow] at this
   have e:(cs.toList.drop (off+j)).take 1=[cs[off+j]'(hlt j hj)]:=by
    rw [AGj (by simpa using hlt j hj),List.take_succ_cons,List.take_zero,Array.getElem_toList]
   simp only at this
   rw [e] at this
   have e2:xss.getD j []=xss.get ⟨j,hj'⟩:=by simp [AGm,hj']
   rw [e2]
   exact this
  have hb:=(Array.getElem?_eq_some_iff.1 hrow).1
  let enc:Fin (n+1)->Value:=fun j=>cs[off+j.val]'(hlt j.val j.isLt)
  have hOne:OneCell enc:=fun j=>by
   have:=hel j.val j.isLt
   rw [Rep] at this
   rcases this with ⟨⟨a,e⟩,_⟩ | ⟨b',o',c',e,_⟩
   ·rw [show enc j=.slice a 0 0 from (List.cons.inj e).1];rfl
   ·rw [show enc j=_ from (List.cons.inj e).1];rfl
  have hneb:∀j b',ψ b'=some (0,[.i j])->b'≠b:=fun j b' h1 e=>by
   subst e
   rw [kS] at h1
   cases h1
  have hother':∀(m:Nat) (dk:Array (Fin (n+1))) (os:Array Obj) (k:Nat),k<w.heap.size->k≠b->(sortWorld enc w b off m dk os).heap[k]? = w.heap[k]?:=fun m dk os k hk hne=>by
   unfold sortWorld
   have hsz:(putRow enc (Go.Sort.ahead w m) b off dk).heap.size=w.heap.size:=by simp [putRow,mapBlock]
   rw [Aaa (by rw [hsz];exact hk),NF hne]
   rfl
  have hcmp:CmpLays1 P g #[] enc (fun x y=>B6 (xss.getD x.val []) (xss.getD y.val [])) b off (idA n).size w:=fun m os dk hs x y=>by
   have hh:∀z:Fin (n+1),Hdr (sortWorld enc w b off m dk os) (enc z) (xss.getD z.val []):=fun z=>Aqo (hel z.val z.isLt) fun b' hb'=>hother' m dk os b' (hψ b' _ hb').lt (hneb _ _ hb')
   have hln:∀z:Fin (n+1),(xss.getD z.val []).length<=lim:=fun z=>by
    have hz:z.val<xss.length:=by omega
    have:xss.getD z.val []=xss[z.val]:=by simp [AGm,hz]
    rw [this]
    exact hal _ (AGk hz)
   refine Calls.mono (hc _ _ _ _ _ (hh x) (hh y) (hln x) (hln y)) fun e w' hw => ?_
   obtain ⟨rfl,rfl⟩:=hw
   refine ⟨rfl,0,#[],?_⟩
   rw [Go.Sort.grow_empty]
   rfl
  have hH:Go.Sort.Holds enc w b off (idA n):=fun j hj=>by
   have hj':j<n+1:=by rw [GZ] at hj;exact hj
   have e:(idA n)[j]! = ⟨j,hj'⟩:=by rw [getElem!_pos (idA n) j hj];simp [idA]
   constructor
   ·unfold World.cell?
    rw [hrow,e]
    simp [enc,hlt j hj']
   ·unfold World.frozen?
    rw [hrow]
    obtain ⟨f1,f2⟩:=fr
    have:=hlt j hj'
    simp only at hthaw
    simp
    omega
  have hcall:=h n enc _ b off cap w hOne (Ayy fun z:Fin (n+1)=>xss.getD z.val []) hcmp hH hb (by rw [GZ];unfold lim at hl;omega)
  unfold BV
  rw [e,hn,show (Ao kSS [Value.slice (some ⟨b,off,none⟩) (n+1) cap]::[Value.func (.func g) #[] #[]]).toArray = #[.slice (some ⟨b,off,none⟩) (n+1) cap,.func (.func g) #[] #[]] from rfl,he]
  rw [GZ] at hcall
  refine Calls.mono hcall fun e w' hh => ?_
  obtain ⟨rfl,d',m,os,hperm,hsort,rfl⟩:=hh
  have hperm':PermIn 0 (idA n).size (idA n) d':=by rw [GZ];exact hperm
  obtain ⟨hs,hp,hinj⟩:=An7 hperm'
  have hdata:=Ym xss hn hp hs (by rw [GZ];exact hsort)
  have hother:=hother' m d' os
  have hnew:(sortWorld enc w b off m d' os).heap[b]? = some (.cells (putCells enc off d' cs) T fr):=by
   unfold sortWorld
   have hsz:(putRow enc (Go.Sort.ahead w m) b off d').heap.size=w.heap.size:=by simp [putRow,mapBlock]
   rw [Aaa (by rw [hsz];exact hb)]
   exact TQ (w:=Go.Sort.ahead w m) hrow
  have hps:(putCells enc off d' cs).size=cs.size:=by simp [putCells]
  have hlen:(Iw xss).length=n+1:=by rw [NV,hn]
  refine ⟨fun b=>match ψ b with | some z=>some (XO d' z) | none=>none,⟨rfl,rfl,rfl,?_,fun k hk hn => ?_,fun k z hz => ?_,⟨[],trivial,rfl⟩,?_⟩⟩
  ·show w.heap.size<=((putRow enc (Go.Sort.ahead w m) b off d').heap++os).size
   have hsz:(putRow enc (Go.Sort.ahead w m) b off d').heap.size=w.heap.size:=by simp [putRow,mapBlock]
   rw [Array.size_append,hsz]
   omega
  ·exact hother k hk (fun e=>by subst e;rw [kS] at hn;cases hn)
  ·cases hk:ψ k with
   | none=>rw [hk] at hz;cases hz
   | some y=>
    refine ⟨.inr (by simp),?_⟩
    by_cases e:k=b
    ·subst e
     exact ⟨_,T,fr,hnew,hthaw.imp (fun h=>h) fun h=>by rw [hps];exact h⟩
    ·exact (hψ k y hk).same (hother k (hψ k y hk).lt e)
  ·refine ⟨fun _=>⟨[.slice (some ⟨b,off,none⟩) (n+1) cap],rfl,rfl,?_⟩,trivial⟩
   rw [IP.of (show Kd.isBx kSS=false from rfl)]
   show Rep _ _ kSS [] [.slice (some ⟨b,off,none⟩) (n+1) cap] (Iw xss)
   rw [Rep]
   refine .inr ⟨b,off,cap,by rw [hlen],by rw [hlen];exact kc,?_,⟨_,T,fr,hnew,?_⟩,fun i hi => ?_⟩
   ·show (match ψ b with | some z=>some (XO d' z) | none=>none)=some (.io 0 [])
    rw [kS]
    rfl
   ·simp only [Kd.size,Nat.mul_one]
    rw [hps]
    exact hfit
   ·have hi1:i<n+1:=by rw [<- hlen];exact hi
    have hi2:i<d'.size:=by omega
    have ecell:Al (sortWorld enc w b off m d' os) b (off+i*(Kd.slice (.int .i64)).size) (Kd.slice (.int .i64)).size=[enc d'[i]]:=by
     unfold Al
     rw [hnew]
     simp only [Kd.size,Nat.mul_one]
     have hlt2:off+i<(putCells enc off d' cs).toList.length:=by rw [Array.length_toList,hps];exact hlt i hi1
     rw [AGj hlt2,List.take_succ_cons,List.take_zero]
     congr 1
     simp only [putCells,Array.getElem_toList,Array.getElem_mapIdx]
     rw [if_pos ⟨by omega,by omega⟩,show off+i-off=i by omega,getElem!_pos d' i hi2]
    have edata:(Iw xss).get ⟨i,hi⟩=xss.getD (d'[i]).val []:=by
     have:(Iw xss)[i]=xss.getD (d'[i]).val []:=by
      simp only [hdata,List.getElem_map,Array.getElem_toList]
     exact this
    rw [ecell,edata]
    refine S5 (hel (d'[i]).val (d'[i]).isLt) fun b' hb'=>⟨hother b' (hψ b' _ hb').lt (hneb _ _ hb'),?_⟩
    show (match ψ b' with | some z=>some (XO d' z) | none=>none)=some (.io 0 ([]++[.i i]))
    have hb':ψ b'=some (0,[.i (d'[i]).val]):=hb'
    rw [hb']
    show some (Lab.io 0 [.i (V0 d' (d'[i]).val)])=_
    rw [Ai5 hinj hi2]
    rfl
end Go.V.W
namespace Go.V.W
open Go.Proofs Go.RowKit
def PY (x y:Int):Int:=if x<y then -1 else if y<x then 1 else 0
theorem Ay7 {x y:Int} (h:x<y):PY x y = -1:=if_pos h
theorem Aw1 {x y:Int} (h:¬x<y) (h2:y<x):PY x y=1:=by unfold PY;rw [if_neg h,if_pos h2]
theorem Av0 {x y:Int} (h:¬x<y) (h2:¬y<x):PY x y=0:=by unfold PY;rw [if_neg h,if_neg h2]
set_option maxRecDepth 1000000 in
theorem AEu (x y:Int) (w:World):Calls Tryz.prog 246 #[.int .i64 x,.int .i64 y] w fun e w'=>e=.returned (.int .i64 (PY x y))/\w'=w:=by
 go_enter Tryz.func246,Tryz.ntmps246
 go_wp2
 ·have h:x<y:=by assumption
  go_ret
  refine ⟨?_,rfl⟩
  rw [Ay7 h]
  rfl
 ·have h2:y<x:=by assumption
  have h:¬x<y:=by omega
  go_ret
  refine ⟨?_,rfl⟩
  rw [Aw1 h h2]
  rfl
 ·have h3:y<=x:=by assumption
  have h4:x<=y:=by assumption
  have h:¬x<y:=by omega
  have h2:¬y<x:=by omega
  go_ret
  refine ⟨?_,rfl⟩
  rw [Av0 h h2]
  rfl
set_option maxRecDepth 1000000 in
set_option maxHeartbeats 4000000 in
theorem AFe (b1 o1 c1 b2 o2 c2:Nat) (xs ys:List Int) (w:World) (hx:∀j (h:j<xs.length),w.cell? ⟨b1,o1+j,none⟩=some (.int .i64 xs[j])) (hy:∀j (h:j<ys.length),w.cell? ⟨b2,o2+j,none⟩=some (.int .i64 ys[j]))
  (hl1:xs.length<=lim) (hl2:ys.length<=lim):Calls Tryz.prog 199 #[.slice (some ⟨b1,o1,none⟩) xs.length c1,.slice (some ⟨b2,o2,none⟩) ys.length c2] w fun e w'=>e=.returned (.int .i64 (B6 xs ys))/\w'=w:=by
 have hn1:xs.length<=1099511627776:=hl1
 have hn2:ys.length<=1099511627776:=hl2
 go_enter Tryz.func199,Tryz.ntmps199
 go_wp2
 go_loop [11] (fun i => ∃k:Nat,k<=xs.length/\k<=ys.length/\i=.int .i64 k/\B6 xs ys=B6 (xs.drop k) (ys.drop k)) (fun i=>match i with | .int _ m=>xs.length-m.toNat | _=>0)
 case atStart=>exact ⟨0,Nat.zero_le _,Nat.zero_le _,rfl,rfl⟩
 case round=>
  obtain ⟨k,hk1,hk2,rfl,hrel⟩:=hrel
  by_cases hkx:k<xs.length
  ·by_cases hky:k<ys.length
   ·obtain ⟨x,hxe⟩:∃x,x=xs[k]:=⟨_,rfl⟩
    obtain ⟨y,hye⟩:∃y,y=ys[k]:=⟨_,rfl⟩
    have hcx:w.cell? ⟨b1,o1+k,none⟩=some (.int .i64 x):=by rw [hx k hkx,hxe]
    have hcy:w.cell? ⟨b2,o2+k,none⟩=some (.int .i64 y):=by rw [hy k hky,hye]
    have hdx:xs.drop k=x::xs.drop (k+1):=by rw [AGj hkx,hxe]
    have hdy:ys.drop k=y::ys.drop (k+1):=by rw [AGj hky,hye]
    have hstep:B6 xs ys=if x<y then -1 else if y<x then 1 else B6 (xs.drop (k+1)) (ys.drop (k+1)):=by rw [hrel,hdx,hdy];rfl
    clear hx hy hxe hye hrel hdx hdy
    go_wp2_with (go_at_call 246;refine (AEu _ _ _).mono ?_;rintro e w' ⟨rfl,rfl⟩)
    ·have hne:PY x y≠0:=by
      have h:(PY x y != 0)=true:=by assumption
      simpa using h
     have he:B6 xs ys=PY x y:=by
      rw [hstep]
      unfold PY at hne |-
      by_cases c1:x<y
      ·rw [if_pos c1,if_pos c1]
      ·by_cases c2:y<x
       ·rw [if_neg c1,if_neg c1,if_pos c2,if_pos c2]
       ·rw [if_neg c1,if_neg c2] at hne
        exact absurd rfl hne
     go_ret
     refine ⟨?_,rfl⟩
     rw [he]
     rfl
    ·have hz:PY x y=0:=by
      have h:(PY x y != 0)=false:=by assumption
      simpa using h
     have he:B6 xs ys=B6 (xs.drop (k+1)) (ys.drop (k+1)):=by
      rw [hstep]
      unfold PY at hz
      by_cases c1:x<y
      ·rw [if_pos c1] at hz;cases hz
      ·by_cases c2:y<x
       ·rw [if_neg c1,if_pos c2] at hz;cases hz
       ·rw [if_neg c1,if_neg c2]
     refine ⟨⟨k+1,by omega,by omega,rfl,he⟩,?_⟩
     show xs.length-((k:Int)+1).toNat<xs.length-(k:Int).toNat
     omega
   ·have hdx:xs.drop k=xs[k]::xs.drop (k+1):=AGj hkx
    have hdy:ys.drop k=[]:=AGi (by omega)
    have he:B6 xs ys=1:=by rw [hrel,hdx,hdy];rfl
    have hcx:w.cell? ⟨b1,o1+k,none⟩=some (.int .i64 xs[k]):=hx k hkx
    clear hx hy hrel hdx hdy
    go_wp2
    go_ret
    refine ⟨?_,rfl⟩
    rfl
  ·have hdx:xs.drop k=[]:=AGi (by omega)
   have he:B6 xs ys=if xs.length<ys.length then -1 else 0:=by
    rw [hrel,hdx]
    by_cases h:k<ys.length
    ·rw [AGj h,if_pos (by omega)]
     rfl
    ·rw [AGi (by omega),if_neg (by omega)]
     rfl
   clear hx hy hrel hdx
   go_wp2
   ·have h:xs.length<ys.length:=by assumption
    go_ret
    refine ⟨?_,rfl⟩
    rfl
   ·have h:¬xs.length<ys.length:=by assumption
    go_ret
    refine ⟨?_,rfl⟩
    rfl
set_option maxRecDepth 1000000 in
set_option maxHeartbeats 4000000 in
theorem LW (a1 a2:Option Addr) (c1 m c2:Nat) (w:World) (hm:m<=lim):Calls Tryz.prog 199 #[.slice a1 0 c1,.slice a2 m c2] w fun e w'=>e=.returned (.int .i64 (if 0<m then -1 else 0))/\w'=w:=by
 have hn:m<=1099511627776:=hm
 go_enter Tryz.func199,Tryz.ntmps199
 go_wp2
 go_loop [11] (fun i=>i=.int .i64 0) (fun _=>0)
 case atStart=>rfl
 case round=>
  subst hrel
  go_wp2
  ·have h:0<m:=by assumption
   go_ret
   refine ⟨?_,rfl⟩
   first | rfl | (rw [if_pos h];rfl)
  ·go_ret
   refine ⟨?_,rfl⟩
   first | rfl | (rw [if_neg (by omega)];rfl)
set_option maxRecDepth 1000000 in
set_option maxHeartbeats 4000000 in
theorem Af4 (b1 o1 n c1:Nat) (a2:Option Addr) (c2:Nat) (x:Int) (w:World) (h0:0<n) (hn:n<=1099511627776) (hx:w.cell? ⟨b1,o1,none⟩=some (.int .i64 x)):Calls Tryz.prog 199 #[.slice (some ⟨b1,o1,none⟩) n c1,.slice a2 0 c2] w fun e w'=>e=.returned (.int .i64 1)/\w'=w:=by
 go_enter Tryz.func199,Tryz.ntmps199
 go_wp2
 go_loop [11] (fun i=>i=.int .i64 0) (fun _=>0)
 case atStart=>rfl
 case round=>
  subst hrel
  go_wp2
  all_goals (go_ret;exact ⟨rfl,rfl⟩)
theorem Auo (ys:List Int):(if 0<ys.length then (-1:Int) else 0)=B6 [] ys:=by cases ys<;>rfl
theorem AFz {w:World} {v1 v2:Value} {xs ys:List Int} (h1:Hdr w v1 xs) (h2:Hdr w v2 ys) (l1:xs.length<=lim) (l2:ys.length<=lim):Calls Tryz.prog 199 #[v1,v2] w fun e w'=>e=.returned (.int .i64 (B6 xs ys))/\w'=w:=by
 rcases h1 with ⟨a1,rfl,rfl⟩ | ⟨b1,o1,c1,rfl,hx⟩
 ·rcases h2 with ⟨a2,rfl,rfl⟩ | ⟨b2,o2,c2,rfl,hy⟩
  ·exact LW a1 a2 0 0 0 w (Nat.zero_le _)
  ·rw [<- Auo]
   exact LW a1 (some ⟨b2,o2,none⟩) 0 ys.length c2 w l2
 ·rcases h2 with ⟨a2,rfl,rfl⟩ | ⟨b2,o2,c2,rfl,hy⟩
  ·cases xs with
   | nil=>exact LW (some ⟨b1,o1,none⟩) a2 c1 0 0 w (Nat.zero_le _)
   | cons x xs=>
    have l1':(x::xs).length<=1099511627776:=l1
    exact Af4 b1 o1 (x::xs).length c1 a2 0 x w (by simp) l1' (hx 0 (by simp))
  ·exact AFe b1 o1 c1 b2 o2 c2 xs ys w hx hy l1 l2
end Go.V.W
namespace Go.V.W
open Go.Proofs Go.RowKit Go.Shelf Go.Lib Go.Sort
set_option maxRecDepth 1000000 in
set_option maxHeartbeats 4000000 in
theorem AFn (b1 o1 c1 b2 o2 c2:Nat) (xs ys:List Int) (n:Nat) (w:World) (hx:∀j (h:j<xs.length),w.cell? ⟨b1,o1+j,none⟩=some (.int .i64 xs[j])) (hy:∀j (h:j<ys.length),w.cell? ⟨b2,o2+j,none⟩=some (.int .i64 ys[j]))
  (hn:n<=1099511627776) (h1:Aside (xs.length=n)) (h2:Aside (ys.length=n)):Calls Tryz.prog 204 #[.slice (some ⟨b1,o1,none⟩) n c1,.slice (some ⟨b2,o2,none⟩) n c2] w fun e w'=>e=.returned (.bool (decide (xs=ys))) /\ ∃q,w'=w.drewN q:=by
 have mixed:Tryz.prog.follows .mixedOrders=true:=by kernel_rfl
 have HX:Aside _:=hx
 have HY:Aside _:=hy
 clear hx hy
 go_enter Tryz.func204,Tryz.ntmps204
 go_wp2
 go_loopg [13] n (fun g s13 wr => ∃k q:Nat,k<=n/\n-k<=g/\s13=.int .i64 k/\wr=w.drewN q/\Aside (decide (xs=ys)=decide (xs.drop k=ys.drop k)))
 case atStart=>exact ⟨0,0,Nat.zero_le _,by omega,rfl,rfl,rfl⟩
 case round=>
  obtain ⟨k,q,hk1,hg,rfl,rfl,hrel⟩:=hrel
  by_cases hkx:k<n
  ·have hkx':k<xs.length:=by rw [h1.out];exact hkx
   have hky':k<ys.length:=by rw [h2.out];exact hkx
   obtain ⟨x,hxe⟩:∃x,x=xs[k]:=⟨_,rfl⟩
   obtain ⟨y,hye⟩:∃y,y=ys[k]:=⟨_,rfl⟩
   have hcx:w.cell? ⟨b1,o1+k,none⟩=some (.int .i64 x):=by rw [HX.out k hkx',hxe]
   have hcy:w.cell? ⟨b2,o2+k,none⟩=some (.int .i64 y):=by rw [HY.out k hky',hye]
   have hdx:xs.drop k=x::xs.drop (k+1):=by rw [AGj hkx',hxe]
   have hdy:ys.drop k=y::ys.drop (k+1):=by rw [AGj hky',hye]
   have hstep:Aside (decide (xs=ys)=(decide (x=y)&&decide (xs.drop (k+1)=ys.drop (k+1)))):=by
    show _=_
    rw [hrel.out,hdx,hdy]
    rw [Bool.eq_iff_iff]
    simp
   clear hkx' hky' hxe hye hrel hdx hdy
   by_cases hxy:x=y
   ·subst hxy
    have he:Aside (decide (xs=ys)=decide (xs.drop (k+1)=ys.drop (k+1))):=by
     show _=_
     rw [hstep.out];simp
    clear hstep
    go_wp2_with fail
    go_region_o
    go_wp2
    go_roundg (n-(k+1))
    case measure=>omega
    case rel=>exact ⟨k+1,q+1,by omega,AGf _,by go_num,rfl,he⟩
   ·have he:Aside (decide (xs=ys)=false):=by
     show _=_
     rw [hstep.out];simp [hxy]
    clear hstep
    go_wp2_with fail
    go_region_o
    go_wp2
    go_ret
    exact ⟨by rw [he.out];rfl,q+1,rfl⟩
  ·have he:Aside (decide (xs=ys)=true):=by
    show _=_
    rw [hrel.out,AGi (by rw [h1.out];omega),AGi (by rw [h2.out];omega)]
    simp
   clear hrel
   go_wp2
   go_ret
   exact ⟨by rw [he.out];rfl,q,rfl⟩
set_option maxRecDepth 1000000 in
theorem As7 (a1 a2:Option Addr) (m n c1 c2:Nat) (w:World) (h:¬(m:Int)=n) (hm:m<=1099511627776) (hn:n<=1099511627776):Calls Tryz.prog 204 #[.slice a1 m c1,.slice a2 n c2] w fun e w'=>e=.returned (.bool false) /\ ∃q,w'=w.drewN q:=by
 go_enter Tryz.func204,Tryz.ntmps204
 go_wp2
 go_ret
 exact ⟨rfl,0,rfl⟩
set_option maxRecDepth 1000000 in
theorem Ajj (a1 a2:Option Addr) (c1 c2:Nat) (w:World):Calls Tryz.prog 204 #[.slice a1 0 c1,.slice a2 0 c2] w fun e w'=>e=.returned (.bool true) /\ ∃q,w'=w.drewN q:=by
 go_enter Tryz.func204,Tryz.ntmps204
 go_wp2
 go_loopg [13] 0 (fun g s13 wr=>s13=.int .i64 0/\wr=w)
 case atStart=>exact ⟨rfl,rfl⟩
 case round=>
  obtain ⟨rfl,rfl⟩:=hrel
  go_wp2
  go_ret
  exact ⟨rfl,0,rfl⟩
theorem eqH {w:World} {v1 v2:Value} {xs ys:List Int} (h1:Hdr w v1 xs) (h2:Hdr w v2 ys) (l1:xs.length<=lim) (l2:ys.length<=lim):Calls Tryz.prog 204 #[v1,v2] w fun e w'=>e=.returned (.bool (decide (xs=ys))) /\ ∃q,w'=w.drewN q:=by
 have l1':xs.length<=1099511627776:=l1
 have l2':ys.length<=1099511627776:=l2
 obtain ⟨a1,c1,e1⟩:∃a c,v1=.slice a xs.length c:=by
  rcases h1 with ⟨a,rfl,rfl⟩ | ⟨b,off,cap,rfl,_⟩
  ·exact ⟨a,0,rfl⟩
  ·exact ⟨_,cap,rfl⟩
 obtain ⟨a2,c2,e2⟩:∃a c,v2=.slice a ys.length c:=by
  rcases h2 with ⟨a,rfl,rfl⟩ | ⟨b,off,cap,rfl,_⟩
  ·exact ⟨a,0,rfl⟩
  ·exact ⟨_,cap,rfl⟩
 by_cases hne:xs.length=ys.length
 ·by_cases h0:xs.length=0
  ·have hx:xs=[]:=List.length_eq_zero_iff.1 h0
   have hy:ys=[]:=List.length_eq_zero_iff.1 (by omega)
   subst hx hy
   rw [e1,e2]
   exact Ajj a1 a2 c1 c2 w
  ·rcases h1 with ⟨a,_,hx⟩ | ⟨b,off,cap,rfl,hx⟩
   ·rw [hx] at h0;exact absurd rfl h0
   ·rcases h2 with ⟨a,_,hy⟩ | ⟨b',off',cap',rfl,hy⟩
    ·rw [hy] at hne;exact absurd hne h0
    ·have:=AFn b off cap b' off' cap' xs ys xs.length w hx hy l1' rfl hne.symm
     rw [hne] at this |-
     exact this
 ·rw [e1,e2]
  have:decide (xs=ys)=false:=decide_eq_false fun e=>hne (by rw [e])
  rw [this]
  exact As7 a1 a2 _ _ c1 c2 w (by omega) l1' l2'
end Go.V.W
namespace Go.V.W
open Go.Proofs Go.RowKit Go.Shelf Go.Lib Go.Sort
def kpB (key:Nat->List Int) (j:Nat):Bool:=j==0 || !decide (key j=key (j-1))
def Bm (key:Nat->List Int) (m:Nat):List Nat:=(List.range m).filter (kpB key)
theorem Ml (key:Nat->List Int) (m:Nat):Bm key (m+1)=if kpB key m=true then Bm key m++[m] else Bm key m:=by
 unfold Bm
 rw [List.range_succ,List.filter_append]
 cases h:kpB key m<;>simp [h]
theorem UT {key:Nat->List Int}:∀{m:Nat},(∀j,j<m->kpB key j=true)->Bm key m=List.range m:=by
 intro m h
 unfold Bm
 exact List.filter_eq_self.2 fun j hj=>h j (List.mem_range.1 hj)
theorem Zs (key:Nat->List Int) (m:Nat):(Bm key m).length<=m:=by
 have:=List.length_filter_le (kpB key) (List.range m)
 rw [List.length_range] at this
 exact this
structure CInv (key:Nat->List Int) (n m k:Nat) (dk:Array Nat):Prop where
 size:dk.size=n
 len:(Bm key m).length=k
 lt:k<m
 low:∀j,j<k->(Bm key m)[j]? = some dk[j]!
 high:∀j,k<=j->j<n->dk[j]! = j
theorem HC {n j:Nat} (h:j<n):(Array.range n)[j]! = j:=by
 rw [getElem!_pos (Array.range n) j (by simpa using h)]
 simp
theorem CInv.start {key:Nat->List Int} {n k0:Nat} (hk:k0<n) (hall:∀j,j<k0->kpB key j=true) (hdup:kpB key k0=false):CInv key n (k0+1) k0 (Array.range n):=by
 have e:Bm key (k0+1)=List.range k0:=by rw [Ml,hdup,UT hall];rfl
 refine ⟨by simp,by rw [e];simp,Nat.lt_succ_self _,fun j hj => ?_,fun j _ hj=>HC hj⟩
 rw [e,HC (by omega)]
 simp [hj]
theorem CInv.keep {key:Nat->List Int} {n m k:Nat} {dk:Array Nat} (h:CInv key n m k dk) (hm:m<n) (hk:kpB key m=true):CInv key n (m+1) (k+1) (dk.setIfInBounds k m):=by
 have hs:=h.size
 have hl:=h.len
 have hlt:=h.lt
 have hs2:(dk.setIfInBounds k m).size=n:=by simp [hs]
 have e:Bm key (m+1)=Bm key m++[m]:=by rw [Ml,hk];rfl
 refine ⟨by simp [hs],by rw [e];simp [hl],by omega,fun j hj => ?_,fun j h1 h2 => ?_⟩
 ·rw [e]
  by_cases hj2:j<k
  ·rw [List.getElem?_append_left (by omega),h.low j hj2]
   rw [getElem!_pos (dk.setIfInBounds k m) j (by omega),getElem!_pos dk j (by omega),Array.getElem_setIfInBounds (by omega),if_neg (by omega)]
  ·have:j=k:=by omega
   subst this
   rw [List.getElem?_append_right (by omega),hl,Nat.sub_self]
   rw [getElem!_pos (dk.setIfInBounds j m) j (by omega),Array.getElem_setIfInBounds (by omega),if_pos rfl]
   rfl
 ·rw [getElem!_pos (dk.setIfInBounds k m) j (by omega),Array.getElem_setIfInBounds (by omega),if_neg (by omega),<- getElem!_pos dk j (by omega)]
  exact h.high j (by omega) h2
theorem CInv.skip {key:Nat->List Int} {n m k:Nat} {dk:Array Nat} (h:CInv key n m k dk) (hk:kpB key m=false):CInv key n (m+1) k dk:=by
 have e:Bm key (m+1)=Bm key m:=by rw [Ml,hk];rfl
 have:=h.lt
 exact ⟨h.size,by rw [e];exact h.len,by omega,by rw [e];exact h.low,h.high⟩
end Go.V.W
namespace Go.V.W
open Go.Proofs Go.RowKit Go.Shelf Go.Lib Go.Sort
theorem CInv.done {key:Nat->List Int} {n k:Nat} {dk:Array Nat} (h:CInv key n n k dk) (z:Nat):lay dk k (List.replicate (n-k) z)=(Bm key n++List.replicate (n-k) z).toArray:=by
 have hk:=h.lt
 have hs:=h.size
 have hl:=h.len
 apply Array.ext_getElem?
 intro i
 rw [lay_get? _ _ _ _ (by simp;omega)]
 simp only [List.length_replicate,List.getElem?_toArray]
 by_cases h1:i<k
 ·rw [if_neg (by omega),List.getElem?_append_left (by omega),h.low i h1,getElem!_pos dk i (by omega)]
  exact Array.getElem?_eq_getElem (by omega)
 ·rw [List.getElem?_append_right (by omega),hl]
  by_cases h2:i<n
  ·rw [if_pos (by omega)]
  ·rw [if_neg (by omega),Array.getElem?_eq_none (by omega),List.getElem?_eq_none (by simp;omega)]
theorem AC8 (key:Nat->List Int):∀j,j<1->kpB key j=true:=fun j hj=>by
 have:j=0:=by omega
 subst this
 rfl
set_option maxHeartbeats 8000000 in
set_option maxRecDepth 1000000 in
theorem Ala (enc:Nat->Value) (key:Nat->List Int) (blk off cap n:Nat) (w:World) (henc:Aside (∀i,∃a l c,enc i=.slice a l c)) (hz:Aside (enc n=.slice none 0 0))
  (hH:Go.Sort.Holds enc w blk off (Array.range n)) (hn:n<=1099511627776) (hcap:n<=cap) (h2:2<=n)
  (heq:Aside (∀(q:Nat) (dk:Array Nat),dk.size=n -> ∀i j,i<n->j<n->Calls Tryz.prog 204 #[enc i,enc j] (putRow enc (Sort.ahead w q) blk off dk) fun e w'=>e=.returned (.bool (decide (key i=key j))) /\ ∃q',w'=(putRow enc (Sort.ahead w q) blk off dk).drewN q')) :
  Calls Tryz.prog 223 #[.slice (some ⟨blk,off,none⟩) n cap,.func (.func 204) #[] #[]] w fun e w'=>e=.returned (.slice (some ⟨blk,off,none⟩) (Bm key n).length cap) /\ ∃q,w'=putRow enc (Sort.ahead w q) blk off (Bm key n++List.replicate (n-(Bm key n).length) n).toArray:=by
 have mixed:Tryz.prog.follows .mixedOrders=true:=by kernel_rfl
 have hsr:(Array.range n).size=n:=by simp
 have HH:Aside (Go.Sort.Holds enc w blk off (Array.range n)):=hH
 have e49:∀(args:Array Value) (w:World),(callFunc 204 args).run Tryz.prog w=.ok (.enter 204 args) w:=enters_of Tryz.func204 (by kernel_rfl) rfl
 clear hH
 go_enter Tryz.func223,Tryz.ntmps223
 go_wp2
 go_loopg [5] n (fun g s5 wr => ∃k q:Nat,1<=k/\k<=n/\n-k<=g/\s5=.int .i64 k/\wr=w.drewN q/\Aside (∀j,j<k->kpB key j=true))
 case atStart=>exact ⟨1,0,AGf _,by omega,by omega,rfl,rfl,AC8 key⟩
 case round=>
  obtain ⟨k,q,hk1,hk,hg,rfl,hwr,A⟩:=hrel
  have HW:Aside (wr=w.drewN q):=hwr
  clear hwr
  by_cases hlt:k<n
  ·obtain ⟨a1,l1,c1,ek⟩:=henc.out k
   obtain ⟨a0,l0,c0,ek0⟩:=henc.out (k-1)
   obtain ⟨kp,hkp⟩:∃p,p+1=k:=⟨k-1,by omega⟩
   obtain ⟨iN,hiN⟩:∃p,p=k:=⟨_,rfl⟩
   obtain ⟨jN,hjN⟩:∃p,p=k-1:=⟨_,rfl⟩
   have zk:(k:Int)=(kp:Int)+1:=by omega
   have ea:((kp:Int)+1).toNat=iN:=by omega
   have pa:(0:Int)<=(kp:Int)+1:=by omega
   have ba:(kp:Int)+1<(n:Int):=by omega
   have ra:IntKind.i64.wrap ((kp:Int)+1)=(kp:Int)+1:=by rw [IntKind.wrap_i64];omega
   have ec:((kp:Int)).toNat=jN:=by omega
   have pc:(0:Int)<=(kp:Int):=by omega
   have bc:(kp:Int)<(n:Int):=by omega
   have rc:IntKind.i64.wrap ((kp:Int))=(kp:Int):=by rw [IntKind.wrap_i64];omega
   have hc1:wr.cell? ⟨blk,off+iN,none⟩=some (.slice a1 l1 c1):=by
    have:=(HH.out k (by rw [hsr];exact hlt)).1
    rw [HC hlt,ek] at this
    rw [hiN,HW.out]
    exact this
   have hc0:wr.cell? ⟨blk,off+jN,none⟩=some (.slice a0 l0 c0):=by
    have:=(HH.out (k-1) (by rw [hsr];omega)).1
    rw [HC (by omega),ek0] at this
    rw [hjN,HW.out]
    exact this
   have hcall:∀m,Calls Tryz.prog 204 #[.slice a1 l1 c1,.slice a0 l0 c0] (wr.drewN m) fun e w'=>e=.returned (.bool (decide (key k=key (k-1)))) /\ ∃q',w'=(wr.drewN m).drewN q':=fun m=>by
    have:=heq.out (q+m) (Array.range n) hsr k (k-1) hlt (by omega)
    rw [putRow_self enc (Sort.ahead w (q+m)) blk off _ (holds_ahead enc w (q+m) blk off _ HH.out),ek,ek0] at this
    rw [HW.out,World.drewN_drewN]
    exact this
   by_cases hdup:key k=key (k-1)
   ·have hb:decide (key k=key (k-1))=true:=decide_eq_true hdup
    rw [hb] at hcall
    have D:Aside (kpB key k=false):=by
     show _=_
     unfold kpB
     have:(k==0)=false:=by simp;omega
     rw [this,hb];rfl
    have IN:Aside (iN=k):=hiN
    clear hdup hb ek ek0 hiN hjN
    go_wp2_with fail
    go_quiet_o (first | (go_at_fn 204;refine Calls.quiet_of (hcall _)))
    clear hcall hc1 hc0
    go_wp2
    go_loopg [5,7] n (fun g s5 s7 w2 => ∃(kk k2 q2:Nat) (dk:Array Nat),s5=.int .i64 kk/\s7=.int .i64 k2/\1<=k2/\k+k2<=n/\n-(k+k2)<=g/\Aside (w2=putRow enc (Sort.ahead w q2) blk off dk)/\Aside (CInv key n (k+k2) kk dk))
    case atStart=>
     refine ⟨k,1,q+nq,Array.range n,by rw [zk],rfl,AGf _,by omega,by omega,?_,CInv.start hlt A.out D.out⟩
     show _=_
     rw [HW.out,World.drewN_drewN]
     exact (putRow_self enc (Sort.ahead w (q+nq)) blk off _ (holds_ahead enc w (q+nq) blk off _ HH.out)).symm
    case round=>
     obtain ⟨kk,k2,q2,dk,rfl,rfl,h1,hle,hg2,W2,I2⟩:=hrel
     have hkk:=I2.out.lt
     have hds:=I2.out.size
     have HK:Aside (Go.Sort.Holds enc wr blk off dk):=by
      show Go.Sort.Holds _ _ _ _ _
      rw [W2.out]
      exact holds_putRow enc _ blk off _ dk (holds_ahead enc w q2 blk off _ HH.out) (by rw [hds,hsr])
     clear ea pa ba ra ec pc bc rc
     by_cases hlt2:k+k2<n
     ·obtain ⟨a1,l1,c1,ek⟩:=henc.out (k+k2)
      obtain ⟨a0,l0,c0,ek0⟩:=henc.out (k+k2-1)
      obtain ⟨old,hold⟩:∃v,v=enc dk[kk]!:=⟨_,rfl⟩
      obtain ⟨p2,hp2⟩:∃p,p+1=k2:=⟨k2-1,by omega⟩
      obtain ⟨iM,hiM⟩:∃p,p=k2:=⟨_,rfl⟩
      obtain ⟨jM,hjM⟩:∃p,p=k2-1:=⟨_,rfl⟩
      have zk2:(k2:Int)=(p2:Int)+1:=by omega
      have ea:((p2:Int)+1).toNat=iM:=by omega
      have pa:(0:Int)<=(p2:Int)+1:=by omega
      have ra:IntKind.i64.wrap ((p2:Int)+1)=(p2:Int)+1:=by rw [IntKind.wrap_i64];omega
      have ec:((p2:Int)).toNat=jM:=by omega
      have pc:(0:Int)<=(p2:Int):=by omega
      have rc:IntKind.i64.wrap ((p2:Int))=(p2:Int):=by rw [IntKind.wrap_i64];omega
      have ba:(p2:Int)+1<((n-iN:Nat):Int):=by have:=IN.out;omega
      have bc:(p2:Int)<((n-iN:Nat):Int):=by have:=IN.out;omega
      have hc1:wr.cell? ⟨blk,off+iN+iM,none⟩=some (.slice a1 l1 c1):=by
       have:=(HK.out (k+k2) (by omega)).1
       rw [I2.out.high (k+k2) (by omega) hlt2,ek] at this
       rw [hiM,IN.out,Nat.add_assoc]
       exact this
      have hc0:wr.cell? ⟨blk,off+iN+jM,none⟩=some (.slice a0 l0 c0):=by
       have:=(HK.out (k+k2-1) (by omega)).1
       rw [I2.out.high (k+k2-1) (by omega) (by omega),ek0] at this
       rw [hjM,IN.out,show off+k+(k2-1)=off+(k+k2-1) by omega]
       exact this
      have hck:wr.cell? ⟨blk,off+kk,none⟩=some old:=by
       rw [hold]
       exact (HK.out kk (by omega)).1
      have hfk:wr.frozen? ⟨blk,off+kk,none⟩=false:=(HK.out kk (by omega)).2
      have hcall:∀m,Calls Tryz.prog 204 #[.slice a1 l1 c1,.slice a0 l0 c0] (wr.drewN m) fun e w'=>e=.returned (.bool (decide (key (k+k2)=key (k+k2-1)))) /\ ∃q',w'=(wr.drewN m).drewN q':=fun m=>by
       have:=heq.out (q2+m) dk hds (k+k2) (k+k2-1) hlt2 (by omega)
       have e:wr.drewN m=putRow enc (Sort.ahead w (q2+m)) blk off dk:=by rw [W2.out];exact putRow_drewN _ _ _ _ _ _ _
       rw [ek,ek0,<- e] at this
       exact this
      have IM:Aside (iM=k2):=hiM
      have EK:Aside (enc (k+k2)=.slice a1 l1 c1):=ek
      by_cases hdup:key (k+k2)=key (k+k2-1)
      ·have hb:decide (key (k+k2)=key (k+k2-1))=true:=decide_eq_true hdup
       rw [hb] at hcall
       have D2:Aside (kpB key (k+k2)=false):=by
        show _=_
        unfold kpB
        have:(k+k2==0)=false:=by simp;omega
        rw [this,hb];rfl
       clear hdup hb ek ek0 hiM hjM hold
       go_wp2_with fail
       go_quiet_o (first | (go_at_fn 204;refine Calls.quiet_of (hcall _)))
       clear hcall hc1 hc0
       go_wp2
       go_roundg (n-(k+(k2+1)))
       case measure=>omega
       case rel=>exact ⟨kk,k2+1,q2+nq,dk,rfl,by congr 1;omega,by omega,by omega,AGf _,(by show _=_;rw [W2.out];exact putRow_drewN _ _ _ _ _ _ _),I2.out.skip D2.out⟩
      ·have hb:decide (key (k+k2)=key (k+k2-1))=false:=decide_eq_false hdup
       rw [hb] at hcall
       have D2:Aside (kpB key (k+k2)=true):=by
        show _=_
        unfold kpB
        rw [hb];simp
       clear hdup hb ek ek0 hiM hjM hold
       go_wp2_with fail
       go_quiet_o (first | (go_at_fn 204;refine Calls.quiet_of (hcall _)))
       clear hcall
       go_wp2
       go_roundg (n-(k+(k2+1)))
       case measure=>omega
       case rel=>
        refine ⟨kk+1,k2+1,q2+nq,dk.setIfInBounds kk (k+k2),by first | rfl | (congr 1;omega),by first | rfl | (congr 1;omega),by omega,by omega,AGf _,?_,I2.out.keep hlt2 D2.out⟩
        show _=_
        rw [<- putRow_set enc _ blk off dk kk (k+k2) (by omega),EK.out,<- putRow_drewN,<- W2.out]
     ·have hend:k+k2=n:=by omega
      have hcl:∀ty,(Builtin.clear_ #[27] ty #[.slice (some ⟨blk,off+kk,none⟩) (n-kk) (cap-kk)]).run Tryz.prog wr=.ok (.tuple #[]) (wr.setCells blk (off+kk) (List.replicate (n-kk) (enc n))):=fun ty=>by
       rw [hz.out]
       exact Lib.run_clear_slice wr 27 36 ty _ Tryz.underlying27 (fun w=>by rfl) rfl rfl blk (off+kk) _ _ (by omega) (fun j hj=>by rw [show off+kk+j=off+(kk+j) by omega,(HK.out (kk+j) (by omega)).1];rfl) (fun j hj=>by rw [show off+kk+j=off+(kk+j) by omega];exact (HK.out (kk+j) (by omega)).2)
      have hge:¬k2<n-iN:=by have:=IN.out;omega
      have hge2:¬(k2:Int)<((n-iN:Nat):Int):=by omega
      go_wp2
      go_ret
      have hI:=I2.out
      rw [hend] at hI
      refine ⟨by rw [hI.len];rfl,q2,?_⟩
      rw [hI.len,<- hI.done n,<- putRow_setCells enc _ blk off _ dk kk (by simp;omega),<- W2.out,List.map_replicate]
   ·have hb:decide (key k=key (k-1))=false:=decide_eq_false hdup
    rw [hb] at hcall
    have D:Aside (kpB key k=true):=by
     show _=_
     unfold kpB
     rw [hb];simp
    clear hdup hb ek ek0 hiN hjN
    go_wp2_with fail
    go_quiet_o (first | (go_at_fn 204;refine Calls.quiet_of (hcall _)))
    clear hcall hc1 hc0
    go_wp2
    go_roundg (n-(k+1))
    case measure=>omega
    case rel=>
     refine ⟨k+1,q+nq,by omega,by omega,AGf _,by congr 1;omega,by rw [HW.out,World.drewN_drewN],fun j hj => ?_⟩
     by_cases e:j=k
     ·subst e
      exact D.out
     ·exact A.out j (by omega)
  ·have:k=n:=by omega
   subst this
   go_wp2
   go_ret
   have e:=UT A.out
   have el:(Bm key k).length=k:=by rw [e];simp
   refine ⟨by rw [el];rfl,q,?_⟩
   rw [el,e,Nat.sub_self,List.replicate_zero,List.append_nil,HW.out]
   have e2:(List.range k).toArray=Array.range k:=by simp
   rw [e2]
   exact (putRow_self enc (Sort.ahead w q) blk off _ (holds_ahead enc w q blk off _ HH.out)).symm
set_option maxRecDepth 1000000 in
theorem Rt (p:Option Addr) (n cap:Nat) (fv:Value) (w:World) (h:n<2):Calls Tryz.prog 223 #[.slice p n cap,fv] w fun e w'=>e=.returned (.slice p n cap)/\w'=w:=by
 have hn:(n:Int)<2:=by omega
 go_enter Tryz.func223,Tryz.ntmps223
 go_wp2
 go_ret
 exact ⟨rfl,rfl⟩
end Go.V.W
namespace Go.V.W
open Go.RowKit Go.Proofs Go.Lib
open Go.Sort (grow putRow mapBlock putCells onCells)
def CE (xss:List (List Int)) (j:Nat):List Int:=xss.getD j []
def Hd (xss:List (List Int)):List (List Int):=(Bm (CE xss) xss.length).map (CE xss)
def Fo (d:List (List Int)×(Unit×Unit)×Unit):Option (List (List Int)×List (List Int)×Unit):=if DV d.1=true then some (Hd d.1,d.1,()) else none
theorem Yx {xss:List (List Int)} (h:xss.length<2):Hd xss=xss:=by
 match xss,h with
 | [],_=>rfl
 | [x],_=>rfl
theorem Abc (key:Nat->List Int) (n:Nat):(Bm key n).Pairwise (· ≠ ·):=by
 unfold Bm
 exact List.Pairwise.filter _ (List.Pairwise.imp (fun h=>by omega) List.pairwise_lt_range)
open Classical in
def Wv (l:List Nat) (j:Nat):Option Nat:=if h:∃i,∃hi:i<l.length,l[i]=j then some h.choose else none
theorem Aec {l:List Nat} (hp:l.Pairwise (· ≠ ·)) {i:Nat} (hi:i<l.length):Wv l l[i]=some i:=by
 have h:∃k,∃hk:k<l.length,l[k]=l[i]:=⟨i,hi,rfl⟩
 unfold Wv
 rw [dif_pos h]
 obtain ⟨h1,h2⟩:=h.choose_spec
 congr 1
 rw [List.pairwise_iff_getElem] at hp
 rcases Nat.lt_trichotomy h.choose i with h' | h' | h'
 ·exact absurd h2 (hp _ _ h1 hi h')
 ·exact h'
 ·exact absurd h2.symm (hp _ _ hi h1 h')
def XD (l:List Nat):Nat×Ak->Option Lab
 | (0,[])=>some (.res [.l])
 | (0,[.i j])=>(Wv l j).map fun i=>.res [.l,.i i]
 | (0,_)=>none
 | (i,q)=>some (.io i q)
theorem Xm {P:Program} {f g:FuncId} (he:∀(args:Array Value) (w:World),(callFunc f args).run P w=.ok (.enter f args) w)
  (hc:∀(w:World) (v1 v2:Value) (xs ys:List Int),Hdr w v1 xs->Hdr w v2 ys->xs.length<=lim->ys.length<=lim->Calls P g #[v1,v2] w fun e w'=>e=.returned (.bool (decide (xs=ys))) /\ ∃q,w'=w.drewN q)
  (h:∀(enc:Nat->Value) (key:Nat->List Int) (blk off cap n:Nat) (w:World),Aside (∀i,∃a l c,enc i=.slice a l c)->Aside (enc n=.slice none 0 0)->Go.Sort.Holds enc w blk off (Array.range n)->n<=1099511627776->n<=cap->2<=n ->
   Aside (∀(q:Nat) (dk:Array Nat),dk.size=n -> ∀i j,i<n->j<n->Calls P g #[enc i,enc j] (putRow enc (Go.Sort.ahead w q) blk off dk) fun e w'=>e=.returned (.bool (decide (key i=key j))) /\ ∃q',w'=(putRow enc (Go.Sort.ahead w q) blk off dk).drewN q') ->
   Calls P f #[.slice (some ⟨blk,off,none⟩) n cap,.func (.func g) #[] #[]] w fun e w'=>e=.returned (.slice (some ⟨blk,off,none⟩) (Bm key n).length cap) /\ ∃q,w'=putRow enc (Go.Sort.ahead w q) blk off (Bm key n++List.replicate (n-(Bm key n).length) n).toArray)
  (h0:∀(p:Option Addr) (n cap:Nat) (fv:Value) (w:World),n<2->Calls P f #[.slice p n cap,fv] w fun e w'=>e=.returned (.slice p n cap)/\w'=w) :
  A3 P f (⟨[(kSS,true),(.clo g .unit .unit,false)],[kSS],true,Fo⟩,{ gone:=[0],deep:=[] }):=by
 intro w ψ U vs d out hargs hU hψ hgl ho
 obtain ⟨xss,fv,u⟩:=d
 have ho:Fo (xss,fv,u)=some out:=ho
 unfold Fo at ho
 split at ho
 case isFalse=>cases ho
 rename_i hl
 have hl:(okL xss&&xss.all okL)=true:=hl
 simp only [AGc] at hl
 obtain ⟨hl,hal⟩:=hl
 have hl:xss.length<=lim:=of_decide_eq_true hl
 have hal:∀x∈xss,x.length<=lim:=fun x hx=>of_decide_eq_true (List.all_eq_true.1 hal x hx)
 obtain rfl:=AGg ho
 obtain ⟨c1,r1,rfl,k2,c2,r2,rfl,k3,k5⟩:=hargs
 have k5:r2=[]:=k5
 subst k5
 have hfv:Ao (.clo g .unit .unit) c2=.func (.func g) #[] #[]:=by
  obtain ⟨a1,a2,e,_⟩:=(show Rep w _ (.clo g .unit .unit) [] c2 fv from k3)
  rw [e]
  rfl
 rw [hfv]
 have k2:Rep w (fun q b=>ψ b=some (0,q)) kSS [] c1 xss:=k2
 have k2':=k2
 rw [Rep] at k2
 by_cases hsm:xss.length<2
 ·-- nothing to cut
  obtain ⟨p,cap,e⟩:∃p cap,c1=[.slice p xss.length cap]:=by
   rcases k2 with ⟨⟨a,e⟩,hz⟩ | ⟨b,off,cap,e,_⟩
   ·have hz:xss=[]:=hz
    rw [hz]
    exact ⟨a,0,e⟩
   ·exact ⟨_,cap,e⟩
  unfold BV
  rw [e,show (Ao kSS [Value.slice p xss.length cap]::[Value.func (.func g) #[] #[]]).toArray = #[.slice p xss.length cap,.func (.func g) #[] #[]] from rfl,he]
  refine Calls.mono (h0 p xss.length cap _ w hsm) fun v w' hh => ?_
  obtain ⟨rfl,rfl⟩:=hh
  refine ⟨fun b=>match ψ b with | some (0,q)=>some (.res (.l::q)) | some (i,q)=>some (.io i q) | none=>none,⟨rfl,rfl,rfl,AGf _,fun _ _ _=>rfl,fun b z hz => ?_,⟨[.slice p xss.length cap],rfl,?_⟩,⟨fun h=>(by cases h),trivial⟩,fun _ _ k hk=>(by cases hk)⟩⟩
  ·cases hb:ψ b with
   | none=>rw [hb] at hz;cases hz
   | some y=>exact ⟨.inr (by simp),hψ b y hb⟩
  ·show Rep _ _ (.pair kSS .unit) [] [.slice p xss.length cap] (Hd xss,())
   rw [Yx hsm]
   refine ⟨?_,rfl⟩
   show Rep _ _ kSS [.l] [.slice p xss.length cap] xss
   rw [e] at k2
   rw [Rep]
   rcases k2 with hz | ⟨b,off,cap',e',kc,kS,kb,ke⟩
   ·exact .inl hz
   ·refine .inr ⟨b,off,cap',e',kc,?_,kb,fun i hi => ?_⟩
    ·show (match ψ b with | some (0,q)=>some (Lab.res (.l::q)) | some (i,q)=>some (.io i q) | none=>none)=some (.res [.l])
     rw [kS]
     rfl
    ·have hj:=ke i hi
     obtain ⟨v,hv⟩:∃v,Al w' b (off+i*(Kd.slice (.int .i64)).size) (Kd.slice (.int .i64)).size=[v]:=by
      have:=hj.length
      match hcl:Al w' b (off+i*(Kd.slice (.int .i64)).size) (Kd.slice (.int .i64)).size,this with
      | [v],_=>exact ⟨v,rfl⟩
     rw [hv] at hj |-
     refine S5 hj fun b' hb'=>⟨rfl,?_⟩
     show (match ψ b' with | some (0,q)=>some (Lab.res (.l::q)) | some (i,q)=>some (.io i q) | none=>none)=some (.res ([.l]++[.i i]))
     have hb':ψ b'=some (0,[.i i]):=hb'
     rw [hb']
     rfl
 ·rcases k2 with ⟨_,hz⟩ | ⟨b,off,cap,e,kc,kS,kb,ke⟩
  ·have hz:xss=[]:=hz
   rw [hz] at hsm
   exact absurd (show [].length<2 by simp) hsm
  have kS:ψ b=some (0,[]):=kS
  obtain ⟨cs,T,fr,hrow,hthaw⟩:=hψ b _ kS
  obtain ⟨cs2,T2,fr2,hrow2,hfit⟩:=kb
  rw [hrow] at hrow2
  injection hrow2 with hrow2
  injection hrow2 with e1 e2 e3
  subst e1 e2 e3
  simp only [Kd.size,Nat.mul_one] at hfit
  obtain ⟨n,hn⟩:∃n,xss.length=n:=⟨_,rfl⟩
  rw [hn] at kc hsm
  have hlt:∀j,j<n->off+j<cs.size:=fun j hj=>by omega
  have hel:∀j (hj:j<n),Rep w (fun q b=>ψ b=some (0,q)) (.slice (.int .i64)) [.i j] [cs[off+j]'(hlt j hj)] (CE xss j):=fun j hj=>by
   have hj':j<xss.length:=by omega
   have:=ke j hj'
   simp only [Kd.size,Nat.mul_one,List.nil_append] at this
   unfold Al at this
   rw [hrow] at this
   have e:(cs.toList.drop (off+j)).take 1=[cs[off+j]'(hlt j hj)]:=by
    rw [AGj (by simpa using hlt j hj),List.take_succ_cons,List.take_zero,Array.getElem_toList]
   simp only at this
   rw [e] at this
   have e2:CE xss j=xss.get ⟨j,hj'⟩:=by simp [CE,AGm,hj']
   rw [e2]
   exact this
  have hb:=(Array.getElem?_eq_some_iff.1 hrow).1
  let enc:Nat->Value:=fun j=>if hj:j<n then cs[off+j]'(hlt j hj) else .slice none 0 0
  have henc:∀j (hj:j<n),enc j=cs[off+j]'(hlt j hj):=fun j hj=>dif_pos hj
  have hsl:Aside (∀i,∃a l c,enc i=.slice a l c):=fun i=>by
   by_cases hi:i<n
   ·rw [henc i hi]
    have:=hel i hi
    rw [Rep] at this
    rcases this with ⟨⟨a,e⟩,_⟩ | ⟨b',o',c',e,_⟩
    ·exact ⟨_,_,_,(List.cons.inj e).1⟩
    ·exact ⟨_,_,_,(List.cons.inj e).1⟩
   ·exact ⟨none,0,0,dif_neg hi⟩
  have hneb:∀j b',ψ b'=some (0,[.i j])->b'≠b:=fun j b' h1 e=>by
   subst e
   rw [kS] at h1
   cases h1
  have hother':∀(m:Nat) (dk:Array Nat) (k:Nat),k<w.heap.size->k≠b->(putRow enc (Go.Sort.ahead w m) b off dk).heap[k]? = w.heap[k]?:=fun m dk k hk hne=>by
   rw [NF hne]
   rfl
  have hH:Go.Sort.Holds enc w b off (Array.range n):=fun j hj=>by
   have hj':j<n:=by simpa using hj
   rw [HC hj',henc j hj']
   constructor
   ·unfold World.cell?
    rw [hrow]
    simp [hlt j hj']
   ·unfold World.frozen?
    rw [hrow]
    obtain ⟨f1,f2⟩:=fr
    have:=hlt j hj'
    simp only at hthaw
    simp
    omega
  have hcmp:Aside (∀(q:Nat) (dk:Array Nat),dk.size=n -> ∀i j,i<n->j<n->Calls P g #[enc i,enc j] (putRow enc (Go.Sort.ahead w q) b off dk) fun e w'=>e=.returned (.bool (decide (CE xss i=CE xss j))) /\ ∃q',w'=(putRow enc (Go.Sort.ahead w q) b off dk).drewN q'):=fun q dk hs i j hi hj=>by
   have hh:∀z (hz:z<n),Hdr (putRow enc (Go.Sort.ahead w q) b off dk) (enc z) (CE xss z):=fun z hz=>by
    rw [henc z hz]
    exact Aqo (hel z hz) fun b' hb'=>hother' q dk b' (hψ b' _ hb').lt (hneb _ _ hb')
   have hln:∀z,z<n->(CE xss z).length<=lim:=fun z hz=>by
    have hz:z<xss.length:=by omega
    have:CE xss z=xss[z]:=by simp [CE,AGm,hz]
    rw [this]
    exact hal _ (AGk hz)
   exact hc _ _ _ _ _ (hh i hi) (hh j hj) (hln i hi) (hln j hj)
  have hcall:=h enc (CE xss) b off cap n w hsl (dif_neg (Nat.lt_irrefl n)) hH (by unfold lim at hl;omega) kc (by omega) hcmp
  unfold BV
  rw [e,hn,show (Ao kSS [Value.slice (some ⟨b,off,none⟩) n cap]::[Value.func (.func g) #[] #[]]).toArray = #[.slice (some ⟨b,off,none⟩) n cap,.func (.func g) #[] #[]] from rfl,he]
  refine Calls.mono hcall fun v w' hh => ?_
  obtain ⟨rfl,m,rfl⟩:=hh
  have hother:=hother' m (Bm (CE xss) n++List.replicate (n-(Bm (CE xss) n).length) n).toArray
  have hkl:=Zs (CE xss) n
  have hnew:(putRow enc (Go.Sort.ahead w m) b off (Bm (CE xss) n++List.replicate (n-(Bm (CE xss) n).length) n).toArray).heap[b]? = some (.cells (putCells enc off (Bm (CE xss) n++List.replicate (n-(Bm (CE xss) n).length) n).toArray cs) T fr):=TQ (w:=Go.Sort.ahead w m) hrow
  generalize hD:(Bm (CE xss) n++List.replicate (n-(Bm (CE xss) n).length) n).toArray=D at hother hnew
  have hDs:D.size=n:=by rw [<- hD];simp;omega
  have hps:(putCells enc off D cs).size=cs.size:=by simp [putCells]
  have hsz:(putRow enc (Go.Sort.ahead w m) b off D).heap.size=w.heap.size:=by simp [putRow,mapBlock]
  refine ⟨fun b=>match ψ b with | some z=>XD (Bm (CE xss) n) z | none=>none,⟨rfl,rfl,rfl,by rw [hsz];exact AGf _,fun k hk hn => ?_,fun k z hz => ?_,⟨[.slice (some ⟨b,off,none⟩) (Bm (CE xss) n).length cap],rfl,?_⟩,⟨fun h=>(by cases h),trivial⟩,fun _ _ k hk=>(by cases hk)⟩⟩
  ·exact hother k hk (fun e=>by subst e;rw [kS] at hn;cases hn)
  ·cases hk:ψ k with
   | none=>rw [hk] at hz;cases hz
   | some y=>
    refine ⟨.inr (by simp),?_⟩
    by_cases e:k=b
    ·subst e
     exact ⟨_,T,fr,hnew,hthaw.imp (fun h=>h) fun h=>by rw [hps];exact h⟩
    ·exact (hψ k y hk).same (hother k (hψ k y hk).lt e)
  ·show Rep _ _ (.pair kSS .unit) [] [.slice (some ⟨b,off,none⟩) (Bm (CE xss) n).length cap] (Hd xss,())
   refine ⟨?_,rfl⟩
   show Rep _ _ kSS [.l] [.slice (some ⟨b,off,none⟩) (Bm (CE xss) n).length cap] (Hd xss)
   have hlen:(Hd xss).length=(Bm (CE xss) n).length:=by unfold Hd;rw [List.length_map,hn]
   rw [Rep]
   refine .inr ⟨b,off,cap,by rw [hlen],by rw [hlen];omega,?_,⟨_,T,fr,hnew,?_⟩,fun i hi => ?_⟩
   ·show (match ψ b with | some z=>XD (Bm (CE xss) n) z | none=>none)=some (.res [.l])
    rw [kS]
    rfl
   ·simp only [Kd.size,Nat.mul_one]
    rw [hps]
    exact hfit
   ·have hi1:i<(Bm (CE xss) n).length:=by rw [<- hlen];exact hi
    have hjn:(Bm (CE xss) n)[i]<n:=by
     have:=List.mem_filter.1 (AGk hi1)
     exact List.mem_range.1 this.1
    have hDi:D[i]! = (Bm (CE xss) n)[i]:=by
     rw [<- hD,getElem!_pos _ i (by simp;omega)]
     simp [List.getElem_append,hi1]
    have ecell:Al (putRow enc (Go.Sort.ahead w m) b off D) b (off+i*(Kd.slice (.int .i64)).size) (Kd.slice (.int .i64)).size=[enc (Bm (CE xss) n)[i]]:=by
     unfold Al
     rw [hnew]
     simp only [Kd.size,Nat.mul_one]
     have hlt2:off+i<(putCells enc off D cs).toList.length:=by rw [Array.length_toList,hps];exact hlt i (by omega)
     rw [AGj hlt2,List.take_succ_cons,List.take_zero]
     congr 1
     simp only [putCells,Array.getElem_toList,Array.getElem_mapIdx]
     rw [if_pos ⟨by omega,by omega⟩,show off+i-off=i by omega,hDi]
    have edata:(Hd xss).get ⟨i,hi⟩=CE xss (Bm (CE xss) n)[i]:=by
     have:(Hd xss)[i]=CE xss (Bm (CE xss) n)[i]:=by
      subst hn
      simp [Hd]
     exact this
    rw [ecell,edata,henc _ hjn]
    refine S5 (hel _ hjn) fun b' hb'=>⟨hother b' (hψ b' _ hb').lt (hneb _ _ hb'),?_⟩
    show (match ψ b' with | some z=>XD (Bm (CE xss) n) z | none=>none)=some (.res ([.l]++[.i i]))
    have hb':ψ b'=some (0,[.i (Bm (CE xss) n)[i]]):=hb'
    rw [hb']
    show (Wv (Bm (CE xss) n) (Bm (CE xss) n)[i]).map (fun i=>Lab.res [.l,.i i])=_
    rw [Aec (Abc _ _) hi1]
    rfl
end Go.V.W
namespace Go.V.W
def ltL (a b:List Int):Prop:=B6 a b<0
theorem U0 {a b c:List Int} (h1:ltL a b) (h2:ltL b c):ltL a c:=by
 unfold ltL at h1 h2 |-
 have h3:=RZ (Int.le_of_lt h1) (Int.le_of_lt h2)
 rcases Int.lt_or_eq_of_le h3 with h | h
 ·exact h
 ·have e:=WK h
  rw [e,EG b c] at h1
  omega
theorem Awk (a:List Int):¬ltL a a:=by
 unfold ltL
 rw [Ln]
 omega
theorem YS {xss:List (List Int)} {j:Nat} (h:j<xss.length):CE xss j=xss[j]:=by simp [CE,AGm,h]
theorem Y3 {xss:List (List Int)} (y:List Int):y∈Hd xss↔y∈xss:=by
 unfold Hd Bm
 rw [List.mem_map]
 constructor
 ·rintro ⟨i,hi,rfl⟩
  have:=List.mem_range.1 (List.mem_filter.1 hi).1
  rw [YS this]
  exact AGk this
 ·intro hy
  obtain ⟨i,hi,rfl⟩:=List.getElem_of_mem hy
  have key:∀i,i<xss.length -> ∃j,j∈(List.range xss.length).filter (kpB (CE xss))/\CE xss j=CE xss i:=by
   intro i
   induction i with
   | zero=>
    intro hi
    exact ⟨0,List.mem_filter.2 ⟨List.mem_range.2 hi,rfl⟩,rfl⟩
   | succ i ih=>
    intro hi
    cases hk:kpB (CE xss) (i+1) with
    | true=>exact ⟨i+1,List.mem_filter.2 ⟨List.mem_range.2 hi,hk⟩,rfl⟩
    | false=>
     obtain ⟨j,hj1,hj2⟩:=ih (by omega)
     refine ⟨j,hj1,hj2.trans ?_⟩
     unfold kpB at hk
     simp only [Nat.add_sub_cancel,Bool.or_eq_false_iff,Bool.not_eq_false',decide_eq_true_eq] at hk
     exact hk.2.symm
  obtain ⟨j,hj1,hj2⟩:=key i hi
  exact ⟨j,hj1,by rw [hj2,YS hi]⟩
def chL (ball:Int->List Int):List Int->List (List Int)->List (List Int)
 | [],now=>now
 | c::cs,now=>chL ball cs (now.flatMap fun l=>(ball c).map fun x=>l++[x])
def Ec (ball:Int->List Int) (cops:List Int):List (List Int):=Hd (Iw ((chL ball cops [[]]).map CX))
theorem Akd {b1 b2:Int->List Int}:∀{cs:List Int} {now:List (List Int)},(∀c∈cs,b1 c=b2 c)->chL b1 cs now=chL b2 cs now:=by
 intro cs
 induction cs with
 | nil=>intro now _;rfl
 | cons c cs ih=>
  intro now h
  simp only [chL,h c (by simp)]
  exact ih fun c hc=>h c (by simp [hc])
theorem YF {b1 b2:Int->List Int} {cs:List Int} (h:∀c∈cs,b1 c=b2 c):Ec b1 cs=Ec b2 cs:=by
 unfold Ec
 rw [Akd h]
def CW {α β:Type} (F:Nat->α->Option β) (P:α->β->Prop) (d:α):Option β:=
 open Classical in if h:∃r,P d r /\ ∃N,F N d=some r then some h.choose else none
theorem Kz {α β:Type} {F:Nat->α->Option β} {P:α->β->Prop} (d:α) (r:β) (h:CW F P d=some r):∃N,F N d=some r:=by
 unfold CW at h
 split at h
 ·rename_i hh
  have h:=AGg h
  subst h
  exact hh.choose_spec.2
 ·cases h
theorem Atn {α β:Type} {F:Nat->α->Option β} {P:α->β->Prop} {d:α} (h:∃N r,F N d=some r/\P d r):∃r,CW F P d=some r/\P d r:=by
 obtain ⟨N,r,h1,h2⟩:=h
 have hh:∃r,P d r /\ ∃N,F N d=some r:=⟨r,h2,N,h1⟩
 unfold CW
 rw [dif_pos hh]
 exact ⟨_,rfl,hh.choose_spec.1⟩
def Ok {α:Type} (o:Option α) (Q:α->Prop):Prop := ∃r,o=some r/\Q r
theorem Ok.bind {α β:Type} {o:Option α} {f:α->Option β} {Q:α->Prop} {R:β->Prop} (h:Ok o Q) (hf:∀r,Q r->Ok (f r) R):Ok (o.bind f) R:=by
 obtain ⟨r,h1,h2⟩:=h
 obtain ⟨x,h3,h4⟩:=hf r h2
 exact ⟨x,by rw [h1];exact h3,h4⟩
theorem Ok.some {α:Type} {r:α} {Q:α->Prop} (h:Q r):Ok (some r) Q:=⟨r,rfl,h⟩
theorem Ok.ite {α:Type} {c:Bool} {a b:Option α} {Q:α->Prop} (ha:c=true->Ok a Q) (hb:c=false->Ok b Q):Ok (if c=true then a else b) Q:=by
 cases c with
 | true=>exact ha rfl
 | false=>exact hb rfl
theorem Ok.pos {α:Type} {c:Bool} {a b:Option α} {Q:α->Prop} (hc:c=true) (ha:Ok a Q):Ok (if c=true then a else b) Q:=by rw [if_pos hc];exact ha
theorem Ok.mono {α:Type} {o:Option α} {Q R:α->Prop} (h:Ok o Q) (hR:∀r,Q r->R r):Ok o R:=by
 obtain ⟨r,h1,h2⟩:=h
 exact ⟨r,h1,hR r h2⟩
theorem Ok.pick {α β:Type} {F:Nat->α->Option β} {P:α->β->Prop} {d:α} (N:Nat) (h:Ok (F N d) (P d)):Ok (CW F P d) (P d):=by
 obtain ⟨r,h1,h2⟩:=h
 exact Atn ⟨N,r,h1,h2⟩
abbrev Cur:=List Int×Int×Int×Unit
def JC (c:Cur):Prop:=(∀x∈c.1,0<=x/\x<=255)/\0<=c.2.1
def Adv (k:Int) (c c':Cur):Prop:=JC c'/\c'.2.1<=c.2.1+k
theorem Adv.trans {k m:Int} {c d e:Cur} (h:Adv k c d) (h':Adv m d e):Adv (k+m) c e:=⟨h'.1,by have:=h.2;have:=h'.2;omega⟩
theorem Adv.le {k m:Int} {c d:Cur} (h:Adv k c d) (hk:k<=m):Adv m c d:=⟨h.1,by have:=h.2;omega⟩
def Ge:Int:=1099511627776
def ndB:List Int->Bool
 | []=>true
 | [_]=>true
 | a::b::l=>decide (a<=b)&&ndB (b::l)
def Ns (n:Int) (l:List Int):Bool:=l.all (inB 0 (n-1))&&ndB l
def Qy (n:Int) (l:List Int):Bool:=decide (l.length<=3)&&l.all (inB 0 (n-1))
def Fi (d:Nt×List Int×Unit):Option (List (List Int)×Unit):=if (Eo d.1.1&&Qy (d.1.1.length:Int) d.2.1)=true then some (Ec (AH d.1.1) d.2.1,()) else none
def FT (S:List Int) (y:Int):Bool:=S.any fun z=>z==y
def Is (d:Int×Int×Unit):Option (List Int×Unit):=if (inB 0 8 d.1&&inB 0 255 d.2.1)=true then some (BE (fun y=>d.2.1.toNat.testBit y) d.1.toNat 0,()) else none
def Agg (e:E):List E->List E
 | []=>[e]
 | a::l=>if Ch a e=true then a::Agg e l else e::a::l
def Hf (d:List E×E×Unit):Option (List E×Unit):=if decide (d.1.length<=1000)=true then some (Agg d.2.1 d.1,()) else none
def W0:Wk:=((0,[],()),0,0,[],0,())
def Nb (a n:Nat):List Int:=(List.range' a (n-a)).map fun (i:Nat)=>(i:Int)
def AG (n:Nat):Nat->List (List Int)
 | 0=>[[]]
 | k+1=>(AG n k).flatMap fun l=>(Nb (l.getLastD 0).toNat n).map fun x=>l++[x]
def E9 (d:Int×Int×Unit):Option (List (List Int)×Unit):=if (inB 0 8 d.1&&inB 0 3 d.2.1)=true then some (AG d.1.toNat d.2.1.toNat,()) else none
def Vy:List (List Int)->Bool
 | []=>true
 | [_]=>true
 | a::b::l=>decide (B6 a b<0)&&Vy (b::l)
def AC1 (cf:List (List Int)) (c:List Int):Bool:=cf.any fun y=>decide (y=c)
def G3 (cf:List (List Int)) (c:List Int):Int:=Qt (Gs (fun y=>decide (y=c)) cf 0)
def Z4 (d:List (List Int)×List Int×(Unit×Unit)×Unit):Option (Int×Bool×Unit):=if (decide (d.1.length<=1000)&&DV d.1&&okL d.2.1&&Vy d.1&&AC1 d.1 d.2.1)=true then some (G3 d.1 d.2.1,true,()) else none
abbrev Cg:=Nt×List (List Int)×List (List Int)×List (List Int)×Unit
def C9 (ball:Int->List Int) (cf:List (List Int)):List (List Int):=cf.map fun c=>(Ec ball c).map (G3 cf)
def Fk (d:Nt×Int×Unit):Option (Cg×Unit):=if (Eo d.1.1&&inB 0 3 d.2.1)=true then some ((d.1,AG d.1.1.length d.2.1.toNat,C9 (AH d.1.1) (AG d.1.1.length d.2.1.toNat),[],()),()) else none
def Cd (cf:List (List Int)) (ball:Int->List Int) (T:Tab) (d x:Int):Int:=if FT (cf.getD d.toNat []) x=true then 0 else AW (AS T d) (ball x) 0
def ER (m n:Nat) (f:Nat->Nat->Int):Tab:=(List.range m).map fun c=>(List.range n).map fun x=>f c x
def Ib (cf mv:List (List Int)) (ball:Int->List Int) (T:Tab) (c x:Nat):Bool:=decide (AS T (c:Int) (x:Int)<0)&&(mv.getD c []).any fun d=>decide (0<=Cd cf ball T d (x:Int))
def J0 (cf mv:List (List Int)) (ball:Int->List Int) (n:Nat) (t:Int) (T:Tab):Tab:=ER cf.length n fun c x=>if Ib cf mv ball T c x=true then t else AS T (c:Int) (x:Int)
def Rq (cf mv:List (List Int)) (ball:Int->List Int) (n:Nat) (T:Tab):Bool:=(List.range cf.length).any fun c=>(List.range n).any fun x=>Ib cf mv ball T c x
def JX (cf mv:List (List Int)) (ball:Int->List Int) (n:Nat):Nat->Int->Tab->Tab
 | 0,_,T=>T
 | k+1,t,T=>if Rq cf mv ball n T=true then JX cf mv ball n k (t+1) (J0 cf mv ball n t T) else T
def Pq (cf:List (List Int)) (n:Nat):Tab:=ER cf.length n fun c x=>if FT (cf.getD c []) (x:Int)=true then 0 else -1
def Kk (cf mv:List (List Int)) (ball:Int->List Int) (n:Nat):Tab:=JX cf mv ball n 1000 1 (Pq cf n)
def gmB (n:Nat) (cf mv:List (List Int)):Bool:=decide (cf.length<=120)&&decide (mv.length=cf.length)&&cf.all (fun c=>decide (c.length<=3)&&c.all (inB 0 ((n:Int)-1)))&&mv.all (fun l=>decide (l.length<=1000)&&l.all (inB 0 ((cf.length:Int)-1)))
def rcB (m n:Nat) (T:Tab):Bool:=decide (T.length=m)&&T.all fun row=>decide (row.length=n)
def cgB (c:Cg):Bool:=Eo c.1.1&&decide (1<=c.1.1.length)&&gmB c.1.1.length c.2.1 c.2.2.1&&rcB c.2.1.length c.1.1.length c.2.2.2.1
def Ie (d:List Int×(Unit×Cg×Int×Unit)×Unit):Option (Int×Unit):=if (cgB d.2.1.2.1&&inB 0 ((d.2.1.2.1.1.1.length:Int)-1) d.2.1.2.2.1&&decide (d.1.length<=1000)&&d.1.all (inB 0 ((d.2.1.2.1.2.1.length:Int)-1)))=true then some (Qt (Gs (fun b=>decide (0<=Cd d.2.1.2.1.2.1 (AH d.2.1.2.1.1.1) d.2.1.2.1.2.2.2.1 b d.2.1.2.2.1)) d.1 0),()) else none
def Gz (d:Nt×Int×Unit):Option (Cg×Unit):=if (Eo d.1.1&&decide (1<=d.1.1.length)&&inB 0 3 d.2.1)=true then some ((d.1,AG d.1.1.length d.2.1.toNat,C9 (AH d.1.1) (AG d.1.1.length d.2.1.toNat),Kk (AG d.1.1.length d.2.1.toNat) (C9 (AH d.1.1) (AG d.1.1.length d.2.1.toNat)) (AH d.1.1) d.1.1.length,()),()) else none
def cfG (g:Gr) (k:Nat):List (List Int):=AG g.1.toNat k
def mvG (g:Gr) (k:Nat):List (List Int):=C9 (Bx g.1.toNat g.2.1) (cfG g k)
def tmG (g:Gr) (k:Nat):Tab:=Kk (cfG g k) (mvG g k) (Bx g.1.toNat g.2.1) g.1.toNat
def Ka (g:Gr) (k:Int):Bool:=BI g&&decide (g.1>0)&&inB 1 3 k
def Ij (after:Int->Int):List Int->Int->Int->Int
 | [],b,_=>b
 | d::ds,b,l=>if 0<=after d/\(b<0\/after d<l) then Ij after ds d (after d) else Ij after ds b l
def Acw (row:List Int):Int:=AW (fun z=>z) row 0
def VZ:List (List Int)->Int->Int->Int->Int×Int
 | [],_,b,l=>(b,l)
 | r::rs,i,b,l=>if 0<=Acw r/\(b<0\/Acw r<l) then VZ rs (i+1) i (Acw r) else VZ rs (i+1) b l
def NH (d:List Int×List Int×Unit):Option (Bool×Unit):=if okL d.1=true then some (decide (d.1=d.2.1),()) else none
def FJ (d:List (List Int)×List (List Int)×Unit):Option (Bool×Unit):=if DV d.1=true then some (decide (d.1=d.2.1),()) else none
def ZL (d:List Int×Unit):Option (Bool×Unit):=if (d.1.all (inB 0 255)&&decide (d.1.length<=maxLen))=true then some (true,()) else none
def Ev (d:Int×Unit) (r:Gr×Unit):Prop:=r.1.2.1.length<=100
def KM (d:Cur×Int×Unit) (r:Gr×Cur×Unit):Prop:=Adv 300 d.1 r.2.1/\r.1.2.1.length<=200
abbrev St:=Int×List Int×Int×Unit
def G8 (d:Cur×Unit) (r:Tt×Cur×Unit):Prop:=Adv 3000 d.1 r.2.1/\r.1.1.2.1.length<=200/\r.1.2.2.1.length<=300 /\ ∀l∈r.1.2.2.1,l.length<=10
open Go.Proofs
def Av8 (g:Gr):Tab:=EX g.1.toNat (Bx g.1.toNat g.2.1)
def AAo (o:Int×Int):Int×Int×Bool×Unit:=if o.1<0 then (0,0,false,()) else (o.1,o.2,true,())
def Uj (g:Gr):Int×Int×Bool×Unit:=if BI g=true then AAo (VZ (Av8 g) 0 (-1) 0) else (0,0,false,())
end Go.V.W
end
