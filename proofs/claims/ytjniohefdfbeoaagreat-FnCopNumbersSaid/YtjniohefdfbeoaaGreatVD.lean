/- What the law FnCopNumbers leans on, part 4: an interpreter of the model as plain data, its soundness, the functions as it tells them, and their laws. -/
import Derived.Shelf.SlSortCmp.Kit1
import Derived.WalkKit
import Derived.LoopN
import Derived.Test.YtjniohefdfbeoaaGreatProg
import Derived.Shelf.RegionOpenPlain
import Derived.Deep.LoopGhost
import Derived.Deep.Draws
import Derived.Lib.Walk
import Derived.Sort.WalkB12
import Derived.Shelf.Lays
import Derived.Sort.Row
import Derived.Lib.SliceRun
import Derived.Lib.SlicesS
import Derived.Lib.SlicesCompact
import Derived.Test.YtjniohefdfbeoaaGreatVC
set_option linter.unusedVariables false
set_option linter.unusedSimpArgs false
set_option maxRecDepth 100000
namespace Go.V.W
open Go.RowKit Go.Proofs
open Go.Sort (grow putRow mapBlock putCells onCells SWO PermIn SortedIn)
open Go.Lib
theorem cmpL_self:∀l:List Int,cmpL l l=0:=by
 intro l
 induction l with
 | nil=>rfl
 | cons a l ih=>simp [cmpL,ih]
theorem cmpL_swap:∀l m:List Int,cmpL m l = - cmpL l m:=by
 intro l
 induction l with
 | nil=>intro m;cases m<;>rfl
 | cons a l ih=>
  intro m
  cases m with
  | nil=>rfl
  | cons b m=>
   simp only [cmpL]
   by_cases h:a<b
   ·have:¬b<a:=by omega
    simp [h,this]
   ·by_cases h2:b<a
    ·simp [h,h2]
    ·simp [h,h2,ih m]
theorem cmpL_eq:∀{l m:List Int},cmpL l m=0->l=m:=by
 intro l
 induction l with
 | nil=>intro m h;cases m with
  | nil=>rfl
  | cons b m=>simp [cmpL] at h
 | cons a l ih=>
  intro m h
  cases m with
  | nil=>simp [cmpL] at h
  | cons b m=>
   simp only [cmpL] at h
   by_cases h1:a<b
   ·simp [h1] at h
   ·by_cases h2:b<a
    ·simp [h1,h2] at h
    ·simp only [h1,h2,if_false] at h
     have:a=b:=by omega
     rw [this,ih h]
theorem cmpL_le:∀{l m k:List Int},cmpL l m<=0->cmpL m k<=0->cmpL l k<=0:=by
 intro l
 induction l with
 | nil=>intro m k _ _;cases k<;>simp [cmpL]
 | cons a l ih=>
  intro m k h1 h2
  cases m with
  | nil=>simp [cmpL] at h1
  | cons b m=>
   cases k with
   | nil=>simp [cmpL] at h2
   | cons c k=>
    simp only [cmpL] at h1 h2 |-
    by_cases x1:a<b
    ·by_cases x2:b<c
     ·have:a<c:=by omega
      simp [this]
     ·by_cases x3:c<b
      ·simp [x2,x3] at h2
      ·have:a<c:=by omega
       simp [this]
    ·by_cases y1:b<a
     ·simp [x1,y1] at h1
     ·have e:a=b:=by omega
      subst e
      simp only [x1,if_false] at h1
      by_cases x2:a<c
      ·simp [x2]
      ·by_cases x3:c<a
       ·simp [x2,x3] at h2
       ·simp only [x2,x3,if_false] at h2 |-
        exact ih h1 h2
def leL (a b:List Int):Prop:=cmpL a b<=0
theorem leL_antisymm {a b:List Int} (h1:leL a b) (h2:leL b a):a=b:=by
 unfold leL at h1 h2
 rw [cmpL_swap a b] at h2
 exact cmpL_eq (by omega)
theorem leL_total (a b:List Int):leL a b\/leL b a:=by
 unfold leL
 rw [cmpL_swap a b]
 omega
def insS (x:List Int):List (List Int)->List (List Int)
 | []=>[x]
 | a::l=>if cmpL x a<=0 then x::a::l else a::insS x l
def sortS (l:List (List Int)):List (List Int):=l.foldr insS []
theorem insS_perm (x:List Int):∀l,(insS x l).Perm (x::l):=by
 intro l
 induction l with
 | nil=>exact .refl _
 | cons a l ih=>
  unfold insS
  split
  ·exact .refl _
  ·exact (ih.cons a).trans (List.Perm.swap x a l)
theorem sortS_perm:∀l,(sortS l).Perm l:=by
 intro l
 induction l with
 | nil=>exact .refl _
 | cons a l ih=>exact (insS_perm a (sortS l)).trans (ih.cons a)
theorem insS_sorted (x:List Int):∀l:List (List Int),l.Pairwise leL->(insS x l).Pairwise leL:=by
 intro l
 induction l with
 | nil=>intro _;simp [insS]
 | cons a l ih=>
  intro h
  rw [List.pairwise_cons] at h
  unfold insS
  split
  ·rename_i hx
   rw [List.pairwise_cons,List.pairwise_cons]
   refine ⟨fun b hb => ?_,h⟩
   rcases List.mem_cons.1 hb with rfl | hb
   ·exact hx
   ·exact cmpL_le hx (h.1 b hb)
  ·rename_i hx
   have hax:leL a x:=(leL_total a x).resolve_right hx
   rw [List.pairwise_cons]
   refine ⟨fun b hb => ?_,ih h.2⟩
   rcases List.mem_cons.1 ((insS_perm x l).mem_iff.1 hb) with rfl | hb
   ·exact hax
   ·exact h.1 b hb
theorem sortS_sorted:∀l,(sortS l).Pairwise leL:=by
 intro l
 induction l with
 | nil=>exact .nil
 | cons a l ih=>exact insS_sorted a _ ih
theorem sorted_eq:∀{l m:List (List Int)},l.Pairwise leL->m.Pairwise leL->l.Perm m->l=m:=by
 intro l
 induction l with
 | nil=>intro m _ _ h;exact (List.Perm.nil_eq h)
 | cons a l ih=>
  intro m hl hm h
  cases m with
  | nil=>exact absurd h.length_eq (by simp)
  | cons b m=>
   rw [List.pairwise_cons] at hl hm
   have e:a=b:=by
    rcases List.mem_cons.1 (h.mem_iff.1 (List.mem_cons_self (a:=a) (l:=l))) with e | ha
    ·exact e
    rcases List.mem_cons.1 (h.mem_iff.2 (List.mem_cons_self (a:=b) (l:=m))) with e | hb
    ·exact e.symm
    exact leL_antisymm (hl.1 b hb) (hm.1 a ha)
   subst e
   rw [ih hl.2 hm.2 ((List.perm_cons a).1 h)]
theorem sortS_len (l:List (List Int)):(sortS l).length=l.length:=(sortS_perm l).length_eq
theorem swo_cmp {α:Type} (f:α->List Int):SWO (ltOf fun x y=>cmpL (f x) (f y)):=by
 refine ⟨fun x => ?_,fun x y z h1 h2 => ?_,fun x y z h1 h2 => ?_⟩
 ·simp [ltOf,cmpL_self]
 ·simp only [ltOf,decide_eq_true_eq] at h1 h2 |-
  have h3:=cmpL_le (Int.le_of_lt h1) (Int.le_of_lt h2)
  rcases Int.lt_or_eq_of_le h3 with h | h
  ·exact h
  ·have e:=cmpL_eq h
   rw [e,cmpL_swap (f y) (f z)] at h1
   omega
 ·simp only [ltOf,decide_eq_false_iff_not,Int.not_lt] at h1 h2 |-
  have a1:cmpL (f y) (f x)<=0:=by rw [cmpL_swap (f x) (f y)];omega
  have a2:cmpL (f z) (f y)<=0:=by rw [cmpL_swap (f y) (f z)];omega
  have:=cmpL_le a2 a1
  rw [cmpL_swap (f x) (f z)] at this
  omega
def Hdr (w:World) (v:Value) (l:List Int):Prop:=
 (∃a,v=.slice a 0 0/\l=[]) \/ ∃b off cap,v=.slice (some ⟨b,off,none⟩) l.length cap /\ ∀j (h:j<l.length),w.cell? ⟨b,off+j,none⟩=some (.int .i64 l[j])
theorem hdr_of {w w':World} {S:OwnS} {q:Path} {v:Value} {l:List Int} (h:Rep w S (.slice (.int .i64)) q [v] l) (hk:∀b,S q b->w'.heap[b]? = w.heap[b]?):Hdr w' v l:=by
 simp only [Rep] at h
 rcases h with ⟨⟨a,h⟩,hl⟩ | ⟨b,off,cap,h,kc,kS,kb,ke⟩
 ·exact .inl ⟨a,(List.cons.inj h).1,hl⟩
 ·refine .inr ⟨b,off,cap,(List.cons.inj h).1,fun j hj => ?_⟩
  have:=ke j hj
  simp only [Rep,Kd.size,Nat.mul_one] at this
  obtain ⟨cs,T,fr,hrow,hfit⟩:=kb
  unfold cellsAt at this
  rw [hrow] at this
  have h2:((cs.toList.drop (off+j)).take 1)[0]? = some (.int .i64 l[j]):=by
   have e:(cs.toList.drop (off+j)).take 1=[.int .i64 (List.get l ⟨j,hj⟩)]:=this
   rw [e]
   rfl
  unfold World.cell?
  rw [hk b kS,hrow]
  simpa using h2
theorem rep_move {w w':World} {S S':OwnS} {q q':Path} {v:Value} {l:List Int} (h:Rep w S (.slice (.int .i64)) q [v] l) (hk:∀b,S q b->w'.heap[b]? = w.heap[b]?/\S' q' b):Rep w' S' (.slice (.int .i64)) q' [v] l:=by
 simp only [Rep] at h |-
 rcases h with h | ⟨b,off,cap,h1,h2,h3,h4,h5⟩
 ·exact .inl h
 ·obtain ⟨k1,k2⟩:=hk b h3
  refine .inr ⟨b,off,cap,h1,h2,k2,h4.same k1,fun i hi => ?_⟩
  rw [cellsAt_same k1]
  exact h5 i hi
def G_sortF (d:List (List Int)×(Unit×Unit)×Unit):Option (List (List Int)×Unit):=if okLL d.1=true then some (sortS d.1,()) else none
theorem putRowV_at {α:Type} [Inhabited α] {enc:α->Value} {w:World} {b off:Nat} {d:Array α} {cs:Array Value} {T:TypeId} {fr:Nat×Nat} (h:w.heap[b]? = some (.cells cs T fr)) :
  (putRow enc w b off d).heap[b]? = some (.cells (putCells enc off d cs) T fr):=by
 unfold putRow mapBlock
 simp only [Array.getElem?_modify,if_true,h,Option.map_some]
 rfl
theorem putRowV_else {α:Type} [Inhabited α] {enc:α->Value} {w:World} {b off k:Nat} {d:Array α} (h:k≠b):(putRow enc w b off d).heap[k]? = w.heap[k]?:=by
 unfold putRow mapBlock
 simp only [Array.getElem?_modify,if_neg (Ne.symm h)]
theorem extract_all {α:Type} (a:Array α) (k:Nat) (h:k=a.size):a.extract 0 k=a:=by
 subst h
 exact Array.extract_size
abbrev idA (n:Nat):Array (Fin (n+1)):=Array.ofFn fun i:Fin (n+1)=>i
theorem idA_size (n:Nat):(idA n).size=n+1:=by simp [idA]
theorem place_inj {n:Nat} {d':Array (Fin (n+1))} (h:PermIn 0 (idA n).size (idA n) d'):d'.size=n+1/\d'.toList.Perm (idA n).toList /\ ∀i j (hi:i<d'.size) (hj:j<d'.size),d'[i]=d'[j]->i=j:=by
 obtain ⟨h1,_,h3⟩:=h
 have hs:d'.size=n+1:=by rw [h1,idA_size]
 have hp:d'.toList.Perm (idA n).toList:=by
  rw [extract_all d' _ h1.symm,extract_all (idA n) _ rfl] at h3
  exact h3
 have hnd:d'.toList.Pairwise (· ≠ ·):=by
  refine (hp.pairwise_iff (fun h=>h.symm)).2 ?_
  rw [Array.toList_ofFn,List.pairwise_iff_getElem]
  intro i j hi hj hij e
  rw [List.getElem_ofFn,List.getElem_ofFn] at e
  have:=congrArg Fin.val e
  simp only at this
  omega
 refine ⟨hs,hp,fun i j hi hj e => ?_⟩
 rw [List.pairwise_iff_getElem] at hnd
 rcases Nat.lt_trichotomy i j with h | h | h
 ·exact absurd (show d'.toList[i]'(by simpa using hi)=d'.toList[j]'(by simpa using hj) by rw [Array.getElem_toList,Array.getElem_toList];exact e) (hnd i j _ _ h)
 ·exact h
 ·exact absurd (show d'.toList[j]'(by simpa using hj)=d'.toList[i]'(by simpa using hi) by rw [Array.getElem_toList,Array.getElem_toList];exact e.symm) (hnd j i _ _ h)
theorem sorted_data {n:Nat} (xss:List (List Int)) (hn:xss.length=n+1) {d':Array (Fin (n+1))} (hp:d'.toList.Perm (idA n).toList) (hs:d'.size=n+1)
  (ho:SortedIn (ltOf fun x y:Fin (n+1)=>cmpL (xss.getD x.val []) (xss.getD y.val [])) 0 (idA n).size d'):sortS xss=d'.toList.map fun j=>xss.getD j.val []:=by
 refine sorted_eq (sortS_sorted xss) ?_ ?_
 ·rw [List.pairwise_map,List.pairwise_iff_getElem]
  intro i j hi hj hij
  rw [Array.length_toList] at hi hj
  have:=ho i j (Nat.zero_le _) hij (by rw [idA_size];omega)
  rw [getElem!_pos d' j (by omega),getElem!_pos d' i (by omega)] at this
  simp only [ltOf,decide_eq_false_iff_not,Int.not_lt] at this
  rw [Array.getElem_toList,Array.getElem_toList]
  unfold leL
  rw [cmpL_swap (xss.getD d'[j].val []) (xss.getD d'[i].val [])]
  omega
 ·refine (sortS_perm xss).trans ?_
  have h2:((idA n).toList.map fun j=>xss.getD j.val [])=xss:=by
   rw [Array.toList_ofFn,List.map_ofFn]
   apply List.ext_getElem
   ·simp [hn]
   ·intro i h1 h2
    rw [List.getElem_ofFn]
    simp only [Function.comp,List.getD_eq_getElem?_getD,List.getElem?_eq_getElem h2,Option.getD_some]
  have h3:=(hp.map fun j=>xss.getD j.val []).symm
  rw [h2] at h3
  exact h3
end Go.V.W
namespace Go.V.W
open Go.RowKit Go.Proofs
open Go.Sort (grow putRow mapBlock putCells onCells SWO PermIn SortedIn)
open Go.Lib
abbrev kSS:Kd:=.slice (.slice (.int .i64))
theorem grow_at' {w:World} {os:Array Obj} {k:Nat} (h:k<w.heap.size):(grow w os).heap[k]? = w.heap[k]?:=by
 show (w.heap++os)[k]? = _
 exact Array.getElem?_append_left h
open Classical in
noncomputable def goesTo {n:Nat} (d':Array (Fin (n+1))) (j:Nat):Nat:=if h:∃k,∃hk:k<d'.size,(d'[k]).val=j then h.choose else j
theorem goesTo_at {n:Nat} {d':Array (Fin (n+1))} (hinj:∀i j (hi:i<d'.size) (hj:j<d'.size),d'[i]=d'[j]->i=j) {k:Nat} (hk:k<d'.size):goesTo d' (d'[k]).val=k:=by
 have h:∃k',∃hk':k'<d'.size,(d'[k']).val=(d'[k]).val:=⟨k,hk,rfl⟩
 unfold goesTo
 rw [dif_pos h]
 obtain ⟨h1,h2⟩:=h.choose_spec
 exact hinj _ _ h1 hk (Fin.ext h2)
noncomputable def sortLab {n:Nat} (d':Array (Fin (n+1))):Nat×Path->Lab
 | (0,[.i j])=>.io 0 [.i (goesTo d' j)]
 | (i,q)=>.io i q
theorem con_sortF {P:Program} {f g:FuncId} (he:∀(args:Array Value) (w:World),(callFunc f args).run P w=.ok (.enter f args) w)
  (hc:∀(w:World) (v1 v2:Value) (xs ys:List Int),Hdr w v1 xs->Hdr w v2 ys->xs.length<=lim->ys.length<=lim->Calls P g #[v1,v2] w fun e w'=>e=.returned (.int .i64 (cmpL xs ys))/\w'=w)
  (h:∀(n:Nat) (enc:Fin (n+1)->Value) (cf:Fin (n+1)->Fin (n+1)->Int) (blk off cap:Nat) (w:World),OneCell enc->SWO (ltOf cf)->CmpLays1 P g #[] enc cf blk off (idA n).size w->Go.Sort.Holds enc w blk off (idA n)->blk<w.heap.size->(idA n).size<4611686018427387904 ->
   Calls P f #[.slice (some ⟨blk,off,none⟩) (idA n).size cap,.func (.func g) #[] #[]] w fun e w'=>e=.returned (.tuple #[]) /\ ∃d' m os,PermIn 0 (idA n).size (idA n) d'/\SortedIn (ltOf cf) 0 (idA n).size d'/\w'=sortWorld enc w blk off m d' os)
  (h0:∀(p:Option Addr) (cap:Nat) (fv:Value) (w:World),Calls P f #[.slice p 0 cap,fv] w fun e w'=>e=.returned (.tuple #[])/\w'=w) :
  Contract P f ⟨[(kSS,true),(.clo g .unit .unit,false)],[],true,G_sortF⟩:=by
 intro w ψ U vs d out hargs hU hψ hgl ho
 obtain ⟨xss,fv,u⟩:=d
 have ho:G_sortF (xss,fv,u)=some out:=ho
 unfold G_sortF at ho
 split at ho
 case isFalse=>cases ho
 rename_i hl
 have hl:(okL xss&&xss.all okL)=true:=hl
 simp only [Bool.and_eq_true] at hl
 obtain ⟨hl,hal⟩:=hl
 have hl:xss.length<=lim:=of_decide_eq_true hl
 have hal:∀x∈xss,x.length<=lim:=fun x hx=>of_decide_eq_true (List.all_eq_true.1 hal x hx)
 obtain rfl:=Option.some.inj ho
 obtain ⟨c1,r1,rfl,k2,c2,r2,rfl,k3,k5⟩:=hargs
 have k5:r2=[]:=k5
 subst k5
 have hfv:mkVal (.clo g .unit .unit) c2=.func (.func g) #[] #[]:=by
  obtain ⟨a1,a2,e,_⟩:=(show Rep w _ (.clo g .unit .unit) [] c2 fv from k3)
  rw [e]
  rfl
 rw [hfv]
 have k2:Rep w (fun q b=>ψ b=some (0,q)) kSS [] c1 xss:=k2
 rw [Rep] at k2
 -- the world as it was
 have same:∀(v:Value),(∃p cap,c1=[.slice p 0 cap])->xss=[]->CallsTo P f (mkVal kSS c1::[.func (.func g) #[] #[]]).toArray w fun v w' => ∃χ,Post ⟨[(kSS,true),(.clo g .unit .unit,false)],[],true,G_sortF⟩ ψ U (mkVal kSS c1::[.func (.func g) #[] #[]]) w (sortS xss,()) χ v w':=by
  rintro _ ⟨p,cap,rfl⟩ rfl
  unfold CallsTo
  rw [show (mkVal kSS [Value.slice p 0 cap]::[Value.func (.func g) #[] #[]]).toArray = #[.slice p 0 cap,.func (.func g) #[] #[]] from rfl,he]
  refine Calls.mono (h0 p cap _ w) fun e w' hh => ?_
  obtain ⟨rfl,rfl⟩:=hh
  refine ⟨fun b=>match ψ b with | some (i,q)=>some (.io i q) | none=>none,⟨rfl,rfl,rfl,Nat.le_refl _,fun _ _ _=>rfl,fun b z hz => ?_,⟨[],trivial,rfl⟩,?_⟩⟩
  ·cases hb:ψ b with
   | none=>rw [hb] at hz;cases hz
   | some y=>exact ⟨.inr (by simp),hψ b y hb⟩
  ·refine ⟨fun _=>⟨[.slice p 0 cap],rfl,rfl,?_⟩,trivial⟩
   rw [RepL.of (show Kd.isBx kSS=false from rfl)]
   show Rep _ _ kSS [] [.slice p 0 cap] []
   rw [Rep]
   rcases k2 with ⟨⟨a,e⟩,_⟩ | ⟨b,off,cap',e,kc,kS,kb,ke⟩
   ·exact .inl ⟨⟨a,e⟩,rfl⟩
   ·refine .inr ⟨b,off,cap',e,kc,?_,kb,fun i hi=>absurd hi (by simp)⟩
    show (match ψ b with | some (i,q)=>some (Lab.io i q) | none=>none)=some (.io 0 [])
    rw [kS]
 rcases k2 with ⟨⟨a,e⟩,hz⟩ | ⟨b,off,cap,e,kc,kS,kb,ke⟩
 ·exact same undef ⟨a,0,e⟩ hz
 cases hn:xss.length with
 | zero=>
  have hz:xss=[]:=List.length_eq_zero_iff.1 hn
  rw [hn] at e
  exact same undef ⟨_,cap,e⟩ hz
 | succ n=>
  clear same
  have kS:ψ b=some (0,[]):=kS
  obtain ⟨cs,T,fr,hrow,hthaw⟩:=hψ b _ kS
  obtain ⟨cs2,T2,fr2,hrow2,hfit⟩:=kb
  rw [hrow] at hrow2
  injection hrow2 with hrow2
  injection hrow2 with e1 e2 e3
  subst e1 e2 e3
  simp only [Kd.size,Nat.mul_one] at hfit
  rw [hn] at kc
  -- the headers
  have hlt:∀j,j<n+1->off+j<cs.size:=fun j hj=>by omega
  have hel:∀j (hj:j<n+1),Rep w (fun q b=>ψ b=some (0,q)) (.slice (.int .i64)) [.i j] [cs[off+j]'(hlt j hj)] (xss.getD j []):=fun j hj=>by
   have hj':j<xss.length:=by omega
   have:=ke j hj'
   simp only [Kd.size,Nat.mul_one,List.nil_append] at this
   unfold cellsAt at this
   rw [hrow] at this
   have e:(cs.toList.drop (off+j)).take 1=[cs[off+j]'(hlt j hj)]:=by
    rw [List.drop_eq_getElem_cons (by simpa using hlt j hj),List.take_succ_cons,List.take_zero,Array.getElem_toList]
   simp only at this
   rw [e] at this
   have e2:xss.getD j []=xss.get ⟨j,hj'⟩:=by simp [List.getD_eq_getElem?_getD,hj']
   rw [e2]
   exact this
  have hb:=(Array.getElem?_eq_some_iff.1 hrow).1
  let enc:Fin (n+1)->Value:=fun j=>cs[off+j.val]'(hlt j.val j.isLt)
  have hOne:OneCell enc:=fun j=>by
   have:=hel j.val j.isLt
   rw [Rep] at this
   rcases this with ⟨⟨a,e⟩,_⟩ | ⟨b',o',c',e,_⟩
   ·rw [show enc j=.slice a 0 0 from (List.cons.inj e).1];rfl
   ·rw [show enc j=_ from (List.cons.inj e).1];rfl
  have hneb:∀j b',ψ b'=some (0,[.i j])->b'≠b:=fun j b' h1 e=>by
   subst e
   rw [kS] at h1
   cases h1
  have hother':∀(m:Nat) (dk:Array (Fin (n+1))) (os:Array Obj) (k:Nat),k<w.heap.size->k≠b->(sortWorld enc w b off m dk os).heap[k]? = w.heap[k]?:=fun m dk os k hk hne=>by
   unfold sortWorld
   have hsz:(putRow enc (Go.Sort.ahead w m) b off dk).heap.size=w.heap.size:=by simp [putRow,mapBlock]
   rw [grow_at' (by rw [hsz];exact hk),putRowV_else hne]
   rfl
  have hcmp:CmpLays1 P g #[] enc (fun x y=>cmpL (xss.getD x.val []) (xss.getD y.val [])) b off (idA n).size w:=fun m os dk hs x y=>by
   have hh:∀z:Fin (n+1),Hdr (sortWorld enc w b off m dk os) (enc z) (xss.getD z.val []):=fun z=>hdr_of (hel z.val z.isLt) fun b' hb'=>hother' m dk os b' (hψ b' _ hb').lt (hneb _ _ hb')
   have hln:∀z:Fin (n+1),(xss.getD z.val []).length<=lim:=fun z=>by
    have hz:z.val<xss.length:=by omega
    have:xss.getD z.val []=xss[z.val]:=by simp [List.getD_eq_getElem?_getD,hz]
    rw [this]
    exact hal _ (List.getElem_mem hz)
   refine Calls.mono (hc _ _ _ _ _ (hh x) (hh y) (hln x) (hln y)) fun e w' hw => ?_
   obtain ⟨rfl,rfl⟩:=hw
   refine ⟨rfl,0,#[],?_⟩
   rw [Go.Sort.grow_empty]
   rfl
  have hH:Go.Sort.Holds enc w b off (idA n):=fun j hj=>by
   have hj':j<n+1:=by rw [idA_size] at hj;exact hj
   have e:(idA n)[j]! = ⟨j,hj'⟩:=by rw [getElem!_pos (idA n) j hj];simp [idA]
   constructor
   ·unfold World.cell?
    rw [hrow,e]
    simp [enc,hlt j hj']
   ·unfold World.frozen?
    rw [hrow]
    obtain ⟨f1,f2⟩:=fr
    have:=hlt j hj'
    simp only at hthaw
    simp
    omega
  have hcall:=h n enc _ b off cap w hOne (swo_cmp fun z:Fin (n+1)=>xss.getD z.val []) hcmp hH hb (by rw [idA_size];unfold lim at hl;omega)
  unfold CallsTo
  rw [e,hn,show (mkVal kSS [Value.slice (some ⟨b,off,none⟩) (n+1) cap]::[Value.func (.func g) #[] #[]]).toArray = #[.slice (some ⟨b,off,none⟩) (n+1) cap,.func (.func g) #[] #[]] from rfl,he]
  rw [idA_size] at hcall
  refine Calls.mono hcall fun e w' hh => ?_
  obtain ⟨rfl,d',m,os,hperm,hsort,rfl⟩:=hh
  have hperm':PermIn 0 (idA n).size (idA n) d':=by rw [idA_size];exact hperm
  obtain ⟨hs,hp,hinj⟩:=place_inj hperm'
  have hdata:=sorted_data xss hn hp hs (by rw [idA_size];exact hsort)
  have hother:=hother' m d' os
  have hnew:(sortWorld enc w b off m d' os).heap[b]? = some (.cells (putCells enc off d' cs) T fr):=by
   unfold sortWorld
   have hsz:(putRow enc (Go.Sort.ahead w m) b off d').heap.size=w.heap.size:=by simp [putRow,mapBlock]
   rw [grow_at' (by rw [hsz];exact hb)]
   exact putRowV_at (w:=Go.Sort.ahead w m) hrow
  have hps:(putCells enc off d' cs).size=cs.size:=by simp [putCells]
  have hlen:(sortS xss).length=n+1:=by rw [sortS_len,hn]
  refine ⟨fun b=>match ψ b with | some z=>some (sortLab d' z) | none=>none,⟨rfl,rfl,rfl,?_,fun k hk hn => ?_,fun k z hz => ?_,⟨[],trivial,rfl⟩,?_⟩⟩
  ·show w.heap.size<=((putRow enc (Go.Sort.ahead w m) b off d').heap++os).size
   have hsz:(putRow enc (Go.Sort.ahead w m) b off d').heap.size=w.heap.size:=by simp [putRow,mapBlock]
   rw [Array.size_append,hsz]
   omega
  ·exact hother k hk (fun e=>by subst e;rw [kS] at hn;cases hn)
  ·cases hk:ψ k with
   | none=>rw [hk] at hz;cases hz
   | some y=>
    refine ⟨.inr (by simp),?_⟩
    by_cases e:k=b
    ·subst e
     exact ⟨_,T,fr,hnew,hthaw.imp (fun h=>h) fun h=>by rw [hps];exact h⟩
    ·exact (hψ k y hk).same (hother k (hψ k y hk).lt e)
  ·refine ⟨fun _=>⟨[.slice (some ⟨b,off,none⟩) (n+1) cap],rfl,rfl,?_⟩,trivial⟩
   rw [RepL.of (show Kd.isBx kSS=false from rfl)]
   show Rep _ _ kSS [] [.slice (some ⟨b,off,none⟩) (n+1) cap] (sortS xss)
   rw [Rep]
   refine .inr ⟨b,off,cap,by rw [hlen],by rw [hlen];exact kc,?_,⟨_,T,fr,hnew,?_⟩,fun i hi => ?_⟩
   ·show (match ψ b with | some z=>some (sortLab d' z) | none=>none)=some (.io 0 [])
    rw [kS]
    rfl
   ·simp only [Kd.size,Nat.mul_one]
    rw [hps]
    exact hfit
   ·have hi1:i<n+1:=by rw [<- hlen];exact hi
    have hi2:i<d'.size:=by omega
    have ecell:cellsAt (sortWorld enc w b off m d' os) b (off+i*(Kd.slice (.int .i64)).size) (Kd.slice (.int .i64)).size=[enc d'[i]]:=by
     unfold cellsAt
     rw [hnew]
     simp only [Kd.size,Nat.mul_one]
     have hlt2:off+i<(putCells enc off d' cs).toList.length:=by rw [Array.length_toList,hps];exact hlt i hi1
     rw [List.drop_eq_getElem_cons hlt2,List.take_succ_cons,List.take_zero]
     congr 1
     simp only [putCells,Array.getElem_toList,Array.getElem_mapIdx]
     rw [if_pos ⟨by omega,by omega⟩,show off+i-off=i by omega,getElem!_pos d' i hi2]
    have edata:(sortS xss).get ⟨i,hi⟩=xss.getD (d'[i]).val []:=by
     have:(sortS xss)[i]=xss.getD (d'[i]).val []:=by
      simp only [hdata,List.getElem_map,Array.getElem_toList]
     exact this
    rw [ecell,edata]
    refine rep_move (hel (d'[i]).val (d'[i]).isLt) fun b' hb'=>⟨hother b' (hψ b' _ hb').lt (hneb _ _ hb'),?_⟩
    show (match ψ b' with | some z=>some (sortLab d' z) | none=>none)=some (.io 0 ([]++[.i i]))
    have hb':ψ b'=some (0,[.i (d'[i]).val]):=hb'
    rw [hb']
    show some (Lab.io 0 [.i (goesTo d' (d'[i]).val)])=_
    rw [goesTo_at hinj hi2]
    rfl
end Go.V.W
namespace Go.V.W
open Go.Proofs Go.RowKit
def cmp1 (x y:Int):Int:=if x<y then -1 else if y<x then 1 else 0
theorem cmp1_lt {x y:Int} (h:x<y):cmp1 x y = -1:=if_pos h
theorem cmp1_gt {x y:Int} (h:¬x<y) (h2:y<x):cmp1 x y=1:=by unfold cmp1;rw [if_neg h,if_pos h2]
theorem cmp1_eq {x y:Int} (h:¬x<y) (h2:¬y<x):cmp1 x y=0:=by unfold cmp1;rw [if_neg h,if_neg h2]
set_option maxRecDepth 1000000 in
theorem cmp65 (x y:Int) (w:World):Calls Tryz.prog 128 #[.int .i64 x,.int .i64 y] w fun e w'=>e=.returned (.int .i64 (cmp1 x y))/\w'=w:=by
 go_enter Tryz.func128,Tryz.ntmps128
 go_wp2
 ·have h:x<y:=by assumption
  go_ret
  refine ⟨?_,rfl⟩
  rw [cmp1_lt h]
  rfl
 ·have h2:y<x:=by assumption
  have h:¬x<y:=by omega
  go_ret
  refine ⟨?_,rfl⟩
  rw [cmp1_gt h h2]
  rfl
 ·have h3:y<=x:=by assumption
  have h4:x<=y:=by assumption
  have h:¬x<y:=by omega
  have h2:¬y<x:=by omega
  go_ret
  refine ⟨?_,rfl⟩
  rw [cmp1_eq h h2]
  rfl
set_option maxRecDepth 1000000 in
set_option maxHeartbeats 4000000 in
theorem cmp44 (b1 o1 c1 b2 o2 c2:Nat) (xs ys:List Int) (w:World) (hx:∀j (h:j<xs.length),w.cell? ⟨b1,o1+j,none⟩=some (.int .i64 xs[j])) (hy:∀j (h:j<ys.length),w.cell? ⟨b2,o2+j,none⟩=some (.int .i64 ys[j]))
  (hl1:xs.length<=lim) (hl2:ys.length<=lim):Calls Tryz.prog 68 #[.slice (some ⟨b1,o1,none⟩) xs.length c1,.slice (some ⟨b2,o2,none⟩) ys.length c2] w fun e w'=>e=.returned (.int .i64 (cmpL xs ys))/\w'=w:=by
 have hn1:xs.length<=1099511627776:=hl1
 have hn2:ys.length<=1099511627776:=hl2
 go_enter Tryz.func68,Tryz.ntmps68
 go_wp2
 go_loop [11] (fun i => ∃k:Nat,k<=xs.length/\k<=ys.length/\i=.int .i64 k/\cmpL xs ys=cmpL (xs.drop k) (ys.drop k)) (fun i=>match i with | .int _ m=>xs.length-m.toNat | _=>0)
 case atStart=>exact ⟨0,Nat.zero_le _,Nat.zero_le _,rfl,rfl⟩
 case round=>
  obtain ⟨k,hk1,hk2,rfl,hrel⟩:=hrel
  by_cases hkx:k<xs.length
  ·by_cases hky:k<ys.length
   ·obtain ⟨x,hxe⟩:∃x,x=xs[k]:=⟨_,rfl⟩
    obtain ⟨y,hye⟩:∃y,y=ys[k]:=⟨_,rfl⟩
    have hcx:w.cell? ⟨b1,o1+k,none⟩=some (.int .i64 x):=by rw [hx k hkx,hxe]
    have hcy:w.cell? ⟨b2,o2+k,none⟩=some (.int .i64 y):=by rw [hy k hky,hye]
    have hdx:xs.drop k=x::xs.drop (k+1):=by rw [List.drop_eq_getElem_cons hkx,hxe]
    have hdy:ys.drop k=y::ys.drop (k+1):=by rw [List.drop_eq_getElem_cons hky,hye]
    have hstep:cmpL xs ys=if x<y then -1 else if y<x then 1 else cmpL (xs.drop (k+1)) (ys.drop (k+1)):=by rw [hrel,hdx,hdy];rfl
    clear hx hy hxe hye hrel hdx hdy
    go_wp2_with (go_at_call 128;refine (cmp65 _ _ _).mono ?_;rintro e w' ⟨rfl,rfl⟩)
    ·have hne:cmp1 x y≠0:=by
      have h:(cmp1 x y != 0)=true:=by assumption
      simpa using h
     have he:cmpL xs ys=cmp1 x y:=by
      rw [hstep]
      unfold cmp1 at hne |-
      by_cases c1:x<y
      ·rw [if_pos c1,if_pos c1]
      ·by_cases c2:y<x
       ·rw [if_neg c1,if_neg c1,if_pos c2,if_pos c2]
       ·rw [if_neg c1,if_neg c2] at hne
        exact absurd rfl hne
     go_ret
     refine ⟨?_,rfl⟩
     rw [he]
     rfl
    ·have hz:cmp1 x y=0:=by
      have h:(cmp1 x y != 0)=false:=by assumption
      simpa using h
     have he:cmpL xs ys=cmpL (xs.drop (k+1)) (ys.drop (k+1)):=by
      rw [hstep]
      unfold cmp1 at hz
      by_cases c1:x<y
      ·rw [if_pos c1] at hz;cases hz
      ·by_cases c2:y<x
       ·rw [if_neg c1,if_pos c2] at hz;cases hz
       ·rw [if_neg c1,if_neg c2]
     refine ⟨⟨k+1,by omega,by omega,rfl,he⟩,?_⟩
     show xs.length-((k:Int)+1).toNat<xs.length-(k:Int).toNat
     omega
   ·have hdx:xs.drop k=xs[k]::xs.drop (k+1):=List.drop_eq_getElem_cons hkx
    have hdy:ys.drop k=[]:=List.drop_of_length_le (by omega)
    have he:cmpL xs ys=1:=by rw [hrel,hdx,hdy];rfl
    have hcx:w.cell? ⟨b1,o1+k,none⟩=some (.int .i64 xs[k]):=hx k hkx
    clear hx hy hrel hdx hdy
    go_wp2
    go_ret
    refine ⟨?_,rfl⟩
    rfl
  ·have hdx:xs.drop k=[]:=List.drop_of_length_le (by omega)
   have he:cmpL xs ys=if xs.length<ys.length then -1 else 0:=by
    rw [hrel,hdx]
    by_cases h:k<ys.length
    ·rw [List.drop_eq_getElem_cons h,if_pos (by omega)]
     rfl
    ·rw [List.drop_of_length_le (by omega),if_neg (by omega)]
     rfl
   clear hx hy hrel hdx
   go_wp2
   ·have h:xs.length<ys.length:=by assumption
    go_ret
    refine ⟨?_,rfl⟩
    rfl
   ·have h:¬xs.length<ys.length:=by assumption
    go_ret
    refine ⟨?_,rfl⟩
    rfl
set_option maxRecDepth 1000000 in
set_option maxHeartbeats 4000000 in
theorem cmp44_nil1 (a1 a2:Option Addr) (c1 m c2:Nat) (w:World) (hm:m<=lim):Calls Tryz.prog 68 #[.slice a1 0 c1,.slice a2 m c2] w fun e w'=>e=.returned (.int .i64 (if 0<m then -1 else 0))/\w'=w:=by
 have hn:m<=1099511627776:=hm
 go_enter Tryz.func68,Tryz.ntmps68
 go_wp2
 go_loop [11] (fun i=>i=.int .i64 0) (fun _=>0)
 case atStart=>rfl
 case round=>
  subst hrel
  go_wp2
  ·have h:0<m:=by assumption
   go_ret
   refine ⟨?_,rfl⟩
   first | rfl | (rw [if_pos h];rfl)
  ·go_ret
   refine ⟨?_,rfl⟩
   first | rfl | (rw [if_neg (by omega)];rfl)
set_option maxRecDepth 1000000 in
set_option maxHeartbeats 4000000 in
theorem cmp44_nil2 (b1 o1 n c1:Nat) (a2:Option Addr) (c2:Nat) (x:Int) (w:World) (h0:0<n) (hn:n<=1099511627776) (hx:w.cell? ⟨b1,o1,none⟩=some (.int .i64 x)):Calls Tryz.prog 68 #[.slice (some ⟨b1,o1,none⟩) n c1,.slice a2 0 c2] w fun e w'=>e=.returned (.int .i64 1)/\w'=w:=by
 go_enter Tryz.func68,Tryz.ntmps68
 go_wp2
 go_loop [11] (fun i=>i=.int .i64 0) (fun _=>0)
 case atStart=>rfl
 case round=>
  subst hrel
  go_wp2
  all_goals (go_ret;exact ⟨rfl,rfl⟩)
theorem cmpL_nil (ys:List Int):(if 0<ys.length then (-1:Int) else 0)=cmpL [] ys:=by cases ys<;>rfl
theorem cmpH {w:World} {v1 v2:Value} {xs ys:List Int} (h1:Hdr w v1 xs) (h2:Hdr w v2 ys) (l1:xs.length<=lim) (l2:ys.length<=lim):Calls Tryz.prog 68 #[v1,v2] w fun e w'=>e=.returned (.int .i64 (cmpL xs ys))/\w'=w:=by
 rcases h1 with ⟨a1,rfl,rfl⟩ | ⟨b1,o1,c1,rfl,hx⟩
 ·rcases h2 with ⟨a2,rfl,rfl⟩ | ⟨b2,o2,c2,rfl,hy⟩
  ·exact cmp44_nil1 a1 a2 0 0 0 w (Nat.zero_le _)
  ·rw [<- cmpL_nil]
   exact cmp44_nil1 a1 (some ⟨b2,o2,none⟩) 0 ys.length c2 w l2
 ·rcases h2 with ⟨a2,rfl,rfl⟩ | ⟨b2,o2,c2,rfl,hy⟩
  ·cases xs with
   | nil=>exact cmp44_nil1 (some ⟨b1,o1,none⟩) a2 c1 0 0 w (Nat.zero_le _)
   | cons x xs=>
    have l1':(x::xs).length<=1099511627776:=l1
    exact cmp44_nil2 b1 o1 (x::xs).length c1 a2 0 x w (by simp) l1' (hx 0 (by simp))
  ·exact cmp44 b1 o1 c1 b2 o2 c2 xs ys w hx hy l1 l2
end Go.V.W
namespace Go.V.W
open Go.Proofs Go.RowKit Go.Shelf Go.Lib Go.Sort
set_option maxRecDepth 1000000 in
set_option maxHeartbeats 4000000 in
theorem eq49 (b1 o1 c1 b2 o2 c2:Nat) (xs ys:List Int) (n:Nat) (w:World) (hx:∀j (h:j<xs.length),w.cell? ⟨b1,o1+j,none⟩=some (.int .i64 xs[j])) (hy:∀j (h:j<ys.length),w.cell? ⟨b2,o2+j,none⟩=some (.int .i64 ys[j]))
  (hn:n<=1099511627776) (h1:Aside (xs.length=n)) (h2:Aside (ys.length=n)):Calls Tryz.prog 144 #[.slice (some ⟨b1,o1,none⟩) n c1,.slice (some ⟨b2,o2,none⟩) n c2] w fun e w'=>e=.returned (.bool (decide (xs=ys))) /\ ∃q,w'=w.drewN q:=by
 have mixed:Tryz.prog.follows .mixedOrders=true:=by kernel_rfl
 have HX:Aside _:=hx
 have HY:Aside _:=hy
 clear hx hy
 go_enter Tryz.func144,Tryz.ntmps144
 go_wp2
 go_loopg [13] n (fun g s13 wr => ∃k q:Nat,k<=n/\n-k<=g/\s13=.int .i64 k/\wr=w.drewN q/\Aside (decide (xs=ys)=decide (xs.drop k=ys.drop k)))
 case atStart=>exact ⟨0,0,Nat.zero_le _,by omega,rfl,rfl,rfl⟩
 case round=>
  obtain ⟨k,q,hk1,hg,rfl,rfl,hrel⟩:=hrel
  by_cases hkx:k<n
  ·have hkx':k<xs.length:=by rw [h1.out];exact hkx
   have hky':k<ys.length:=by rw [h2.out];exact hkx
   obtain ⟨x,hxe⟩:∃x,x=xs[k]:=⟨_,rfl⟩
   obtain ⟨y,hye⟩:∃y,y=ys[k]:=⟨_,rfl⟩
   have hcx:w.cell? ⟨b1,o1+k,none⟩=some (.int .i64 x):=by rw [HX.out k hkx',hxe]
   have hcy:w.cell? ⟨b2,o2+k,none⟩=some (.int .i64 y):=by rw [HY.out k hky',hye]
   have hdx:xs.drop k=x::xs.drop (k+1):=by rw [List.drop_eq_getElem_cons hkx',hxe]
   have hdy:ys.drop k=y::ys.drop (k+1):=by rw [List.drop_eq_getElem_cons hky',hye]
   have hstep:Aside (decide (xs=ys)=(decide (x=y)&&decide (xs.drop (k+1)=ys.drop (k+1)))):=by
    show _=_
    rw [hrel.out,hdx,hdy]
    rw [Bool.eq_iff_iff]
    simp
   clear hkx' hky' hxe hye hrel hdx hdy
   by_cases hxy:x=y
   ·subst hxy
    have he:Aside (decide (xs=ys)=decide (xs.drop (k+1)=ys.drop (k+1))):=by
     show _=_
     rw [hstep.out];simp
    clear hstep
    go_wp2_with fail
    go_region_o
    go_wp2
    go_roundg (n-(k+1))
    case measure=>omega
    case rel=>exact ⟨k+1,q+1,by omega,Nat.le_refl _,by go_num,rfl,he⟩
   ·have he:Aside (decide (xs=ys)=false):=by
     show _=_
     rw [hstep.out];simp [hxy]
    clear hstep
    go_wp2_with fail
    go_region_o
    go_wp2
    go_ret
    exact ⟨by rw [he.out];rfl,q+1,rfl⟩
  ·have he:Aside (decide (xs=ys)=true):=by
    show _=_
    rw [hrel.out,List.drop_of_length_le (by rw [h1.out];omega),List.drop_of_length_le (by rw [h2.out];omega)]
    simp
   clear hrel
   go_wp2
   go_ret
   exact ⟨by rw [he.out];rfl,q,rfl⟩
set_option maxRecDepth 1000000 in
theorem eq49_len (a1 a2:Option Addr) (m n c1 c2:Nat) (w:World) (h:¬(m:Int)=n) (hm:m<=1099511627776) (hn:n<=1099511627776):Calls Tryz.prog 144 #[.slice a1 m c1,.slice a2 n c2] w fun e w'=>e=.returned (.bool false) /\ ∃q,w'=w.drewN q:=by
 go_enter Tryz.func144,Tryz.ntmps144
 go_wp2
 go_ret
 exact ⟨rfl,0,rfl⟩
set_option maxRecDepth 1000000 in
theorem eq49_zero (a1 a2:Option Addr) (c1 c2:Nat) (w:World):Calls Tryz.prog 144 #[.slice a1 0 c1,.slice a2 0 c2] w fun e w'=>e=.returned (.bool true) /\ ∃q,w'=w.drewN q:=by
 go_enter Tryz.func144,Tryz.ntmps144
 go_wp2
 go_loopg [13] 0 (fun g s13 wr=>s13=.int .i64 0/\wr=w)
 case atStart=>exact ⟨rfl,rfl⟩
 case round=>
  obtain ⟨rfl,rfl⟩:=hrel
  go_wp2
  go_ret
  exact ⟨rfl,0,rfl⟩
theorem eqH {w:World} {v1 v2:Value} {xs ys:List Int} (h1:Hdr w v1 xs) (h2:Hdr w v2 ys) (l1:xs.length<=lim) (l2:ys.length<=lim):Calls Tryz.prog 144 #[v1,v2] w fun e w'=>e=.returned (.bool (decide (xs=ys))) /\ ∃q,w'=w.drewN q:=by
 have l1':xs.length<=1099511627776:=l1
 have l2':ys.length<=1099511627776:=l2
 obtain ⟨a1,c1,e1⟩:∃a c,v1=.slice a xs.length c:=by
  rcases h1 with ⟨a,rfl,rfl⟩ | ⟨b,off,cap,rfl,_⟩
  ·exact ⟨a,0,rfl⟩
  ·exact ⟨_,cap,rfl⟩
 obtain ⟨a2,c2,e2⟩:∃a c,v2=.slice a ys.length c:=by
  rcases h2 with ⟨a,rfl,rfl⟩ | ⟨b,off,cap,rfl,_⟩
  ·exact ⟨a,0,rfl⟩
  ·exact ⟨_,cap,rfl⟩
 by_cases hne:xs.length=ys.length
 ·by_cases h0:xs.length=0
  ·have hx:xs=[]:=List.length_eq_zero_iff.1 h0
   have hy:ys=[]:=List.length_eq_zero_iff.1 (by omega)
   subst hx hy
   rw [e1,e2]
   exact eq49_zero a1 a2 c1 c2 w
  ·rcases h1 with ⟨a,_,hx⟩ | ⟨b,off,cap,rfl,hx⟩
   ·rw [hx] at h0;exact absurd rfl h0
   ·rcases h2 with ⟨a,_,hy⟩ | ⟨b',off',cap',rfl,hy⟩
    ·rw [hy] at hne;exact absurd hne h0
    ·have:=eq49 b off cap b' off' cap' xs ys xs.length w hx hy l1' rfl hne.symm
     rw [hne] at this |-
     exact this
 ·rw [e1,e2]
  have:decide (xs=ys)=false:=decide_eq_false fun e=>hne (by rw [e])
  rw [this]
  exact eq49_len a1 a2 _ _ c1 c2 w (by omega) l1' l2'
end Go.V.W
namespace Go.V.W
open Go.Proofs Go.RowKit Go.Shelf Go.Lib Go.Sort
def kpB (key:Nat->List Int) (j:Nat):Bool:=j==0 || !decide (key j=key (j-1))
def keepI (key:Nat->List Int) (m:Nat):List Nat:=(List.range m).filter (kpB key)
theorem keepI_succ (key:Nat->List Int) (m:Nat):keepI key (m+1)=if kpB key m=true then keepI key m++[m] else keepI key m:=by
 unfold keepI
 rw [List.range_succ,List.filter_append]
 cases h:kpB key m<;>simp [h]
theorem keepI_all {key:Nat->List Int}:∀{m:Nat},(∀j,j<m->kpB key j=true)->keepI key m=List.range m:=by
 intro m h
 unfold keepI
 exact List.filter_eq_self.2 fun j hj=>h j (List.mem_range.1 hj)
theorem keepI_le (key:Nat->List Int) (m:Nat):(keepI key m).length<=m:=by
 have:=List.length_filter_le (kpB key) (List.range m)
 rw [List.length_range] at this
 exact this
structure CInv (key:Nat->List Int) (n m k:Nat) (dk:Array Nat):Prop where
 size:dk.size=n
 len:(keepI key m).length=k
 lt:k<m
 low:∀j,j<k->(keepI key m)[j]? = some dk[j]!
 high:∀j,k<=j->j<n->dk[j]! = j
theorem range_get {n j:Nat} (h:j<n):(Array.range n)[j]! = j:=by
 rw [getElem!_pos (Array.range n) j (by simpa using h)]
 simp
theorem CInv.start {key:Nat->List Int} {n k0:Nat} (hk:k0<n) (hall:∀j,j<k0->kpB key j=true) (hdup:kpB key k0=false):CInv key n (k0+1) k0 (Array.range n):=by
 have e:keepI key (k0+1)=List.range k0:=by rw [keepI_succ,hdup,keepI_all hall];rfl
 refine ⟨by simp,by rw [e];simp,Nat.lt_succ_self _,fun j hj => ?_,fun j _ hj=>range_get hj⟩
 rw [e,range_get (by omega)]
 simp [hj]
theorem CInv.keep {key:Nat->List Int} {n m k:Nat} {dk:Array Nat} (h:CInv key n m k dk) (hm:m<n) (hk:kpB key m=true):CInv key n (m+1) (k+1) (dk.setIfInBounds k m):=by
 have hs:=h.size
 have hl:=h.len
 have hlt:=h.lt
 have hs2:(dk.setIfInBounds k m).size=n:=by simp [hs]
 have e:keepI key (m+1)=keepI key m++[m]:=by rw [keepI_succ,hk];rfl
 refine ⟨by simp [hs],by rw [e];simp [hl],by omega,fun j hj => ?_,fun j h1 h2 => ?_⟩
 ·rw [e]
  by_cases hj2:j<k
  ·rw [List.getElem?_append_left (by omega),h.low j hj2]
   rw [getElem!_pos (dk.setIfInBounds k m) j (by omega),getElem!_pos dk j (by omega),Array.getElem_setIfInBounds (by omega),if_neg (by omega)]
  ·have:j=k:=by omega
   subst this
   rw [List.getElem?_append_right (by omega),hl,Nat.sub_self]
   rw [getElem!_pos (dk.setIfInBounds j m) j (by omega),Array.getElem_setIfInBounds (by omega),if_pos rfl]
   rfl
 ·rw [getElem!_pos (dk.setIfInBounds k m) j (by omega),Array.getElem_setIfInBounds (by omega),if_neg (by omega),<- getElem!_pos dk j (by omega)]
  exact h.high j (by omega) h2
theorem CInv.skip {key:Nat->List Int} {n m k:Nat} {dk:Array Nat} (h:CInv key n m k dk) (hk:kpB key m=false):CInv key n (m+1) k dk:=by
 have e:keepI key (m+1)=keepI key m:=by rw [keepI_succ,hk];rfl
 have:=h.lt
 exact ⟨h.size,by rw [e];exact h.len,by omega,by rw [e];exact h.low,h.high⟩
end Go.V.W
namespace Go.V.W
open Go.Proofs Go.RowKit Go.Shelf Go.Lib Go.Sort
theorem CInv.done {key:Nat->List Int} {n k:Nat} {dk:Array Nat} (h:CInv key n n k dk) (z:Nat):lay dk k (List.replicate (n-k) z)=(keepI key n++List.replicate (n-k) z).toArray:=by
 have hk:=h.lt
 have hs:=h.size
 have hl:=h.len
 apply Array.ext_getElem?
 intro i
 rw [lay_get? _ _ _ _ (by simp;omega)]
 simp only [List.length_replicate,List.getElem?_toArray]
 by_cases h1:i<k
 ·rw [if_neg (by omega),List.getElem?_append_left (by omega),h.low i h1,getElem!_pos dk i (by omega)]
  exact Array.getElem?_eq_getElem (by omega)
 ·rw [List.getElem?_append_right (by omega),hl]
  by_cases h2:i<n
  ·rw [if_pos (by omega)]
  ·rw [if_neg (by omega),Array.getElem?_eq_none (by omega),List.getElem?_eq_none (by simp;omega)]
theorem kp_one (key:Nat->List Int):∀j,j<1->kpB key j=true:=fun j hj=>by
 have:j=0:=by omega
 subst this
 rfl
set_option maxHeartbeats 8000000 in
set_option maxRecDepth 1000000 in
theorem compact74 (enc:Nat->Value) (key:Nat->List Int) (blk off cap n:Nat) (w:World) (henc:Aside (∀i,∃a l c,enc i=.slice a l c)) (hz:Aside (enc n=.slice none 0 0))
  (hH:Go.Sort.Holds enc w blk off (Array.range n)) (hn:n<=1099511627776) (hcap:n<=cap) (h2:2<=n)
  (heq:Aside (∀(q:Nat) (dk:Array Nat),dk.size=n -> ∀i j,i<n->j<n->Calls Tryz.prog 144 #[enc i,enc j] (putRow enc (Sort.ahead w q) blk off dk) fun e w'=>e=.returned (.bool (decide (key i=key j))) /\ ∃q',w'=(putRow enc (Sort.ahead w q) blk off dk).drewN q')) :
  Calls Tryz.prog 178 #[.slice (some ⟨blk,off,none⟩) n cap,.func (.func 144) #[] #[]] w fun e w'=>e=.returned (.slice (some ⟨blk,off,none⟩) (keepI key n).length cap) /\ ∃q,w'=putRow enc (Sort.ahead w q) blk off (keepI key n++List.replicate (n-(keepI key n).length) n).toArray:=by
 have mixed:Tryz.prog.follows .mixedOrders=true:=by kernel_rfl
 have hsr:(Array.range n).size=n:=by simp
 have HH:Aside (Go.Sort.Holds enc w blk off (Array.range n)):=hH
 have e49:∀(args:Array Value) (w:World),(callFunc 144 args).run Tryz.prog w=.ok (.enter 144 args) w:=enters_of Tryz.func144 (by kernel_rfl) rfl
 clear hH
 go_enter Tryz.func178,Tryz.ntmps178
 go_wp2
 go_loopg [5] n (fun g s5 wr => ∃k q:Nat,1<=k/\k<=n/\n-k<=g/\s5=.int .i64 k/\wr=w.drewN q/\Aside (∀j,j<k->kpB key j=true))
 case atStart=>exact ⟨1,0,Nat.le_refl _,by omega,by omega,rfl,rfl,kp_one key⟩
 case round=>
  obtain ⟨k,q,hk1,hk,hg,rfl,hwr,A⟩:=hrel
  have HW:Aside (wr=w.drewN q):=hwr
  clear hwr
  by_cases hlt:k<n
  ·obtain ⟨a1,l1,c1,ek⟩:=henc.out k
   obtain ⟨a0,l0,c0,ek0⟩:=henc.out (k-1)
   obtain ⟨kp,hkp⟩:∃p,p+1=k:=⟨k-1,by omega⟩
   obtain ⟨iN,hiN⟩:∃p,p=k:=⟨_,rfl⟩
   obtain ⟨jN,hjN⟩:∃p,p=k-1:=⟨_,rfl⟩
   have zk:(k:Int)=(kp:Int)+1:=by omega
   have ea:((kp:Int)+1).toNat=iN:=by omega
   have pa:(0:Int)<=(kp:Int)+1:=by omega
   have ba:(kp:Int)+1<(n:Int):=by omega
   have ra:IntKind.i64.wrap ((kp:Int)+1)=(kp:Int)+1:=by rw [IntKind.wrap_i64];omega
   have ec:((kp:Int)).toNat=jN:=by omega
   have pc:(0:Int)<=(kp:Int):=by omega
   have bc:(kp:Int)<(n:Int):=by omega
   have rc:IntKind.i64.wrap ((kp:Int))=(kp:Int):=by rw [IntKind.wrap_i64];omega
   have hc1:wr.cell? ⟨blk,off+iN,none⟩=some (.slice a1 l1 c1):=by
    have:=(HH.out k (by rw [hsr];exact hlt)).1
    rw [range_get hlt,ek] at this
    rw [hiN,HW.out]
    exact this
   have hc0:wr.cell? ⟨blk,off+jN,none⟩=some (.slice a0 l0 c0):=by
    have:=(HH.out (k-1) (by rw [hsr];omega)).1
    rw [range_get (by omega),ek0] at this
    rw [hjN,HW.out]
    exact this
   have hcall:∀m,Calls Tryz.prog 144 #[.slice a1 l1 c1,.slice a0 l0 c0] (wr.drewN m) fun e w'=>e=.returned (.bool (decide (key k=key (k-1)))) /\ ∃q',w'=(wr.drewN m).drewN q':=fun m=>by
    have:=heq.out (q+m) (Array.range n) hsr k (k-1) hlt (by omega)
    rw [putRow_self enc (Sort.ahead w (q+m)) blk off _ (holds_ahead enc w (q+m) blk off _ HH.out),ek,ek0] at this
    rw [HW.out,World.drewN_drewN]
    exact this
   by_cases hdup:key k=key (k-1)
   ·have hb:decide (key k=key (k-1))=true:=decide_eq_true hdup
    rw [hb] at hcall
    have D:Aside (kpB key k=false):=by
     show _=_
     unfold kpB
     have:(k==0)=false:=by simp;omega
     rw [this,hb];rfl
    have IN:Aside (iN=k):=hiN
    clear hdup hb ek ek0 hiN hjN
    go_wp2_with fail
    go_quiet_o (first | (go_at_fn 144;refine Calls.quiet_of (hcall _)))
    clear hcall hc1 hc0
    go_wp2
    go_loopg [5,7] n (fun g s5 s7 w2 => ∃(kk k2 q2:Nat) (dk:Array Nat),s5=.int .i64 kk/\s7=.int .i64 k2/\1<=k2/\k+k2<=n/\n-(k+k2)<=g/\Aside (w2=putRow enc (Sort.ahead w q2) blk off dk)/\Aside (CInv key n (k+k2) kk dk))
    case atStart=>
     refine ⟨k,1,q+nq,Array.range n,by rw [zk],rfl,Nat.le_refl _,by omega,by omega,?_,CInv.start hlt A.out D.out⟩
     show _=_
     rw [HW.out,World.drewN_drewN]
     exact (putRow_self enc (Sort.ahead w (q+nq)) blk off _ (holds_ahead enc w (q+nq) blk off _ HH.out)).symm
    case round=>
     obtain ⟨kk,k2,q2,dk,rfl,rfl,h1,hle,hg2,W2,I2⟩:=hrel
     have hkk:=I2.out.lt
     have hds:=I2.out.size
     have HK:Aside (Go.Sort.Holds enc wr blk off dk):=by
      show Go.Sort.Holds _ _ _ _ _
      rw [W2.out]
      exact holds_putRow enc _ blk off _ dk (holds_ahead enc w q2 blk off _ HH.out) (by rw [hds,hsr])
     clear ea pa ba ra ec pc bc rc
     by_cases hlt2:k+k2<n
     ·obtain ⟨a1,l1,c1,ek⟩:=henc.out (k+k2)
      obtain ⟨a0,l0,c0,ek0⟩:=henc.out (k+k2-1)
      obtain ⟨old,hold⟩:∃v,v=enc dk[kk]!:=⟨_,rfl⟩
      obtain ⟨p2,hp2⟩:∃p,p+1=k2:=⟨k2-1,by omega⟩
      obtain ⟨iM,hiM⟩:∃p,p=k2:=⟨_,rfl⟩
      obtain ⟨jM,hjM⟩:∃p,p=k2-1:=⟨_,rfl⟩
      have zk2:(k2:Int)=(p2:Int)+1:=by omega
      have ea:((p2:Int)+1).toNat=iM:=by omega
      have pa:(0:Int)<=(p2:Int)+1:=by omega
      have ra:IntKind.i64.wrap ((p2:Int)+1)=(p2:Int)+1:=by rw [IntKind.wrap_i64];omega
      have ec:((p2:Int)).toNat=jM:=by omega
      have pc:(0:Int)<=(p2:Int):=by omega
      have rc:IntKind.i64.wrap ((p2:Int))=(p2:Int):=by rw [IntKind.wrap_i64];omega
      have ba:(p2:Int)+1<((n-iN:Nat):Int):=by have:=IN.out;omega
      have bc:(p2:Int)<((n-iN:Nat):Int):=by have:=IN.out;omega
      have hc1:wr.cell? ⟨blk,off+iN+iM,none⟩=some (.slice a1 l1 c1):=by
       have:=(HK.out (k+k2) (by omega)).1
       rw [I2.out.high (k+k2) (by omega) hlt2,ek] at this
       rw [hiM,IN.out,Nat.add_assoc]
       exact this
      have hc0:wr.cell? ⟨blk,off+iN+jM,none⟩=some (.slice a0 l0 c0):=by
       have:=(HK.out (k+k2-1) (by omega)).1
       rw [I2.out.high (k+k2-1) (by omega) (by omega),ek0] at this
       rw [hjM,IN.out,show off+k+(k2-1)=off+(k+k2-1) by omega]
       exact this
      have hck:wr.cell? ⟨blk,off+kk,none⟩=some old:=by
       rw [hold]
       exact (HK.out kk (by omega)).1
      have hfk:wr.frozen? ⟨blk,off+kk,none⟩=false:=(HK.out kk (by omega)).2
      have hcall:∀m,Calls Tryz.prog 144 #[.slice a1 l1 c1,.slice a0 l0 c0] (wr.drewN m) fun e w'=>e=.returned (.bool (decide (key (k+k2)=key (k+k2-1)))) /\ ∃q',w'=(wr.drewN m).drewN q':=fun m=>by
       have:=heq.out (q2+m) dk hds (k+k2) (k+k2-1) hlt2 (by omega)
       have e:wr.drewN m=putRow enc (Sort.ahead w (q2+m)) blk off dk:=by rw [W2.out];exact putRow_drewN _ _ _ _ _ _ _
       rw [ek,ek0,<- e] at this
       exact this
      have IM:Aside (iM=k2):=hiM
      have EK:Aside (enc (k+k2)=.slice a1 l1 c1):=ek
      by_cases hdup:key (k+k2)=key (k+k2-1)
      ·have hb:decide (key (k+k2)=key (k+k2-1))=true:=decide_eq_true hdup
       rw [hb] at hcall
       have D2:Aside (kpB key (k+k2)=false):=by
        show _=_
        unfold kpB
        have:(k+k2==0)=false:=by simp;omega
        rw [this,hb];rfl
       clear hdup hb ek ek0 hiM hjM hold
       go_wp2_with fail
       go_quiet_o (first | (go_at_fn 144;refine Calls.quiet_of (hcall _)))
       clear hcall hc1 hc0
       go_wp2
       go_roundg (n-(k+(k2+1)))
       case measure=>omega
       case rel=>exact ⟨kk,k2+1,q2+nq,dk,rfl,by congr 1;omega,by omega,by omega,Nat.le_refl _,(by show _=_;rw [W2.out];exact putRow_drewN _ _ _ _ _ _ _),I2.out.skip D2.out⟩
      ·have hb:decide (key (k+k2)=key (k+k2-1))=false:=decide_eq_false hdup
       rw [hb] at hcall
       have D2:Aside (kpB key (k+k2)=true):=by
        show _=_
        unfold kpB
        rw [hb];simp
       clear hdup hb ek ek0 hiM hjM hold
       go_wp2_with fail
       go_quiet_o (first | (go_at_fn 144;refine Calls.quiet_of (hcall _)))
       clear hcall
       go_wp2
       go_roundg (n-(k+(k2+1)))
       case measure=>omega
       case rel=>
        refine ⟨kk+1,k2+1,q2+nq,dk.setIfInBounds kk (k+k2),by first | rfl | (congr 1;omega),by first | rfl | (congr 1;omega),by omega,by omega,Nat.le_refl _,?_,I2.out.keep hlt2 D2.out⟩
        show _=_
        rw [<- putRow_set enc _ blk off dk kk (k+k2) (by omega),EK.out,<- putRow_drewN,<- W2.out]
     ·have hend:k+k2=n:=by omega
      have hcl:∀ty,(Builtin.clear_ #[26] ty #[.slice (some ⟨blk,off+kk,none⟩) (n-kk) (cap-kk)]).run Tryz.prog wr=.ok (.tuple #[]) (wr.setCells blk (off+kk) (List.replicate (n-kk) (enc n))):=fun ty=>by
       rw [hz.out]
       exact Lib.run_clear_slice wr 26 45 ty _ Tryz.underlying26 (fun w=>by rfl) rfl rfl blk (off+kk) _ _ (by omega) (fun j hj=>by rw [show off+kk+j=off+(kk+j) by omega,(HK.out (kk+j) (by omega)).1];rfl) (fun j hj=>by rw [show off+kk+j=off+(kk+j) by omega];exact (HK.out (kk+j) (by omega)).2)
      have hge:¬k2<n-iN:=by have:=IN.out;omega
      have hge2:¬(k2:Int)<((n-iN:Nat):Int):=by omega
      go_wp2
      go_ret
      have hI:=I2.out
      rw [hend] at hI
      refine ⟨by rw [hI.len];rfl,q2,?_⟩
      rw [hI.len,<- hI.done n,<- putRow_setCells enc _ blk off _ dk kk (by simp;omega),<- W2.out,List.map_replicate]
   ·have hb:decide (key k=key (k-1))=false:=decide_eq_false hdup
    rw [hb] at hcall
    have D:Aside (kpB key k=true):=by
     show _=_
     unfold kpB
     rw [hb];simp
    clear hdup hb ek ek0 hiN hjN
    go_wp2_with fail
    go_quiet_o (first | (go_at_fn 144;refine Calls.quiet_of (hcall _)))
    clear hcall hc1 hc0
    go_wp2
    go_roundg (n-(k+1))
    case measure=>omega
    case rel=>
     refine ⟨k+1,q+nq,by omega,by omega,Nat.le_refl _,by congr 1;omega,by rw [HW.out,World.drewN_drewN],fun j hj => ?_⟩
     by_cases e:j=k
     ·subst e
      exact D.out
     ·exact A.out j (by omega)
  ·have:k=n:=by omega
   subst this
   go_wp2
   go_ret
   have e:=keepI_all A.out
   have el:(keepI key k).length=k:=by rw [e];simp
   refine ⟨by rw [el];rfl,q,?_⟩
   rw [el,e,Nat.sub_self,List.replicate_zero,List.append_nil,HW.out]
   have e2:(List.range k).toArray=Array.range k:=by simp
   rw [e2]
   exact (putRow_self enc (Sort.ahead w q) blk off _ (holds_ahead enc w q blk off _ HH.out)).symm
set_option maxRecDepth 1000000 in
theorem compact74_small (p:Option Addr) (n cap:Nat) (fv:Value) (w:World) (h:n<2):Calls Tryz.prog 178 #[.slice p n cap,fv] w fun e w'=>e=.returned (.slice p n cap)/\w'=w:=by
 have hn:(n:Int)<2:=by omega
 go_enter Tryz.func178,Tryz.ntmps178
 go_wp2
 go_ret
 exact ⟨rfl,rfl⟩
end Go.V.W
namespace Go.V.W
open Go.RowKit Go.Proofs Go.Lib
open Go.Sort (grow putRow mapBlock putCells onCells)
def keyL (xss:List (List Int)) (j:Nat):List Int:=xss.getD j []
def compL (xss:List (List Int)):List (List Int):=(keepI (keyL xss) xss.length).map (keyL xss)
def G_compactF (d:List (List Int)×(Unit×Unit)×Unit):Option (List (List Int)×List (List Int)×Unit):=if okLL d.1=true then some (compL d.1,d.1,()) else none
theorem compL_short {xss:List (List Int)} (h:xss.length<2):compL xss=xss:=by
 match xss,h with
 | [],_=>rfl
 | [x],_=>rfl
theorem keepI_pair (key:Nat->List Int) (n:Nat):(keepI key n).Pairwise (· ≠ ·):=by
 unfold keepI
 exact List.Pairwise.filter _ (List.Pairwise.imp (fun h=>by omega) List.pairwise_lt_range)
open Classical in
noncomputable def keptAt (l:List Nat) (j:Nat):Option Nat:=if h:∃i,∃hi:i<l.length,l[i]=j then some h.choose else none
theorem keptAt_get {l:List Nat} (hp:l.Pairwise (· ≠ ·)) {i:Nat} (hi:i<l.length):keptAt l l[i]=some i:=by
 have h:∃k,∃hk:k<l.length,l[k]=l[i]:=⟨i,hi,rfl⟩
 unfold keptAt
 rw [dif_pos h]
 obtain ⟨h1,h2⟩:=h.choose_spec
 congr 1
 rw [List.pairwise_iff_getElem] at hp
 rcases Nat.lt_trichotomy h.choose i with h' | h' | h'
 ·exact absurd h2 (hp _ _ h1 hi h')
 ·exact h'
 ·exact absurd h2.symm (hp _ _ hi h1 h')
noncomputable def compLab (l:List Nat):Nat×Path->Option Lab
 | (0,[])=>some (.res [.l])
 | (0,[.i j])=>(keptAt l j).map fun i=>.res [.l,.i i]
 | (0,_)=>none
 | (i,q)=>some (.io i q)
theorem con_compactF {P:Program} {f g:FuncId} (he:∀(args:Array Value) (w:World),(callFunc f args).run P w=.ok (.enter f args) w)
  (hc:∀(w:World) (v1 v2:Value) (xs ys:List Int),Hdr w v1 xs->Hdr w v2 ys->xs.length<=lim->ys.length<=lim->Calls P g #[v1,v2] w fun e w'=>e=.returned (.bool (decide (xs=ys))) /\ ∃q,w'=w.drewN q)
  (h:∀(enc:Nat->Value) (key:Nat->List Int) (blk off cap n:Nat) (w:World),Aside (∀i,∃a l c,enc i=.slice a l c)->Aside (enc n=.slice none 0 0)->Go.Sort.Holds enc w blk off (Array.range n)->n<=1099511627776->n<=cap->2<=n ->
   Aside (∀(q:Nat) (dk:Array Nat),dk.size=n -> ∀i j,i<n->j<n->Calls P g #[enc i,enc j] (putRow enc (Go.Sort.ahead w q) blk off dk) fun e w'=>e=.returned (.bool (decide (key i=key j))) /\ ∃q',w'=(putRow enc (Go.Sort.ahead w q) blk off dk).drewN q') ->
   Calls P f #[.slice (some ⟨blk,off,none⟩) n cap,.func (.func g) #[] #[]] w fun e w'=>e=.returned (.slice (some ⟨blk,off,none⟩) (keepI key n).length cap) /\ ∃q,w'=putRow enc (Go.Sort.ahead w q) blk off (keepI key n++List.replicate (n-(keepI key n).length) n).toArray)
  (h0:∀(p:Option Addr) (n cap:Nat) (fv:Value) (w:World),n<2->Calls P f #[.slice p n cap,fv] w fun e w'=>e=.returned (.slice p n cap)/\w'=w) :
  ContractG P f (⟨[(kSS,true),(.clo g .unit .unit,false)],[kSS],true,G_compactF⟩,{ gone:=[0],deep:=[] }):=by
 intro w ψ U vs d out hargs hU hψ hgl ho
 obtain ⟨xss,fv,u⟩:=d
 have ho:G_compactF (xss,fv,u)=some out:=ho
 unfold G_compactF at ho
 split at ho
 case isFalse=>cases ho
 rename_i hl
 have hl:(okL xss&&xss.all okL)=true:=hl
 simp only [Bool.and_eq_true] at hl
 obtain ⟨hl,hal⟩:=hl
 have hl:xss.length<=lim:=of_decide_eq_true hl
 have hal:∀x∈xss,x.length<=lim:=fun x hx=>of_decide_eq_true (List.all_eq_true.1 hal x hx)
 obtain rfl:=Option.some.inj ho
 obtain ⟨c1,r1,rfl,k2,c2,r2,rfl,k3,k5⟩:=hargs
 have k5:r2=[]:=k5
 subst k5
 have hfv:mkVal (.clo g .unit .unit) c2=.func (.func g) #[] #[]:=by
  obtain ⟨a1,a2,e,_⟩:=(show Rep w _ (.clo g .unit .unit) [] c2 fv from k3)
  rw [e]
  rfl
 rw [hfv]
 have k2:Rep w (fun q b=>ψ b=some (0,q)) kSS [] c1 xss:=k2
 have k2':=k2
 rw [Rep] at k2
 by_cases hsm:xss.length<2
 ·-- nothing to cut
  obtain ⟨p,cap,e⟩:∃p cap,c1=[.slice p xss.length cap]:=by
   rcases k2 with ⟨⟨a,e⟩,hz⟩ | ⟨b,off,cap,e,_⟩
   ·have hz:xss=[]:=hz
    rw [hz]
    exact ⟨a,0,e⟩
   ·exact ⟨_,cap,e⟩
  unfold CallsTo
  rw [e,show (mkVal kSS [Value.slice p xss.length cap]::[Value.func (.func g) #[] #[]]).toArray = #[.slice p xss.length cap,.func (.func g) #[] #[]] from rfl,he]
  refine Calls.mono (h0 p xss.length cap _ w hsm) fun v w' hh => ?_
  obtain ⟨rfl,rfl⟩:=hh
  refine ⟨fun b=>match ψ b with | some (0,q)=>some (.res (.l::q)) | some (i,q)=>some (.io i q) | none=>none,⟨rfl,rfl,rfl,Nat.le_refl _,fun _ _ _=>rfl,fun b z hz => ?_,⟨[.slice p xss.length cap],rfl,?_⟩,⟨fun h=>(by cases h),trivial⟩,fun _ _ k hk=>(by cases hk)⟩⟩
  ·cases hb:ψ b with
   | none=>rw [hb] at hz;cases hz
   | some y=>exact ⟨.inr (by simp),hψ b y hb⟩
  ·show Rep _ _ (.pair kSS .unit) [] [.slice p xss.length cap] (compL xss,())
   rw [compL_short hsm]
   refine ⟨?_,rfl⟩
   show Rep _ _ kSS [.l] [.slice p xss.length cap] xss
   rw [e] at k2
   rw [Rep]
   rcases k2 with hz | ⟨b,off,cap',e',kc,kS,kb,ke⟩
   ·exact .inl hz
   ·refine .inr ⟨b,off,cap',e',kc,?_,kb,fun i hi => ?_⟩
    ·show (match ψ b with | some (0,q)=>some (Lab.res (.l::q)) | some (i,q)=>some (.io i q) | none=>none)=some (.res [.l])
     rw [kS]
     rfl
    ·have hj:=ke i hi
     obtain ⟨v,hv⟩:∃v,cellsAt w' b (off+i*(Kd.slice (.int .i64)).size) (Kd.slice (.int .i64)).size=[v]:=by
      have:=hj.length
      match hcl:cellsAt w' b (off+i*(Kd.slice (.int .i64)).size) (Kd.slice (.int .i64)).size,this with
      | [v],_=>exact ⟨v,rfl⟩
     rw [hv] at hj |-
     refine rep_move hj fun b' hb'=>⟨rfl,?_⟩
     show (match ψ b' with | some (0,q)=>some (Lab.res (.l::q)) | some (i,q)=>some (.io i q) | none=>none)=some (.res ([.l]++[.i i]))
     have hb':ψ b'=some (0,[.i i]):=hb'
     rw [hb']
     rfl
 ·rcases k2 with ⟨_,hz⟩ | ⟨b,off,cap,e,kc,kS,kb,ke⟩
  ·have hz:xss=[]:=hz
   rw [hz] at hsm
   exact absurd (show [].length<2 by simp) hsm
  have kS:ψ b=some (0,[]):=kS
  obtain ⟨cs,T,fr,hrow,hthaw⟩:=hψ b _ kS
  obtain ⟨cs2,T2,fr2,hrow2,hfit⟩:=kb
  rw [hrow] at hrow2
  injection hrow2 with hrow2
  injection hrow2 with e1 e2 e3
  subst e1 e2 e3
  simp only [Kd.size,Nat.mul_one] at hfit
  obtain ⟨n,hn⟩:∃n,xss.length=n:=⟨_,rfl⟩
  rw [hn] at kc hsm
  have hlt:∀j,j<n->off+j<cs.size:=fun j hj=>by omega
  have hel:∀j (hj:j<n),Rep w (fun q b=>ψ b=some (0,q)) (.slice (.int .i64)) [.i j] [cs[off+j]'(hlt j hj)] (keyL xss j):=fun j hj=>by
   have hj':j<xss.length:=by omega
   have:=ke j hj'
   simp only [Kd.size,Nat.mul_one,List.nil_append] at this
   unfold cellsAt at this
   rw [hrow] at this
   have e:(cs.toList.drop (off+j)).take 1=[cs[off+j]'(hlt j hj)]:=by
    rw [List.drop_eq_getElem_cons (by simpa using hlt j hj),List.take_succ_cons,List.take_zero,Array.getElem_toList]
   simp only at this
   rw [e] at this
   have e2:keyL xss j=xss.get ⟨j,hj'⟩:=by simp [keyL,List.getD_eq_getElem?_getD,hj']
   rw [e2]
   exact this
  have hb:=(Array.getElem?_eq_some_iff.1 hrow).1
  let enc:Nat->Value:=fun j=>if hj:j<n then cs[off+j]'(hlt j hj) else .slice none 0 0
  have henc:∀j (hj:j<n),enc j=cs[off+j]'(hlt j hj):=fun j hj=>dif_pos hj
  have hsl:Aside (∀i,∃a l c,enc i=.slice a l c):=fun i=>by
   by_cases hi:i<n
   ·rw [henc i hi]
    have:=hel i hi
    rw [Rep] at this
    rcases this with ⟨⟨a,e⟩,_⟩ | ⟨b',o',c',e,_⟩
    ·exact ⟨_,_,_,(List.cons.inj e).1⟩
    ·exact ⟨_,_,_,(List.cons.inj e).1⟩
   ·exact ⟨none,0,0,dif_neg hi⟩
  have hneb:∀j b',ψ b'=some (0,[.i j])->b'≠b:=fun j b' h1 e=>by
   subst e
   rw [kS] at h1
   cases h1
  have hother':∀(m:Nat) (dk:Array Nat) (k:Nat),k<w.heap.size->k≠b->(putRow enc (Go.Sort.ahead w m) b off dk).heap[k]? = w.heap[k]?:=fun m dk k hk hne=>by
   rw [putRowV_else hne]
   rfl
  have hH:Go.Sort.Holds enc w b off (Array.range n):=fun j hj=>by
   have hj':j<n:=by simpa using hj
   rw [range_get hj',henc j hj']
   constructor
   ·unfold World.cell?
    rw [hrow]
    simp [hlt j hj']
   ·unfold World.frozen?
    rw [hrow]
    obtain ⟨f1,f2⟩:=fr
    have:=hlt j hj'
    simp only at hthaw
    simp
    omega
  have hcmp:Aside (∀(q:Nat) (dk:Array Nat),dk.size=n -> ∀i j,i<n->j<n->Calls P g #[enc i,enc j] (putRow enc (Go.Sort.ahead w q) b off dk) fun e w'=>e=.returned (.bool (decide (keyL xss i=keyL xss j))) /\ ∃q',w'=(putRow enc (Go.Sort.ahead w q) b off dk).drewN q'):=fun q dk hs i j hi hj=>by
   have hh:∀z (hz:z<n),Hdr (putRow enc (Go.Sort.ahead w q) b off dk) (enc z) (keyL xss z):=fun z hz=>by
    rw [henc z hz]
    exact hdr_of (hel z hz) fun b' hb'=>hother' q dk b' (hψ b' _ hb').lt (hneb _ _ hb')
   have hln:∀z,z<n->(keyL xss z).length<=lim:=fun z hz=>by
    have hz:z<xss.length:=by omega
    have:keyL xss z=xss[z]:=by simp [keyL,List.getD_eq_getElem?_getD,hz]
    rw [this]
    exact hal _ (List.getElem_mem hz)
   exact hc _ _ _ _ _ (hh i hi) (hh j hj) (hln i hi) (hln j hj)
  have hcall:=h enc (keyL xss) b off cap n w hsl (dif_neg (Nat.lt_irrefl n)) hH (by unfold lim at hl;omega) kc (by omega) hcmp
  unfold CallsTo
  rw [e,hn,show (mkVal kSS [Value.slice (some ⟨b,off,none⟩) n cap]::[Value.func (.func g) #[] #[]]).toArray = #[.slice (some ⟨b,off,none⟩) n cap,.func (.func g) #[] #[]] from rfl,he]
  refine Calls.mono hcall fun v w' hh => ?_
  obtain ⟨rfl,m,rfl⟩:=hh
  have hother:=hother' m (keepI (keyL xss) n++List.replicate (n-(keepI (keyL xss) n).length) n).toArray
  have hkl:=keepI_le (keyL xss) n
  have hnew:(putRow enc (Go.Sort.ahead w m) b off (keepI (keyL xss) n++List.replicate (n-(keepI (keyL xss) n).length) n).toArray).heap[b]? = some (.cells (putCells enc off (keepI (keyL xss) n++List.replicate (n-(keepI (keyL xss) n).length) n).toArray cs) T fr):=putRowV_at (w:=Go.Sort.ahead w m) hrow
  generalize hD:(keepI (keyL xss) n++List.replicate (n-(keepI (keyL xss) n).length) n).toArray=D at hother hnew
  have hDs:D.size=n:=by rw [<- hD];simp;omega
  have hps:(putCells enc off D cs).size=cs.size:=by simp [putCells]
  have hsz:(putRow enc (Go.Sort.ahead w m) b off D).heap.size=w.heap.size:=by simp [putRow,mapBlock]
  refine ⟨fun b=>match ψ b with | some z=>compLab (keepI (keyL xss) n) z | none=>none,⟨rfl,rfl,rfl,by rw [hsz];exact Nat.le_refl _,fun k hk hn => ?_,fun k z hz => ?_,⟨[.slice (some ⟨b,off,none⟩) (keepI (keyL xss) n).length cap],rfl,?_⟩,⟨fun h=>(by cases h),trivial⟩,fun _ _ k hk=>(by cases hk)⟩⟩
  ·exact hother k hk (fun e=>by subst e;rw [kS] at hn;cases hn)
  ·cases hk:ψ k with
   | none=>rw [hk] at hz;cases hz
   | some y=>
    refine ⟨.inr (by simp),?_⟩
    by_cases e:k=b
    ·subst e
     exact ⟨_,T,fr,hnew,hthaw.imp (fun h=>h) fun h=>by rw [hps];exact h⟩
    ·exact (hψ k y hk).same (hother k (hψ k y hk).lt e)
  ·show Rep _ _ (.pair kSS .unit) [] [.slice (some ⟨b,off,none⟩) (keepI (keyL xss) n).length cap] (compL xss,())
   refine ⟨?_,rfl⟩
   show Rep _ _ kSS [.l] [.slice (some ⟨b,off,none⟩) (keepI (keyL xss) n).length cap] (compL xss)
   have hlen:(compL xss).length=(keepI (keyL xss) n).length:=by unfold compL;rw [List.length_map,hn]
   rw [Rep]
   refine .inr ⟨b,off,cap,by rw [hlen],by rw [hlen];omega,?_,⟨_,T,fr,hnew,?_⟩,fun i hi => ?_⟩
   ·show (match ψ b with | some z=>compLab (keepI (keyL xss) n) z | none=>none)=some (.res [.l])
    rw [kS]
    rfl
   ·simp only [Kd.size,Nat.mul_one]
    rw [hps]
    exact hfit
   ·have hi1:i<(keepI (keyL xss) n).length:=by rw [<- hlen];exact hi
    have hjn:(keepI (keyL xss) n)[i]<n:=by
     have:=List.mem_filter.1 (List.getElem_mem hi1)
     exact List.mem_range.1 this.1
    have hDi:D[i]! = (keepI (keyL xss) n)[i]:=by
     rw [<- hD,getElem!_pos _ i (by simp;omega)]
     simp [List.getElem_append,hi1]
    have ecell:cellsAt (putRow enc (Go.Sort.ahead w m) b off D) b (off+i*(Kd.slice (.int .i64)).size) (Kd.slice (.int .i64)).size=[enc (keepI (keyL xss) n)[i]]:=by
     unfold cellsAt
     rw [hnew]
     simp only [Kd.size,Nat.mul_one]
     have hlt2:off+i<(putCells enc off D cs).toList.length:=by rw [Array.length_toList,hps];exact hlt i (by omega)
     rw [List.drop_eq_getElem_cons hlt2,List.take_succ_cons,List.take_zero]
     congr 1
     simp only [putCells,Array.getElem_toList,Array.getElem_mapIdx]
     rw [if_pos ⟨by omega,by omega⟩,show off+i-off=i by omega,hDi]
    have edata:(compL xss).get ⟨i,hi⟩=keyL xss (keepI (keyL xss) n)[i]:=by
     have:(compL xss)[i]=keyL xss (keepI (keyL xss) n)[i]:=by
      subst hn
      simp [compL]
     exact this
    rw [ecell,edata,henc _ hjn]
    refine rep_move (hel _ hjn) fun b' hb'=>⟨hother b' (hψ b' _ hb').lt (hneb _ _ hb'),?_⟩
    show (match ψ b' with | some z=>compLab (keepI (keyL xss) n) z | none=>none)=some (.res ([.l]++[.i i]))
    have hb':ψ b'=some (0,[.i (keepI (keyL xss) n)[i]]):=hb'
    rw [hb']
    show (keptAt (keepI (keyL xss) n) (keepI (keyL xss) n)[i]).map (fun i=>Lab.res [.l,.i i])=_
    rw [keptAt_get (keepI_pair _ _) hi1]
    rfl
end Go.V.W
namespace Go.V.W
def ltL (a b:List Int):Prop:=cmpL a b<0
theorem ltL_trans {a b c:List Int} (h1:ltL a b) (h2:ltL b c):ltL a c:=by
 unfold ltL at h1 h2 |-
 have h3:=cmpL_le (Int.le_of_lt h1) (Int.le_of_lt h2)
 rcases Int.lt_or_eq_of_le h3 with h | h
 ·exact h
 ·have e:=cmpL_eq h
  rw [e,cmpL_swap b c] at h1
  omega
theorem ltL_irr (a:List Int):¬ltL a a:=by
 unfold ltL
 rw [cmpL_self]
 omega
theorem ltL_of_le {a b:List Int} (h:leL a b) (hne:¬a=b):ltL a b:=by
 unfold leL at h
 unfold ltL
 rcases Int.lt_or_eq_of_le h with h' | h'
 ·exact h'
 ·exact absurd (cmpL_eq h') hne
theorem strict_ext:∀{l m:List (List Int)},l.Pairwise ltL->m.Pairwise ltL->(∀x,x∈l↔x∈m)->l=m:=by
 intro l
 induction l with
 | nil=>
  intro m _ _ h
  cases m with
  | nil=>rfl
  | cons b m=>exact absurd ((h b).2 (by simp)) (by simp)
 | cons a l ih=>
  intro m hl hm h
  cases m with
  | nil=>exact absurd ((h a).1 (by simp)) (by simp)
  | cons b m=>
   rw [List.pairwise_cons] at hl hm
   have e:a=b:=by
    rcases List.mem_cons.1 ((h a).1 (by simp)) with e | ha
    ·exact e
    rcases List.mem_cons.1 ((h b).2 (by simp)) with e | hb
    ·exact e.symm
    exact absurd (ltL_trans (hl.1 b hb) (hm.1 a ha)) (ltL_irr a)
   subst e
   congr 1
   refine ih hl.2 hm.2 fun x=>⟨fun hx => ?_,fun hx => ?_⟩
   ·rcases List.mem_cons.1 ((h x).1 (by simp [hx])) with e | hx'
    ·subst e
     exact absurd (hl.1 x hx) (ltL_irr x)
    ·exact hx'
   ·rcases List.mem_cons.1 ((h x).2 (by simp [hx])) with e | hx'
    ·subst e
     exact absurd (hm.1 x hx) (ltL_irr x)
    ·exact hx'
def putS (x:List Int):List (List Int)->List (List Int)
 | []=>[x]
 | a::l=>if cmpL a x<0 then a::putS x l else if a=x then a::l else x::a::l
theorem putS_mem {x y:List Int}:∀{l:List (List Int)},y∈putS x l↔y=x\/y∈l:=by
 intro l
 induction l with
 | nil=>simp [putS]
 | cons a l ih=>
  unfold putS
  split
  ·simp only [List.mem_cons,ih]
   constructor
   ·rintro (h | h | h)
    ·exact .inr (.inl h)
    ·exact .inl h
    ·exact .inr (.inr h)
   ·rintro (h | h | h)
    ·exact .inr (.inl h)
    ·exact .inl h
    ·exact .inr (.inr h)
  ·split
   ·rename_i e
    subst e
    simp
   ·simp
theorem putS_strict {x:List Int}:∀{l:List (List Int)},l.Pairwise ltL->(putS x l).Pairwise ltL:=by
 intro l
 induction l with
 | nil=>intro _;simp [putS]
 | cons a l ih=>
  intro h
  rw [List.pairwise_cons] at h
  unfold putS
  split
  ·rename_i ha
   rw [List.pairwise_cons]
   refine ⟨fun b hb => ?_,ih h.2⟩
   rcases putS_mem.1 hb with rfl | hb
   ·exact ha
   ·exact h.1 b hb
  ·rename_i ha
   split
   ·rw [List.pairwise_cons]
    exact h
   ·rename_i hne
    have hxa:ltL x a:=ltL_of_le ((leL_total x a).resolve_right fun hh=>ha (by
     have:=ltL_of_le hh hne
     exact this)) fun e=>hne e.symm
    rw [List.pairwise_cons,List.pairwise_cons]
    refine ⟨fun b hb => ?_,h⟩
    rcases List.mem_cons.1 hb with rfl | hb
    ·exact hxa
    ·exact ltL_trans hxa (h.1 b hb)
def putsS (L:List (List Int)):List (List Int):=L.foldl (fun o x=>putS x o) []
theorem puts_fold:∀(L o:List (List Int)),o.Pairwise ltL->(L.foldl (fun o x=>putS x o) o).Pairwise ltL /\ ∀y,y∈L.foldl (fun o x=>putS x o) o↔y∈o\/y∈L:=by
 intro L
 induction L with
 | nil=>intro o h;exact ⟨h,fun y=>by simp⟩
 | cons x L ih=>
  intro o h
  obtain ⟨h1,h2⟩:=ih (putS x o) (putS_strict h)
  refine ⟨h1,fun y => ?_⟩
  rw [List.foldl_cons,h2 y,putS_mem,List.mem_cons]
  constructor
  ·rintro ((h | h) | h)
   ·exact .inr (.inl h)
   ·exact .inl h
   ·exact .inr (.inr h)
  ·rintro (h | h | h)
   ·exact .inl (.inr h)
   ·exact .inl (.inl h)
   ·exact .inr h
theorem keyL_get {xss:List (List Int)} {j:Nat} (h:j<xss.length):keyL xss j=xss[j]:=by simp [keyL,List.getD_eq_getElem?_getD,h]
theorem key_mono {xss:List (List Int)} (h:xss.Pairwise leL):∀i j,i<=j->j<xss.length->leL (keyL xss i) (keyL xss j):=by
 intro i j hij hj
 rcases Nat.lt_or_eq_of_le hij with h' | h'
 ·rw [keyL_get (by omega),keyL_get hj]
  exact (List.pairwise_iff_getElem.1 h) i j (by omega) hj h'
 ·subst h'
  unfold leL
  rw [cmpL_self]
  omega
theorem comp_strict {xss:List (List Int)} (h:xss.Pairwise leL):(compL xss).Pairwise ltL:=by
 unfold compL keepI
 rw [List.pairwise_map]
 have hlt:((List.range xss.length).filter (kpB (keyL xss))).Pairwise (· < ·):=List.Pairwise.filter _ List.pairwise_lt_range
 refine List.Pairwise.imp_of_mem (fun {i j} hi hj hij => ?_) hlt
 have hj':=List.mem_filter.1 hj
 have hjn:=List.mem_range.1 hj'.1
 have hk:¬keyL xss j=keyL xss (j-1):=by
  have:=hj'.2
  unfold kpB at this
  have hj0:(j==0)=false:=by simp;omega
  rw [hj0,Bool.false_or] at this
  simpa using this
 refine ltL_of_le (key_mono h i j (by omega) hjn) fun e=>hk ?_
 have h1:=key_mono h i (j-1) (by omega) (by omega)
 have h2:=key_mono h (j-1) j (by omega) hjn
 rw [e] at h1
 exact leL_antisymm h1 h2
theorem comp_mem {xss:List (List Int)} (y:List Int):y∈compL xss↔y∈xss:=by
 unfold compL keepI
 rw [List.mem_map]
 constructor
 ·rintro ⟨i,hi,rfl⟩
  have:=List.mem_range.1 (List.mem_filter.1 hi).1
  rw [keyL_get this]
  exact List.getElem_mem this
 ·intro hy
  obtain ⟨i,hi,rfl⟩:=List.getElem_of_mem hy
  have key:∀i,i<xss.length -> ∃j,j∈(List.range xss.length).filter (kpB (keyL xss))/\keyL xss j=keyL xss i:=by
   intro i
   induction i with
   | zero=>
    intro hi
    exact ⟨0,List.mem_filter.2 ⟨List.mem_range.2 hi,rfl⟩,rfl⟩
   | succ i ih=>
    intro hi
    cases hk:kpB (keyL xss) (i+1) with
    | true=>exact ⟨i+1,List.mem_filter.2 ⟨List.mem_range.2 hi,hk⟩,rfl⟩
    | false=>
     obtain ⟨j,hj1,hj2⟩:=ih (by omega)
     refine ⟨j,hj1,hj2.trans ?_⟩
     unfold kpB at hk
     simp only [Nat.add_sub_cancel,Bool.or_eq_false_iff,Bool.not_eq_false',decide_eq_true_eq] at hk
     exact hk.2.symm
  obtain ⟨j,hj1,hj2⟩:=key i hi
  exact ⟨j,hj1,by rw [hj2,keyL_get hi]⟩
theorem puts_comp (L:List (List Int)):putsS L=compL (sortS L):=by
 obtain ⟨h1,h2⟩:=puts_fold L [] .nil
 refine strict_ext h1 (comp_strict (sortS_sorted L)) fun x => ?_
 have h3:=h2 x
 unfold putsS
 rw [h3,comp_mem,(sortS_perm L).mem_iff]
 simp
def chL (ball:Int->List Int):List Int->List (List Int)->List (List Int)
 | [],now=>now
 | c::cs,now=>chL ball cs (now.flatMap fun l=>(ball c).map fun x=>l++[x])
def movesL (ball:Int->List Int) (cops:List Int):List (List Int):=compL (sortS ((chL ball cops [[]]).map sortI))
theorem chL_congr {b1 b2:Int->List Int}:∀{cs:List Int} {now:List (List Int)},(∀c∈cs,b1 c=b2 c)->chL b1 cs now=chL b2 cs now:=by
 intro cs
 induction cs with
 | nil=>intro now _;rfl
 | cons c cs ih=>
  intro now h
  simp only [chL,h c (by simp)]
  exact ih fun c hc=>h c (by simp [hc])
theorem moves_congr {b1 b2:Int->List Int} {cs:List Int} (h:∀c∈cs,b1 c=b2 c):movesL b1 cs=movesL b2 cs:=by
 unfold movesL
 rw [chL_congr h]
end Go.V.W
namespace Go.V.W
noncomputable def pickF {α β:Type} (F:Nat->α->Option β) (P:α->β->Prop) (d:α):Option β:=
 open Classical in if h:∃r,P d r /\ ∃N,F N d=some r then some h.choose else none
theorem pickF_lim {α β:Type} {F:Nat->α->Option β} {P:α->β->Prop} (d:α) (r:β) (h:pickF F P d=some r):∃N,F N d=some r:=by
 unfold pickF at h
 split at h
 ·rename_i hh
  have h:=Option.some.inj h
  subst h
  exact hh.choose_spec.2
 ·cases h
theorem pickF_of {α β:Type} {F:Nat->α->Option β} {P:α->β->Prop} {d:α} (h:∃N r,F N d=some r/\P d r):∃r,pickF F P d=some r/\P d r:=by
 obtain ⟨N,r,h1,h2⟩:=h
 have hh:∃r,P d r /\ ∃N,F N d=some r:=⟨r,h2,N,h1⟩
 unfold pickF
 rw [dif_pos hh]
 exact ⟨_,rfl,hh.choose_spec.1⟩
def Ok {α:Type} (o:Option α) (Q:α->Prop):Prop := ∃r,o=some r/\Q r
theorem Ok.bind {α β:Type} {o:Option α} {f:α->Option β} {Q:α->Prop} {R:β->Prop} (h:Ok o Q) (hf:∀r,Q r->Ok (f r) R):Ok (o.bind f) R:=by
 obtain ⟨r,h1,h2⟩:=h
 obtain ⟨x,h3,h4⟩:=hf r h2
 exact ⟨x,by rw [h1];exact h3,h4⟩
theorem Ok.some {α:Type} {r:α} {Q:α->Prop} (h:Q r):Ok (some r) Q:=⟨r,rfl,h⟩
theorem Ok.ite {α:Type} {c:Bool} {a b:Option α} {Q:α->Prop} (ha:c=true->Ok a Q) (hb:c=false->Ok b Q):Ok (if c=true then a else b) Q:=by
 cases c with
 | true=>exact ha rfl
 | false=>exact hb rfl
theorem Ok.pos {α:Type} {c:Bool} {a b:Option α} {Q:α->Prop} (hc:c=true) (ha:Ok a Q):Ok (if c=true then a else b) Q:=by rw [if_pos hc];exact ha
theorem Ok.mono {α:Type} {o:Option α} {Q R:α->Prop} (h:Ok o Q) (hR:∀r,Q r->R r):Ok o R:=by
 obtain ⟨r,h1,h2⟩:=h
 exact ⟨r,h1,hR r h2⟩
theorem Ok.pick {α β:Type} {F:Nat->α->Option β} {P:α->β->Prop} {d:α} (N:Nat) (h:Ok (F N d) (P d)):Ok (pickF F P d) (P d):=by
 obtain ⟨r,h1,h2⟩:=h
 exact pickF_of ⟨N,r,h1,h2⟩
abbrev Cur:=List Int×Int×Int×Unit
def CurB (c:Cur):Prop:=(∀x∈c.1,0<=x/\x<=255)/\0<=c.2.1
def Adv (k:Int) (c c':Cur):Prop:=CurB c'/\c'.2.1<=c.2.1+k
theorem Adv.trans {k m:Int} {c d e:Cur} (h:Adv k c d) (h':Adv m d e):Adv (k+m) c e:=⟨h'.1,by have:=h.2;have:=h'.2;omega⟩
theorem Adv.le {k m:Int} {c d:Cur} (h:Adv k c d) (hk:k<=m):Adv m c d:=⟨h.1,by have:=h.2;omega⟩
def far_:Int:=1099511627776
end Go.V.W
namespace Go.V.W
def ndB:List Int->Bool
 | []=>true
 | [_]=>true
 | a::b::l=>decide (a<=b)&&ndB (b::l)
def copsB (n:Int) (l:List Int):Bool:=l.all (inB 0 (n-1))&&ndB l
def G_l4Less (d:List Int×List Int×Unit):Option (Bool×Unit):=if (okL d.1&&decide (d.1.length=d.2.1.length))=true then some (decide (cmpL d.1 d.2.1<0),()) else none
def G_l1Same (d:List Int×List Int×Unit):Option (Bool×Unit):=if okL d.1=true then some (decide (d.1=d.2.1),()) else none
def G_l4Sorted (d:List Int×Unit):Option (List Int×Unit):=if decide (d.1.length<=1000)=true then some (sortI d.1,()) else none
def G_l4Put (d:List (List Int)×List Int×Unit):Option (List (List Int)×Unit):=if (decide (d.1.length<=1000)&&okL d.2.1&&d.1.all (fun l=>decide (l.length=d.2.1.length)))=true then some (putS d.2.1 d.1,()) else none
def nodesB (n:Int) (l:List Int):Bool:=decide (l.length<=3)&&l.all (inB 0 (n-1))
def G_l4Moves (d:Gr×List Int×Unit):Option (List (List Int)×Unit):=if (grB d.1&&nodesB d.1.1 d.2.1)=true then some (movesL (ballF d.1.1.toNat d.1.2.1) d.2.1,()) else none
def G_copMoves (d:Nt×List Int×Unit):Option (List (List Int)×Unit):=if (netB d.1.1&&nodesB (d.1.1.length:Int) d.2.1)=true then some (movesL (ballM d.1.1) d.2.1,()) else none
def G_l4At (d:List (List Int)×List Int×Unit):Option (Int×Unit):=if okLL d.1=true then some (idxI (idxN (fun y=>decide (y=d.2.1)) d.1 0),()) else none
def hasL (S:List Int) (y:Int):Bool:=S.any fun z=>z==y
end Go.V.W
namespace Go.V.W
def G_l2Bits (d:Int×Int×Unit):Option (List Int×Unit):=if (inB 0 8 d.1&&inB 0 255 d.2.1)=true then some (setF (fun y=>d.2.1.toNat.testBit y) d.1.toNat 0,()) else none
def insE (e:E):List E->List E
 | []=>[e]
 | a::l=>if lessE a e=true then a::insE e l else e::a::l
def G_l2Put (d:List E×E×Unit):Option (List E×Unit):=if decide (d.1.length<=1000)=true then some (insE d.2.1 d.1,()) else none
def firstL (p:Int->Bool) (l:List Int) (z:Int):Int:=(l.find? p).getD z
def chaseP (ball:Int->List Int) (T:Tab) (c r b:Int):Bool:=decide (afterT ball T b r+1=tab2 T c r)&&decide (0<=afterT ball T b r)
def fleeL (row:Int->Int):List Int->Int->Int
 | [],b=>b
 | x::xs,b=>if row x<0 then x else fleeL row xs (if row x>row b then x else b)
def maskN (l:List Int):Nat:=l.foldl (fun a x=>a|||2 ^ x.toNat) 0
def W0:Wk:=((0,[],()),0,0,[],0,())
end Go.V.W
namespace Go.V.W
def andN (a b:Nat):Nat:=a&&&(255^^^b)
end Go.V.W
namespace Go.V.W
def upTo (a n:Nat):List Int:=(List.range' a (n-a)).map fun (i:Nat)=>(i:Int)
def confL (n:Nat):Nat->List (List Int)
 | 0=>[[]]
 | k+1=>(confL n k).flatMap fun l=>(upTo (l.getLastD 0).toNat n).map fun x=>l++[x]
def G_configs (d:Int×Int×Unit):Option (List (List Int)×Unit):=if (inB 0 8 d.1&&inB 0 3 d.2.1)=true then some (confL d.1.toNat d.2.1.toNat,()) else none
def riseB:List (List Int)->Bool
 | []=>true
 | [_]=>true
 | a::b::l=>decide (cmpL a b<0)&&riseB (b::l)
def memB (cf:List (List Int)) (c:List Int):Bool:=cf.any fun y=>decide (y=c)
def placeL (cf:List (List Int)) (c:List Int):Int:=idxI (idxN (fun y=>decide (y=c)) cf 0)
def G_bin (d:List (List Int)×List Int×(Unit×Unit)×Unit):Option (Int×Bool×Unit):=if (decide (d.1.length<=1000)&&okLL d.1&&okL d.2.1&&riseB d.1&&memB d.1 d.2.1)=true then some (placeL d.1 d.2.1,true,()) else none
abbrev Gm:=List (List Int)×List (List Int)×List (List Int)×Unit
abbrev Cg:=Nt×List (List Int)×List (List Int)×List (List Int)×Unit
def movesI (ball:Int->List Int) (cf:List (List Int)):List (List Int):=cf.map fun c=>(movesL ball c).map (placeL cf)
def ballsL (n:Nat) (es:List E):List (List Int):=(List.range n).map fun (x:Nat)=>ballF n es (x:Int)
def ballA (bl:List (List Int)) (x:Int):List Int:=bl.getD x.toNat []
def G_l4Make (d:Gr×Int×Unit):Option (Gm×Unit):=if (grB d.1&&inB 0 3 d.2.1)=true then some ((confL d.1.1.toNat d.2.1.toNat,movesI (ballF d.1.1.toNat d.1.2.1) (confL d.1.1.toNat d.2.1.toNat),ballsL d.1.1.toNat d.1.2.1,()),()) else none
def G_copBoard (d:Nt×Int×Unit):Option (Cg×Unit):=if (netB d.1.1&&inB 0 3 d.2.1)=true then some ((d.1,confL d.1.1.length d.2.1.toNat,movesI (ballM d.1.1) (confL d.1.1.length d.2.1.toNat),[],()),()) else none
def afterG (cf:List (List Int)) (ball:Int->List Int) (T:Tab) (d x:Int):Int:=if hasL (cf.getD d.toNat []) x=true then 0 else worstL (tab2 T d) (ball x) 0
def tabM (m n:Nat) (f:Nat->Nat->Int):Tab:=(List.range m).map fun c=>(List.range n).map fun x=>f c x
def canG (cf mv:List (List Int)) (ball:Int->List Int) (T:Tab) (c x:Nat):Bool:=decide (tab2 T (c:Int) (x:Int)<0)&&(mv.getD c []).any fun d=>decide (0<=afterG cf ball T d (x:Int))
def stepG (cf mv:List (List Int)) (ball:Int->List Int) (n:Nat) (t:Int) (T:Tab):Tab:=tabM cf.length n fun c x=>if canG cf mv ball T c x=true then t else tab2 T (c:Int) (x:Int)
def anyG (cf mv:List (List Int)) (ball:Int->List Int) (n:Nat) (T:Tab):Bool:=(List.range cf.length).any fun c=>(List.range n).any fun x=>canG cf mv ball T c x
def gameT (cf mv:List (List Int)) (ball:Int->List Int) (n:Nat):Nat->Int->Tab->Tab
 | 0,_,T=>T
 | k+1,t,T=>if anyG cf mv ball n T=true then gameT cf mv ball n k (t+1) (stepG cf mv ball n t T) else T
def startG (cf:List (List Int)) (n:Nat):Tab:=tabM cf.length n fun c x=>if hasL (cf.getD c []) (x:Int)=true then 0 else -1
def timesG (cf mv:List (List Int)) (ball:Int->List Int) (n:Nat):Tab:=gameT cf mv ball n 1000 1 (startG cf n)
def gmB (n:Nat) (cf mv:List (List Int)):Bool:=decide (cf.length<=120)&&decide (mv.length=cf.length)&&cf.all (fun c=>decide (c.length<=3)&&c.all (inB 0 ((n:Int)-1)))&&mv.all (fun l=>decide (l.length<=1000)&&l.all (inB 0 ((cf.length:Int)-1)))
def blB (bl:List (List Int)):Bool:=decide (bl.length<=8)&&bl.all (fun b=>decide (b.length<=8)&&b.all (inB 0 ((bl.length:Int)-1)))
def rcB (m n:Nat) (T:Tab):Bool:=decide (T.length=m)&&T.all fun row=>decide (row.length=n)
def G_l4After (d:Gm×Tab×Int×Int×Unit):Option (Int×Unit):=if (gmB d.1.2.2.1.length d.1.1 d.1.2.1&&blB d.1.2.2.1&&rcB d.1.1.length d.1.2.2.1.length d.2.1&&inB 0 ((d.1.1.length:Int)-1) d.2.2.1&&inB 0 ((d.1.2.2.1.length:Int)-1) d.2.2.2.1)=true then some (afterG d.1.1 (ballA d.1.2.2.1) d.2.1 d.2.2.1 d.2.2.2.1,()) else none
def G_l4Times (d:Gm×Unit):Option (Tab×Unit):=if (gmB d.1.2.2.1.length d.1.1 d.1.2.1&&blB d.1.2.2.1)=true then some (timesG d.1.1 d.1.2.1 (ballA d.1.2.2.1) d.1.2.2.1.length,()) else none
def cgB (c:Cg):Bool:=netB c.1.1&&decide (1<=c.1.1.length)&&gmB c.1.1.length c.2.1 c.2.2.1&&rcB c.2.1.length c.1.1.length c.2.2.2.1
def G_gameCan (d:List Int×(Unit×Cg×Int×Unit)×Unit):Option (Int×Unit):=if (cgB d.2.1.2.1&&inB 0 ((d.2.1.2.1.1.1.length:Int)-1) d.2.1.2.2.1&&decide (d.1.length<=1000)&&d.1.all (inB 0 ((d.2.1.2.1.2.1.length:Int)-1)))=true then some (idxI (idxN (fun b=>decide (0<=afterG d.2.1.2.1.2.1 (ballM d.2.1.2.1.1.1) d.2.1.2.1.2.2.2.1 b d.2.1.2.2.1)) d.1 0),()) else none
def G_copGame (d:Nt×Int×Unit):Option (Cg×Unit):=if (netB d.1.1&&decide (1<=d.1.1.length)&&inB 0 3 d.2.1)=true then some ((d.1,confL d.1.1.length d.2.1.toNat,movesI (ballM d.1.1) (confL d.1.1.length d.2.1.toNat),timesG (confL d.1.1.length d.2.1.toNat) (movesI (ballM d.1.1) (confL d.1.1.length d.2.1.toNat)) (ballM d.1.1) d.1.1.length,()),()) else none
def cfG (g:Gr) (k:Nat):List (List Int):=confL g.1.toNat k
def mvG (g:Gr) (k:Nat):List (List Int):=movesI (ballF g.1.toNat g.2.1) (cfG g k)
def tmG (g:Gr) (k:Nat):Tab:=timesG (cfG g k) (mvG g k) (ballF g.1.toNat g.2.1) g.1.toNat
def fieldB (g:Gr) (k:Int):Bool:=graphB g&&decide (g.1>0)&&inB 1 3 k
def worstR (row:List Int):Int:=worstL (fun z=>z) row 0
def bestRow:List (List Int)->Int->Int->Int->Int×Int
 | [],_,b,l=>(b,l)
 | r::rs,i,b,l=>if 0<=worstR r/\(b<0\/worstR r<l) then bestRow rs (i+1) i (worstR r) else bestRow rs (i+1) b l
def bestOut (cf:List (List Int)) (o:Int×Int):List Int×Int×Bool×Unit:=if o.1<0 then ([],0,false,()) else (cf.getD o.1.toNat [],o.2,true,())
def lowB (T:Tab):Bool:=T.all fun row=>row.all fun v=>decide (-1<=v)
def G_copBest (d:Cg×Unit):Option (List Int×Int×Bool×Unit):=if (cgB d.1&&lowB d.1.2.2.2.1)=true then some (bestOut d.1.2.1 (bestRow d.1.2.2.2.1 0 (-1) 0)) else none
def bestCB (g:Gr) (k:Int):List Int×Int×Bool×Unit:=if fieldB g k=true then bestOut (cfG g k.toNat) (bestRow (tmG g k.toNat) 0 (-1) 0) else ([],0,false,())
def G_specBest (d:Gr×Int×Unit):Option (List Int×Int×Bool×Unit):=if okL d.1.2.1=true then some (bestCB d.1 d.2.1) else none
end Go.V.W
namespace Go.V.W
def winB (T:Tab):Bool:=T.any fun r=>decide (0<=worstR r)
def canO (g:Gr) (k:Int):Bool×Bool×Unit:=if fieldB g k=true then (winB (tmG g k.toNat),true,()) else (false,false,())
end Go.V.W
namespace Go.V.W
def G_l4Wins (d:Gr×Int×Unit):Option (Bool×Unit):=if (graphB d.1&&okL d.1.2.1&&inB 0 3 d.2.1)=true then some (winB (tmG d.1 d.2.1.toNat),()) else none
def G_rInts (d:List Int×List Int×Unit):Option (Bool×Unit):=if okL d.1=true then some (decide (d.1=d.2.1),()) else none
def G_law (d:List Int×Unit):Option (Bool×Unit):=if (d.1.all (inB 0 255)&&decide (d.1.length<=maxLen))=true then some (true,()) else none
def P_path (d:Int×Unit) (r:Gr×Unit):Prop:=r.1.2.1.length<=100
def P_someG (d:Cur×Int×Unit) (r:Gr×Cur×Unit):Prop:=Adv 300 d.1 r.2.1/\r.1.2.1.length<=200
end Go.V.W
namespace Go.V.W
abbrev St:=Int×List Int×Int×Unit
end Go.V.W
namespace Go.V.W
open Go.Proofs
def copT (ball:Int->List Int) (T:Tab) (c r:Int):Int:=firstL (chaseP ball T c r) (ball c) c
def robT (ball:Int->List Int) (T:Tab) (b r:Int):Int:=if b=r then r else fleeL (tab2 T b) (ball r) ((ball r).headD 0)
def oneT (g:Gr):Tab:=timesT g.1.toNat (ballF g.1.toNat g.2.1)
def oneOut (o:Int×Int):Int×Int×Bool×Unit:=if o.1<0 then (0,0,false,()) else (o.1,o.2,true,())
def capOne (g:Gr):Int×Int×Bool×Unit:=if graphB g=true then oneOut (bestRow (oneT g) 0 (-1) 0) else (0,0,false,())
end Go.V.W
namespace Go.V.W
def frM (ms:List Nat) (m x:Nat):Bool:=m.testBit x&&(List.range 8).any fun y=>(ms.getD x 0).testBit y && !m.testBit y
def frN (ms:List Nat) (m:Nat):Nat:=maskN (setF (frM ms m) 8 0)
def G_netFront (d:Nt×Int×Unit):Option (Int×Unit):=if (netB d.1.1&&decide (0<=d.2.1)&&decide (d.2.1<((2 ^ d.1.1.length:Nat):Int)))=true then some (((frN (fromI d.1.1) d.2.1.toNat:Nat):Int),()) else none
def szM (ms:List Nat) (m:Nat):Int:=((setF (frM ms m) 8 0).length:Int)
def minF (f:Nat->Int):List Nat->Int
 | []=>0
 | x::l=>l.foldl (fun b y=>if f y<b then f y else b) (f x)
def bOr (n:Nat) (sz:Nat->Int):Nat->Nat->Int
 | 0,_=>0
 | k+1,m=>minF (fun x=>if sz (m+2 ^ x)<bOr n sz k (m+2 ^ x) then bOr n sz k (m+2 ^ x) else sz (m+2 ^ x)) ((List.range n).filter fun x => !m.testBit x)
def G_bestO (d:Nt×Int×((Nt×Unit)×Unit)×Unit):Option (List Int×Unit):=
 if (netB d.1.1&&decide (d.2.1=0)&&decide (d.2.2.1.1.1.1=d.1.1))=true then some ((List.range (2 ^ d.1.1.length)).map (bOr d.1.1.length (szM (fromI d.1.1)) 8),()) else none
def frP (n:Nat) (es:List E) (p:Nat->Bool) (x:Nat):Bool:=p x&&(List.range n).any fun y=>nearI es (x:Int) (y:Int) && !p y
def G_l6Front (d:Gr×List Int×Unit):Option (List Int×Unit):=
 if (grB d.1&&decide (d.2.1=setF (fun y=>hasL d.2.1 (y:Int)) d.1.1.toNat 0))=true then some (setF (frP d.1.1.toNat d.1.2.1 fun y=>hasL d.2.1 (y:Int)) d.1.1.toNat 0,()) else none
def szP (n:Nat) (es:List E) (m:Nat):Int:=((setF (frP n es m.testBit) n 0).length:Int)
def wOr (n:Nat) (sz:Nat->Int):Nat->Nat->Int
 | 0,_=>0
 | k+1,m=>if m=0 then 0 else (if minF (fun x=>wOr n sz k (m-2 ^ x)) ((List.range n).filter fun x=>m.testBit x)<sz m then sz m else minF (fun x=>wOr n sz k (m-2 ^ x)) ((List.range n).filter fun x=>m.testBit x))
def G_widths (d:Gr×Unit):Option (List Int×Unit):=if grB d.1=true then some ((List.range (2 ^ d.1.1.toNat)).map (wOr d.1.1.toNat (szP d.1.1.toNat d.1.2.1) 8),()) else none
def reachF (ms:List Nat) (s:Nat):Nat->Nat->Nat
 | 0,p=>p
 | k+1,p=>if arN ms p ms.length 0 p&&&s=p then p else reachF ms s k (arN ms p ms.length 0 p&&&s)
def lowN2 (s:Nat):Nat:=2 ^ firstF s.testBit 8 0
def partsF (ms:List Nat):Nat->Nat->List Nat
 | 0,_=>[]
 | k+1,s=>if s=0 then [] else reachF ms s 9 (lowN2 s)::partsF ms k (andN s (reachF ms s 9 (lowN2 s)))
def G_parts (d:Nt×Int×Unit):Option (List Int×Unit):=if (netB d.1.1&&decide (0<=d.2.1)&&decide (d.2.1<((2 ^ d.1.1.length:Nat):Int)))=true then some (toI (partsF (fromI d.1.1) 9 d.2.1.toNat),()) else none
def cnB (g:Gr):Int×Bool×Unit:=
 if fieldB g 1=true then (if winB (tmG g 1)=true then (1,true,()) else if winB (tmG g 2)=true then (2,true,()) else if winB (tmG g 3)=true then (3,true,()) else (0,false,())) else (0,false,())
def G_copNum (d:Gr×Unit):Option (Int×Bool×Unit):=if okL d.1.2.1=true then some (cnB d.1) else none
end Go.V.W
