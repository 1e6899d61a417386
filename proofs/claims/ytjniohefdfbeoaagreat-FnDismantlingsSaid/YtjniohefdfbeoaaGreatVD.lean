/- What the law FnDismantlings leans on, part 4: an interpreter of the model as plain data, its soundness, the functions as it tells them, and their laws. -/
import Derived.ChangeOld
import Derived.Below
import Derived.Carry
import Derived.OpenShut
import Derived.SizedLaws
import Derived.Shelf.Vars
import Derived.IntWalk
import Derived.Lib.IndexAny
import Derived.Lib.ItoaNum
import Derived.Lib.IndexMore
import Derived.Shelf.SlSortCmp.Kit1
import Derived.WalkKit
import Derived.LoopN
import Derived.Test.YtjniohefdfbeoaaGreatProg
import Derived.Shelf.RegionOpenPlain
import Derived.Deep.LoopGhost
import Derived.Deep.Draws
import Derived.Lib.Walk
import Derived.Sort.WalkB12
import Derived.Shelf.Lays
import Derived.Sort.Row
import Derived.Lib.SliceRun
import Derived.Lib.SlicesS
import Derived.Lib.SlicesCompact
import Derived.Test.YtjniohefdfbeoaaGreatVC
set_option linter.unusedVariables false
set_option linter.unusedSimpArgs false
set_option maxRecDepth 100000
noncomputable section
namespace Go.V
def WfD:(k:Kd)->k.den->Prop
 | .int ik,n=>(Lit.int ik n).wf=true
 | .bool,_=>True
 | .str,s=>s.size<=maxLen
 | .slice e,l | .ssl e,l=>List.length l<=maxLen /\ ∀x∈(l:List e.den),WfD e x
 | .unit,_=>True
 | .pair a b,d=>WfD a d.1/\WfD b d.2
 | .bx _,_ | .clo ..,_=>True
theorem Ys {β:Type} {f:Nat->Option β}:∀{n s:Nat} {l:List β},(List.range' s n).mapM f=some l->l.length=n /\ ∀i,i<n -> ∃y,l[i]? = some y/\f (s+i)=some y:=by
 intro n
 induction n with
 | zero=>intro s l h;simp at h;subst h;exact ⟨rfl,fun i hi=>by omega⟩
 | succ n ih=>
  intro s l h
  rw [List.range'_succ,List.mapM_cons] at h
  cases h1:f s with
  | none=>rw [h1] at h;simp at h
  | some y=>
   rw [h1] at h
   cases h2:(List.range' (s+1) n).mapM f with
   | none=>rw [h2] at h;simp at h
   | some ys=>
    rw [h2] at h
    simp at h
    subst h
    obtain ⟨e1,e2⟩:=ih h2
    refine ⟨by simp [e1],fun i hi => ?_⟩
    cases i with
    | zero=>exact ⟨y,rfl,h1⟩
    | succ i=>
     obtain ⟨z,z1,z2⟩:=e2 i (by omega)
     exact ⟨z,by simpa using z1,by rw [show s+(i+1)=s+1+i by omega];exact z2⟩
theorem Abe {β:Type} {f:Nat->Option β} {n:Nat} {l:List β} (h:(List.range n).mapM f=some l):l.length=n /\ ∀i,i<n -> ∃y,l[i]? = some y/\f i=some y:=by
 rw [List.range_eq_range'] at h
 obtain ⟨h1,h2⟩:=Ys h
 exact ⟨h1,fun i hi=>by simpa using h2 i hi⟩
theorem X2 {w:World} {b o:Nat} {v:Value} (h:w.cell? ⟨b,o,none⟩=some v):∃cs T fr,w.heap[b]? = some (.cells cs T fr)/\cs[o]? = some v:=by
 unfold World.cell? at h
 split at h
 ·rename_i c T fr hb
  exact ⟨c,T,fr,hb,by simpa using h⟩
 ·cases h
theorem TH {w:World} {b o n:Nat} {cs:List Value} (h:w.cells? 0 ⟨b,o,none⟩ n=some cs) (hn:0<n):Be w b (o+n)/\Ai w b o n=cs:=by
 obtain ⟨_,hl,hc⟩:=World.cells?_some h
 have hlast:=hc (n-1) (by omega)
 rw [Er] at hlast
 have hl1:n-1<cs.length:=by omega
 rw [ACz hl1] at hlast
 obtain ⟨c,T,fr,hb,hv⟩:=X2 hlast
 have hlt:=(Array.getElem?_eq_some_iff.1 hv).1
 have hok:Be w b (o+n):=⟨c,T,fr,hb,by omega⟩
 refine ⟨hok,?_⟩
 apply List.ext_getElem?
 intro j
 by_cases hj:j<n
 ·have h1:=hc j hj
  rw [Er] at h1
  have hlen:=Do hok
  have hv2:∃v,(Ai w b o n)[j]? = some v:=⟨_,ACz (by omega)⟩
  obtain ⟨v,hv2⟩:=hv2
  have h3:=DI hok j v hv2
  rw [Er,h1] at h3
  rw [hv2,h3]
 ·rw [List.getElem?_eq_none (by rw [Do hok];omega),List.getElem?_eq_none (by omega)]
section
variable {H:Type} {enc:TypeId×Value->H} {P:Program} {tk:TypeId->Option Kd} {ar:TypeId->Option TypeId} {w:World} {held:Bool}
theorem Ez (hT:BZ P tk ar) {t:TypeId} {k:Kd} (ht:tk t=some k):P.cellsOf t=k.size:=by
 obtain ⟨i,z,hr⟩:=CB hT ht
 simp [Program.cellsOf,hr.info,hr.size]
theorem Akd {e:Kd} {f:Nat->List Value} {n:Nat} {R:List Value->e.den->Prop} (h:∀i,i<n -> ∃x,R (f i) x):∃l:List e.den,l.length=n /\ ∀i (hi:i<l.length),R (f i) (l.get ⟨i,hi⟩):=by
 induction n with
 | zero=>exact ⟨[],rfl,fun i hi=>by simp at hi⟩
 | succ n ih=>
  obtain ⟨l,h1,h2⟩:=ih fun i hi=>h i (by omega)
  obtain ⟨x,hx⟩:=h n (by omega)
  refine ⟨l++[x],by simp [h1],fun i hi => ?_⟩
  rw [List.length_append,List.length_singleton] at hi
  by_cases hl:i<l.length
  ·have:=h2 i hl
   simpa [List.getElem_append_left hl] using this
  ·have:i=n:=by omega
   subst this
   simpa [List.getElem_append_right (show l.length<=i by omega),h1] using hx
theorem YC {t e:TypeId} {n fuel:Nat} {cs:List Value} {x:DataW H×List MemPlace} {spare:Nat->Bool} {base:Nat} (ht:P.underlying t=some (.array n e)) (h:DataW.trod enc P w base spare held fuel t cs=some x) :
  ∃m,fuel=m+1/\cs.length=P.cellsOf t /\ ∀i,i<n -> ∃y,DataW.trod enc P w base spare held m e ((cs.drop (i*P.cellsOf e)).take (P.cellsOf e))=some y:=by
 cases fuel with
 | zero=>simp [DataW.trod] at h
 | succ m=>
  unfold DataW.trod at h
  rw [ht] at h
  split at h<;>simp_all
  obtain ⟨_,xs,hp,_⟩:=h
  intro i hi
  obtain ⟨y,_,h2⟩:=(Abe hp).2 i hi
  exact ⟨y.1,y.2,h2⟩
theorem Afi (hT:BZ P tk ar):∀(k:Kd),k.nossl=true ->
  (∀(t:TypeId) (fuel:Nat) (cs:List Value) (x:DataW H×List MemPlace) (q:Ah),tk t=some k->DataW.trod enc P w 0 (fun _=>true) held fuel t cs=some x -> ∃d:k.den,Rep w (fun _ _=>True) k q cs d/\WfD k d) /\
  (∀(fs:List Field) (off fuel:Nat) (cs:List Value) (q:Ah),AT P tk fs off k=true->(∀f∈fs,∃x,DataW.trod enc P w 0 (fun _=>true) held fuel f.type ((cs.drop f.offset).take (P.cellsOf f.type))=some x) ->
   ∃d:k.den,Rep w (fun _ _=>True) k q ((cs.drop off).take k.size) d/\WfD k d) /\
  (∀(n j fuel:Nat) (e:TypeId) (cs:List Value) (q:Ah),Bo tk e n k=true->(∀i,i<n -> ∃x,DataW.trod enc P w 0 (fun _=>true) held fuel e ((cs.drop ((j+i)*P.cellsOf e)).take (P.cellsOf e))=some x) ->
   ∃d:k.den,Rep w (fun _ _=>True) k q ((cs.drop (j*P.cellsOf e)).take k.size) d/\WfD k d):=by
 intro k
 induction k with
 | ssl e ih=>intro hn;simp [Kd.nossl] at hn
 | bx k ih=>exact fun _=>⟨fun t fuel cs x q ht h=>absurd (Ch hT ht) (by simp [Kd.pure]),fun fs off fuel cs q h=>by cases fs<;>simp [AT] at h,fun n j fuel e cs q h=>by cases n<;>simp [Bo] at h⟩
 | clo f a b iha ihb=>exact fun _=>⟨fun t fuel cs x q ht h=>absurd (Ch hT ht) (by simp [Kd.pure]),fun fs off fuel cs q h=>by cases fs<;>simp [AT] at h,fun n j fuel e cs q h=>by cases n<;>simp [Bo] at h⟩
 | int ik=>
  intro hn
  refine ⟨fun t fuel cs x q ht h => ?_,fun fs off fuel cs q h => ?_,fun n j fuel e cs q h => ?_⟩
  ·obtain ⟨n,h1,_,h2⟩:=DataW.trod_int (Dz hT ht) h
   exact ⟨n,h1,h2⟩
  ·cases fs<;>simp [AT] at h
  ·cases n<;>simp [Bo] at h
 | bool=>
  intro hn
  refine ⟨fun t fuel cs x q ht h => ?_,fun fs off fuel cs q h => ?_,fun n j fuel e cs q h => ?_⟩
  ·obtain ⟨b,h1,_⟩:=DataW.trod_bool (GB hT ht) h
   exact ⟨b,h1,trivial⟩
  ·cases fs<;>simp [AT] at h
  ·cases n<;>simp [Bo] at h
 | str=>
  intro hn
  refine ⟨fun t fuel cs x q ht h => ?_,fun fs off fuel cs q h => ?_,fun n j fuel e cs q h => ?_⟩
  ·obtain ⟨b,h1,_,h2⟩:=DataW.trod_string (CI hT ht) h
   exact ⟨b,h1,h2⟩
  ·cases fs<;>simp [AT] at h
  ·cases n<;>simp [Bo] at h
 | slice e ih=>
  intro hn
  have ih:=ih hn
  refine ⟨fun t fuel cs x q ht h => ?_,fun fs off fuel cs q h => ?_,fun n j fuel e cs q h => ?_⟩
  ·obtain ⟨te,hu,he,hpos⟩:=Bd hT ht
   have hce:=Ez hT he
   rcases DataW.trod_slice hu h with ⟨h1,_⟩ | ⟨a,len,cap,elems,rest,n,_,h1,_,_,hlc,hcm,hel,helems,hrest,_⟩
   ·exact ⟨[],by simp only [Rep];exact .inl ⟨⟨none,h1⟩,trivial⟩,Nat.zero_le _,fun x hx=>by cases hx⟩
   ·rw [hce] at helems hrest
    obtain ⟨hrl,hrest⟩:=hrest rfl
    -- each Ee is there
    have hall:∀i,i<cap -> ∃c y,w.cells? 0 (a.add (i*e.size)) e.size=some c/\DataW.trod enc P w 0 (fun _=>true) held n te c=some y:=by
     intro i hi
     by_cases hl:i<len
     ·have:=helems i hl
      rw [ACz (by omega)] at this
      obtain ⟨c,c1,c2⟩:=ACq.1 this
      exact ⟨c,_,c1,c2⟩
     ·obtain ⟨j,rfl⟩:∃j,i=len+j:=⟨i-len,by omega⟩
      have:=hrest j (by omega)
      rw [ACz (by omega)] at this
      obtain ⟨c,c1,c2⟩:=ACq.1 this
      exact ⟨c,_,c1,c2⟩
    by_cases hc0:cap=0
    ·have hl0:len=0:=by omega
     subst hc0 hl0
     exact ⟨[],by simp only [Rep];exact .inl ⟨⟨some a,h1⟩,trivial⟩,Nat.zero_le _,fun x hx=>by cases hx⟩
    ·have hspot:a.spot=none:=by
      obtain ⟨c,y,c1,_⟩:=hall 0 (by omega)
      obtain ⟨_,hl,hcell⟩:=World.cells?_some c1
      have h0:=hcell 0 hpos
      rw [ACz (by omega)] at h0
      have:=World.cell?_spot h0
      simpa [Addr.add] using this
     obtain ⟨b,off,spot⟩:=a
     simp only at hspot
     subst hspot
     simp only [Er] at hall
     have hblk:Be w b (off+cap*e.size):=by
      obtain ⟨c,y,c1,_⟩:=hall (cap-1) (by omega)
      have:=(TH c1 hpos).1
      have e2:off+(cap-1)*e.size+e.size=off+cap*e.size:=by
       rw [Nat.sub_mul,Nat.one_mul]
       have:e.size<=cap*e.size:=Nat.le_mul_of_pos_left _ (by omega)
       omega
      rw [e2] at this
      exact this
     obtain ⟨l,l1,l2⟩:=Akd (e:=e) (n:=len) (f:=fun i=>Ai w b (off+i*e.size) e.size) (R:=fun c x=>(∀q,Rep w (fun _ _=>True) e q c x)/\WfD e x) (fun i hi=>by
      obtain ⟨c,y,c1,c2⟩:=hall i (by omega)
      obtain ⟨d,d1,d2⟩:=ih.1 te n c y [] he c2
      refine ⟨d,fun q => ?_,d2⟩
      rw [(TH c1 hpos).2]
      exact d1.move fun _ _ _ _=>trivial)
     refine ⟨l,?_,by omega,fun x hx => ?_⟩
     ·simp only [Rep]
      refine .inr ⟨b,off,cap,by rw [h1,l1],by omega,trivial,hblk,fun i hi=>(l2 i hi).1 _⟩
     ·obtain ⟨i,hi,rfl⟩:=List.getElem_of_mem hx
      exact (l2 i hi).2
  ·cases fs<;>simp [AT] at h
  ·cases n<;>simp [Bo] at h
 | unit=>
  intro hn
  refine ⟨fun t fuel cs x q ht h => ?_,fun fs off fuel cs q h _=>⟨(),by simp [Rep,Kd.size],trivial⟩,fun n j fuel e cs q h _=>⟨(),by simp [Rep,Kd.size],trivial⟩⟩
  have hcs:cs.length=0:=by
   rcases BE hT ht rfl with ⟨fs,u1,_,_⟩ | ⟨n,e,u1,_,_⟩
   ·obtain ⟨_,_,_,_,hl,_⟩:=DataW.trod_struct u1 h
    rw [hl,Ez hT ht];rfl
   ·obtain ⟨_,_,hl,_⟩:=YC u1 h
    rw [hl,Ez hT ht];rfl
  exact ⟨(),by simp only [Rep];exact List.length_eq_zero_iff.1 hcs,trivial⟩
 | pair a b iha ihb=>
  intro hn
  obtain ⟨hna,hnb⟩:a.nossl=true/\b.nossl=true:=by simpa [Kd.nossl] using hn
  have iha:=iha hna
  have ihb:=ihb hnb
  have partB:∀(fs:List Field) (off fuel:Nat) (cs:List Value) (q:Ah),AT P tk fs off (.pair a b)=true->(∀f∈fs,∃x,DataW.trod enc P w 0 (fun _=>true) held fuel f.type ((cs.drop f.offset).take (P.cellsOf f.type))=some x) ->
    ∃d:(Kd.pair a b).den,Rep w (fun _ _=>True) (.pair a b) q ((cs.drop off).take (Kd.pair a b).size) d/\WfD (.pair a b) d:=by
   intro fs off fuel cs q h hall
   cases fs with
   | nil=>simp [AT] at h
   | cons f fs=>
    simp only [AT,ACo,decide_eq_true_eq] at h
    obtain ⟨⟨⟨h1,h2⟩,_⟩,h4⟩:=h
    have h2:tk f.type=some a:=by
     simp only [Bool.or_eq_true,decide_eq_true_eq,Kd.bare_of_nossl hna] at h2
     exact h2.elim _root_.id _root_.id
    have h1:=ACt h1
    obtain ⟨x,hx⟩:=hall f (by simp)
    rw [Ez hT h2,h1] at hx
    obtain ⟨d1,r1,w1⟩:=iha.1 f.type fuel _ x (q++[.l]) h2 hx
    obtain ⟨d2,r2,w2⟩:=ihb.2.1 fs (off+a.size) fuel cs (q++[.r]) h4 (fun g hg=>hall g (by simp [hg]))
    refine ⟨(d1,d2),?_,w1,w2⟩
    simp only [Rep,Kd.size]
    rw [List.take_take,Nat.min_eq_left (by omega),List.drop_take,List.drop_drop,show a.size+b.size-a.size=b.size by omega]
    exact ⟨r1,r2⟩
  have partC:∀(n j fuel:Nat) (e:TypeId) (cs:List Value) (q:Ah),Bo tk e n (.pair a b)=true->(∀i,i<n -> ∃x,DataW.trod enc P w 0 (fun _=>true) held fuel e ((cs.drop ((j+i)*P.cellsOf e)).take (P.cellsOf e))=some x) ->
    ∃d:(Kd.pair a b).den,Rep w (fun _ _=>True) (.pair a b) q ((cs.drop (j*P.cellsOf e)).take (Kd.pair a b).size) d/\WfD (.pair a b) d:=by
   intro n j fuel e cs q h hall
   cases n with
   | zero=>simp [Bo] at h
   | succ n=>
    simp only [Bo,ACo,decide_eq_true_eq] at h
    obtain ⟨h2,h4⟩:=h
    have hce:=Ez hT h2
    obtain ⟨x,hx⟩:=hall 0 (by omega)
    rw [Nat.add_zero] at hx
    rw [hce] at hx
    obtain ⟨d1,r1,w1⟩:=iha.1 e fuel _ x (q++[.l]) h2 hx
    obtain ⟨d2,r2,w2⟩:=ihb.2.2 n (j+1) fuel e cs (q++[.r]) h4 (fun i hi=>by
     have:=hall (i+1) (by omega)
     rw [show j+(i+1)=j+1+i by omega] at this
     exact this)
    refine ⟨(d1,d2),?_,w1,w2⟩
    simp only [Rep,Kd.size]
    rw [hce] at r2 |-
    rw [Nat.add_mul,Nat.one_mul] at r2
    rw [List.take_take,Nat.min_eq_left (by omega),List.drop_take,List.drop_drop,show a.size+b.size-a.size=b.size by omega]
    exact ⟨r1,r2⟩
  refine ⟨fun t fuel cs x q ht h => ?_,partB,partC⟩
  have hsz:=Ez hT ht
  rcases BE hT ht rfl with ⟨fs,u1,_,u3⟩ | ⟨n,e,u1,_,u3⟩
  ·obtain ⟨xs,m,_,_,hl,hxl,hf⟩:=DataW.trod_struct u1 h
   have:=partB fs.toList 0 m cs q u3 (fun f hf'=>by
    obtain ⟨i,hi,rfl⟩:=List.getElem_of_mem hf'
    have hi':i<fs.size:=by simpa using hi
    have h2:=hf i fs[i] (by simp [hi'])
    rw [ACz (by omega)] at h2
    exact ⟨_,by simpa using h2⟩)
   rw [List.drop_zero,List.take_of_length_le (by omega)] at this
   exact this
  ·obtain ⟨m,_,hl,hf⟩:=YC u1 h
   have:=partC n 0 m e cs q u3 (fun i hi=>by rw [Nat.zero_add];exact hf i hi)
   rw [Nat.zero_mul,List.drop_zero,List.take_of_length_le (by omega)] at this
   exact this
theorem Aqi (hT:BZ P tk ar) {t:TypeId} {k:Kd} (hns:k.nossl=true) (ht:tk t=some k) {r:Reach} {base:Nat} {v:Value} {d:DataW H} {ps:List MemPlace} (hv:Value.okWide P w r base t v) (h:DataW.Trod enc P w 0 (fun _=>true) held t v d ps) :
  ∃c x,v=Am k c/\Rep w (fun _ _=>True) k [] c x/\WfD k x:=by
 obtain ⟨fuel,hf⟩:=h
 obtain ⟨x,h1,h2⟩:=(Afi hT k hns).1 t fuel _ _ [] ht hf
 refine ⟨v.cells.toList,x,?_,h1,h2⟩
 have hc:=BW h1
 have hagg:Fo v=k.agg:=by
  cases k with
  | bx k=>exact absurd (Ch hT ht) (by simp [Kd.pure])
  | clo f a b=>exact absurd (Ch hT ht) (by simp [Kd.pure])
  | ssl e=>simp [Kd.nossl] at hns
  | int ik=>
   simp only [Rep] at h1
   obtain ⟨n,rfl⟩:=Go.WideShapes.okWide_int (Dz hT ht) hv
   rfl
  | bool=>
   have hu:=GB hT ht
   simp only [Value.okWide,hu,Cell.okWide] at hv
   cases v<;>simp_all [Cell.ok,Fo,Kd.agg]
  | str=>
   obtain ⟨s,rfl⟩:=Go.WideShapes.okWide_string (CI hT ht) hv
   rfl
  | slice e=>
   obtain ⟨te,hu,_,_⟩:=Bd hT ht
   obtain ⟨a,len,cap,rfl⟩:=Go.WideShapes.okWide_slice hu hv
   rfl
  | unit=>
   rcases BE hT ht rfl with ⟨fs,u1,_,_⟩ | ⟨n,e,u1,_,_⟩ <;>
   ·simp only [Value.okWide,u1] at hv
    obtain ⟨cs,rfl,_⟩:=hv
    rfl
  | pair a b=>
   rcases BE hT ht rfl with ⟨fs,u1,_,_⟩ | ⟨n,e,u1,_,_⟩ <;>
   ·simp only [Value.okWide,u1] at hv
    obtain ⟨cs,rfl,_⟩:=hv
    rfl
 unfold Am
 rw [<- hagg]
 cases v with
 | agg cs=>simp [Fo,Value.cells]
 | _=>simp [Fo,Value.cells]
theorem Ar5 (hT:BZ P tk ar) {r:Reach} {base:Nat}:∀{ts:List TypeId} {ps:List (Kd×Bool)} {vs:List Value} {ds:List (DataW H)} {pl:List MemPlace} (i:Nat),ts.map tk=ps.map (fun p=>some p.1)->(∀p∈ps,p.2=false/\p.1.nossl=true) ->
  (∀(j:Nat) t v,ts[j]? = some t->vs[j]? = some v->Value.okWide P w r base t v)->DataW.TrodAll enc P w 0 (fun _=>true) held ts vs ds pl ->
  ∃x,GD md0 w (fun _=>none) (fun _=>True) i ps vs x/\WfD (Kd.tuple (ps.map (·.1))) x:=by
 intro ts
 induction ts with
 | nil=>
  intro ps vs ds pl i hm hps hv h
  cases ps with
  | nil=>
   obtain ⟨rfl,_,_⟩:=Go.ChangeShapes.trodAll_nil h
   exact ⟨(),rfl,trivial⟩
  | cons p ps=>simp at hm
 | cons t ts ih=>
  intro ps vs ds pl i hm hps hv h
  cases ps with
  | nil=>simp at hm
  | cons p ps=>
   obtain ⟨k,io⟩:=p
   obtain ⟨hio,hns⟩:io=false/\k.nossl=true:=hps (k,io) (by simp)
   subst hio
   simp only [List.map_cons,List.cons.injEq] at hm
   obtain ⟨v,vs',d,ds',p1,q1,rfl,rfl,rfl,h1,h2⟩:=Go.ChangeShapes.trodAll_cons h
   obtain ⟨c,x,e1,e2,e3⟩:=Aqi hT hns hm.1 (hv 0 t v rfl rfl) h1
   obtain ⟨y,f1,f2⟩:=ih (i+1) hm.2 (fun p hp=>hps p (by simp [hp])) (fun j t v hj hw=>hv (j+1) t v (by simpa using hj) (by simpa using hw)) h2
   exact ⟨(x,y),⟨c,vs',by rw [e1],e2,f1⟩,e3,f2⟩
theorem Amw {W W':World} (hl:laidOutB P=true) (hb:Go.RowKit.Below W.heap.size W W'):∀{ts:List TypeId} {vs:List Value} {ds:List (DataW H)} {pl:List MemPlace},(∀t∈ts,P.readableRec t=true/\t<P.types.size) ->
  DataW.TrodAll enc P W 0 (fun _=>true) true ts vs ds pl -> ∃pl',DataW.TrodAll enc P W' 0 (fun b=>decide (b<W.heap.size)) true ts vs ds pl':=by
 intro ts
 induction ts with
 | nil=>
  intro vs ds pl _ h
  obtain ⟨rfl,rfl,_⟩:=Go.ChangeShapes.trodAll_nil h
  exact ⟨[],rfl⟩
 | cons t ts ih=>
  intro vs ds pl hr h
  obtain ⟨v,vs',d,ds',p1,q1,rfl,rfl,rfl,h1,h2⟩:=Go.ChangeShapes.trodAll_cons h
  obtain ⟨pl',h3⟩:=ih (fun t ht=>hr t (by simp [ht])) h2
  have hlt:∀x∈p1,x.block<W.heap.size:=by
   obtain ⟨m,hm⟩:=h1
   exact DataW.trod_lt m _ _ _ hm
  exact ⟨p1++pl',p1,pl',Go.RowKit.Below.trod hl (hr t (by simp)).1 (hr t (by simp)).2 h1 hb hlt,h3,rfl⟩
theorem gl_none {P:Program} {W:World} {ψ:Nat->Option (Nat×Ah)} (h:glv P=none) (h2:Az0 P=none):Gl P W ψ:=fun b hb=>by rcases hb with hb | hb<;>simp_all
theorem law_calls (hT : BZ P tk ar) (hl : laidOutB P = true) {f : FuncId} {fn : Func} (hf : P.funcs[f]? = some fn) (hbody : fn.body.isSome = true) (hname : (fn.name == "runtime.NumGoroutine") = false) {s : ChangeSpec} (hvars : s.vars = [])
  {rt:TypeId} (hres:fn.resultTypes = #[rt]) (hrt:P.underlying rt=some .bool) {ps:List (Kd×Bool)} (hps:∀p∈ps,p.2=false) (hts:fn.params.toList.map tk=ps.map (fun p=>some p.1)) (hread:fn.params.toList.all (fun t=>P.readableRec t&&decide (t<P.types.size))=true)
  (hspec:∀ds:List (DataW H),ds.length=ps.length->s.fn H ds={ results:=[.lit (.bool true)],args:=ds })
  {own:Bool} {F:(Kd.tuple (ps.map (·.1))).den->Option (Kd.tuple ([.bool]++(ps.filter (·.2)).map (·.1))).den} (con:Aa P f ⟨ps,[.bool],own,F⟩) (hF:∀d,WfD (Kd.tuple (ps.map (·.1))) d -> ∃out,F d=some out/\(EV [.bool] _ out).1.1=true)
  {W:World} {base:Nat} {args:Array Value} {ds gs:List (DataW H)} {before:List MemPlace} (hgl:Gl P W (fun _=>none)) (hval:∀(j:Nat) t v,fn.params[j]? = some t->args[j]? = some v->Value.okWide P W .any base t v) (hW:DataW.Whole enc P fn.params.toList s.vars false W args.toList ds gs before)
  (hns:(ps.all fun p=>p.1.nossl)=true:=by rfl) :
  Calls P f args W fun e W' => ∃v,e=.returned v/\s.post enc P fn false true false false W args v W':=by
 have hW':=hW
 obtain ⟨p,q,hA,hV,rfl,hfz,hnd⟩:=hW
 rw [hvars] at hV
 obtain ⟨rfl,rfl⟩:=Go.ChangeShapes.trodVars_none hV
 obtain ⟨x,hargs,hwf⟩:=Ar5 hT 0 hts (fun p hp=>⟨hps p hp,List.all_eq_true.1 hns p hp⟩) (fun j t v hj hv=>hval j t v (by simpa using hj) (by simpa using hv)) hA
 obtain ⟨out,ho,htrue⟩:=hF x hwf
 have hc:=con W (fun _=>none) (fun _=>True) args.toList x out hargs (fun _ _=>rfl) (fun b z h=>by cases h) hgl ho
 have hcall:(callFunc f args).run P W=.ok (.enter f args) W:=by
  simp only [beq_eq_false_iff_ne,ne_eq] at hname
  cases hb:fn.body with
  | none=>rw [hb] at hbody;cases hbody
  | some c=>simp [callFunc,hf,hname,hb]
 unfold BJ at hc
 simp only [Array.toArray_toList] at hc
 rw [hcall] at hc
 refine Calls.mono hc fun e W' he => ?_
 cases e with
 | panicked chain=>exact he.elim
 | outgrown=>exact he.elim
 | returned v=>
  obtain ⟨χ,hp⟩:=he
  refine ⟨v,rfl,?_⟩
  have bel:Go.RowKit.Below W.heap.size W W':=⟨hp.os,hp.tape,hp.output,hp.size,fun k hk=>hp.kept k hk rfl⟩
  have hvt:v=.bool true:=by
   obtain ⟨c,h1,h2⟩:=hp.res
   have h1:v=Am .bool (c.take 1):=h1
   simp only [Kd.tuple,Rep] at h2
   have h3:c.take 1=[.bool true]:=by have:=h2.1;rw [htrue] at this;exact this
   rw [h1,h3]
   rfl
  subst hvt
  have hlen:ds.length=ps.length:=by
   have key:∀(ts:List TypeId) (vs:List Value) (ds:List (DataW H)) (pl:List MemPlace),DataW.TrodAll enc P W 0 (fun _=>true) true ts vs ds pl->ds.length=ts.length:=by
    intro ts
    induction ts with
    | nil=>intro vs ds pl h;obtain ⟨_,rfl,_⟩:=Go.ChangeShapes.trodAll_nil h;rfl
    | cons t ts ih=>
     intro vs ds pl h
     obtain ⟨v,vs',d,ds',p1,q1,rfl,rfl,rfl,_,h2⟩:=Go.ChangeShapes.trodAll_cons h
     simp [ih _ _ _ h2]
   have h1:=key _ _ _ _ hA
   have h2:=congrArg List.length hts
   simp only [List.length_map] at h2
   omega
  have hs:=hspec (ds++[]) (by simpa using hlen)
  obtain ⟨pl',hback⟩:=Amw hl bel (fun t ht=>by
   have:=List.all_eq_true.1 hread t ht
   simpa using this) hA
  refine ⟨ds,[],p++[],[],pl',[],hW',?_,?_,?_,bel.frame _,fun h=>by cases h⟩
  ·rw [hs,hres]
   exact Go.ChangeShapes.trodAll_mk1 ⟨1,by simp [DataW.trod,Value.cells,hrt]⟩
  ·rw [hs]
   simpa using hback
  ·rw [hs,hvars]
   rfl
end
end Go.V
namespace Go.V
def go {α β:Type} (step:Nat->α->β⊕α) (fin:α->β):Nat->Nat->α->β
 | 0,_,a=>fin a
 | m+1,i,a=>match step i a with
  | .inl o=>o
  | .inr a'=>go step fin m (i+1) a'
theorem Ag {i n:Nat} (h:i<n):Ak (i:Int) n=true:=by simp [Ak];omega
theorem BK {i n:Nat} (h:i<n) (hn:n<=maxLen):IntKind.wrap .i64 ((i:Int)+1)=((i+1:Nat):Int):=by
 unfold maxLen at hn
 rw [Go.IntWalk.i64_in _ (by omega)]
 rfl
theorem BY (n:Int) (h0 : -9223372036854775808<=n) (h1:n<=9223372036854775807):IntKind.wrap .i64 n=n:=Go.IntWalk.i64_in n ⟨h0,h1⟩
theorem Aw {e:Kd} {l:List e.den} {i:Nat} (h:i<l.length):at_ e l i=l.get ⟨i,h⟩:=Id h
theorem Sl {H O γ:Type} {L:Nat->H->Option O} {r:(H->Option O)->H->Option O} (hL:∀k d,L (k+1) d=r (L k) d) (l:List γ) {mk:Nat->H} {q:γ->Bool} {o f:O}
  (hr:∀back i (hi:i<l.length),r back (mk i)=if q l[i]=true then back (mk (i+1)) else some o) (hf:∀back,r back (mk l.length)=some f) :
  ∀k i,i<=l.length->l.length<=i+k->L (k+1) (mk i)=some (if (l.drop i).all q=true then f else o):=by
 intro k
 induction k with
 | zero=>
  intro i h1 h2
  have e:i=l.length:=by omega
  subst e
  rw [hL,hf,ACu (ACr _)]
  rfl
 | succ k ih=>
  intro i h1 h2
  by_cases h:i<l.length
  ·rw [hL,hr _ i h,ACv h,List.all_cons]
   by_cases hq:q l[i]=true
   ·simp only [hq,if_true,Bool.true_and]
    exact ih (i+1) (by omega) (by omega)
   ·have hq':q l[i]=false:=by simpa using hq
    simp only [hq',ACn,if_false,Bool.false_and]
  ·have e:i=l.length:=by omega
   subst e
   rw [hL,hf,ACu (ACr _)]
   rfl
end Go.V
namespace Go.V
theorem SS {P:Program} {f:Nat} {k0 c0 c1:Kd} {rs:List Kd} {own:Bool} {F:(k0.den×c0.den×c1.den×Unit)->Option (Kd.tuple (rs++[])).den} (h:Aa P f ⟨[(k0,false),(c0,false),(c1,false)],rs,own,F⟩) :
  CH P ⟨[(k0,false),(.clo f (.unit) (.pair c0 (.pair c1 (.unit))),false)],rs,own,fun (d:k0.den×((Unit)×(c0.den×c1.den×Unit))×Unit)=>F (d.1,d.2.1.2)⟩:=by
 intro w ψ U vs d out hargs hU hψ hgl ho
 obtain ⟨x0,r0,rfl,h0,⟨xc,rc,rfl,hc,he⟩⟩:=hargs
 have he:rc=[]:=he
 subst he
 obtain ⟨y1,y2,rfl,hf,hc⟩:=hc
 refine ⟨f,_,_,[Am k0 x0],rfl,?_⟩
 have key:=h w ψ U [Am k0 x0,Am c0 (y2.take c0.size),Am c1 ((y2.drop c0.size).take c1.size)] (d.1,d.2.1.2) out ⟨_,_,rfl,h0,⟨_,_,rfl,(hc.1.move fun _ _ hb _=>hb),⟨_,_,rfl,(hc.2.1.move fun _ _ hb _=>hb),rfl⟩⟩⟩ hU hψ hgl ho
 have e:((LI (.unit) y1).toArray++[Am k0 x0].toArray++(LI (.pair c0 (.pair c1 (.unit))) y2).toArray)=[Am k0 x0,Am c0 (y2.take c0.size),Am c1 ((y2.drop c0.size).take c1.size)].toArray:=by simp [LI]
 rw [e]
 exact key.mono fun v w' ⟨χ,p⟩=>⟨χ,p.os,p.tape,p.output,p.size,p.kept,p.col,p.res,trivial⟩
theorem ZH {P:Program} {f:Nat} {k0 c0 c1 c2:Kd} {rs:List Kd} {own:Bool} {F:(k0.den×c0.den×c1.den×c2.den×Unit)->Option (Kd.tuple (rs++[])).den} (h:Aa P f ⟨[(k0,false),(c0,false),(c1,false),(c2,false)],rs,own,F⟩) :
  CH P ⟨[(k0,false),(.clo f (.unit) (.pair c0 (.pair c1 (.pair c2 (.unit)))),false)],rs,own,fun (d:k0.den×((Unit)×(c0.den×c1.den×c2.den×Unit))×Unit)=>F (d.1,d.2.1.2)⟩:=by
 intro w ψ U vs d out hargs hU hψ hgl ho
 obtain ⟨x0,r0,rfl,h0,⟨xc,rc,rfl,hc,he⟩⟩:=hargs
 have he:rc=[]:=he
 subst he
 obtain ⟨y1,y2,rfl,hf,hc⟩:=hc
 refine ⟨f,_,_,[Am k0 x0],rfl,?_⟩
 have key:=h w ψ U [Am k0 x0,Am c0 (y2.take c0.size),Am c1 ((y2.drop c0.size).take c1.size),Am c2 (((y2.drop c0.size).drop c1.size).take c2.size)] (d.1,d.2.1.2) out ⟨_,_,rfl,h0,⟨_,_,rfl,(hc.1.move fun _ _ hb _=>hb),⟨_,_,rfl,(hc.2.1.move fun _ _ hb _=>hb),⟨_,_,rfl,(hc.2.2.1.move fun _ _ hb _=>hb),rfl⟩⟩⟩⟩ hU hψ hgl ho
 have e:((LI (.unit) y1).toArray++[Am k0 x0].toArray++(LI (.pair c0 (.pair c1 (.pair c2 (.unit)))) y2).toArray)=[Am k0 x0,Am c0 (y2.take c0.size),Am c1 ((y2.drop c0.size).take c1.size),Am c2 (((y2.drop c0.size).drop c1.size).take c2.size)].toArray:=by simp [LI]
 rw [e]
 exact key.mono fun v w' ⟨χ,p⟩=>⟨χ,p.os,p.tape,p.output,p.size,p.kept,p.col,p.res,trivial⟩
theorem Zn {P:Program} {f:Nat} {k0 k1:Kd} {rs:List Kd} {own:Bool} {F:(k0.den×k1.den×Unit)->Option (Kd.tuple (rs++[])).den} (h:Aa P f ⟨[(k0,false),(k1,false)],rs,own,F⟩) :
  CH P ⟨[(k0,false),(k1,false),(.clo f (.unit) (.unit),false)],rs,own,fun (d:k0.den×k1.den×((Unit)×(Unit))×Unit)=>F (d.1,d.2.1,d.2.2.1.2)⟩:=by
 intro w ψ U vs d out hargs hU hψ hgl ho
 obtain ⟨x0,r0,rfl,h0,⟨x1,r1,rfl,h1,⟨xc,rc,rfl,hc,he⟩⟩⟩:=hargs
 have he:rc=[]:=he
 subst he
 obtain ⟨y1,y2,rfl,hf,hc⟩:=hc
 refine ⟨f,_,_,[Am k0 x0,Am k1 x1],rfl,?_⟩
 have key:=h w ψ U [Am k0 x0,Am k1 x1] (d.1,d.2.1,d.2.2.1.2) out ⟨_,_,rfl,h0,⟨_,_,rfl,h1,rfl⟩⟩ hU hψ hgl ho
 have e:((LI (.unit) y1).toArray++[Am k0 x0,Am k1 x1].toArray++(LI (.unit) y2).toArray)=[Am k0 x0,Am k1 x1].toArray:=by simp [LI]
 rw [e]
 exact key.mono fun v w' ⟨χ,p⟩=>⟨χ,p.os,p.tape,p.output,p.size,p.kept,p.col,p.res,trivial⟩
end Go.V
namespace Go.V.W
abbrev E:=Int×Int×Unit
abbrev Gr:=Int×List E×Unit
def okL {α:Type} (l:List α):Bool:=decide (l.length<=lim)
def JC (b:UInt8):Bool:=decide (32<=b.toNat)&&decide (b.toNat<=126)
def Rl (s:ByteArray):Bool:=s.data.toList.all JC
def DL (d:List Int×Unit):Option (List Int×Unit):=if okL d.1=true then some (d.1,()) else none
def E4:List Int->Bool
 | []=>true
 | [_]=>true
 | a::b::l=>decide (a<b)&&E4 (b::l)
def inB (lo hi:Int) (x:Int):Bool:=decide (lo<=x)&&decide (x<=hi)
def Ef (d:List Int×Unit):Option (Bool×Unit):=if okL d.1=true then some (E4 d.1,()) else none
def CQ (d:List Int×Int×Int×Unit):Option (Bool×Unit):=if okL d.1=true then some (d.1.all (inB d.2.1 d.2.2.1),()) else none
def BO:List Int->List Int->Int
 | [],[]=>0
 | [],_::_ => -1
 | _::_,[]=>1
 | a::l,b::m=>if a<b then -1 else if b<a then 1 else BO l m
def D9 (d:List Int×List Int×Unit):Option (Int×Unit):=if (okL d.1&&okL d.2.1)=true then some (BO d.1 d.2.1,()) else none
def Ep (a b:E):Bool:=decide (a.1<b.1)||(decide (a.1=b.1)&&decide (a.2.1<b.2.1))
def Ek:List E->Bool
 | []=>true
 | [_]=>true
 | a::b::l=>Ep a b&&Ek (b::l)
def BI (n:Int) (e:E):Bool:=decide (0<=e.1)&&decide (e.1<e.2.1)&&decide (e.2.1<n)
def A9 (g:Gr):Bool:=decide (0<=g.1)&&decide (g.1<=8)&&g.2.1.all (BI g.1)&&Ek g.2.1
def Bt (d:Gr×Unit):Option (Bool×Unit):=if okL d.1.2.1=true then some (A9 d.1,()) else none
def I6 (l:List (List Int)):Bool:=okL l&&l.all okL
def ER {α:Type} (q:α->Bool):List α->Nat->Option Nat
 | [],_=>none
 | x::l,i=>if q x=true then some i else ER q l (i+1)
def P4 (o:Option Nat):Int:=match o with | some i=>(i:Int) | none => -1
def orN (ms:List Nat) (x y:Nat):List Nat:=ms.set x (ms.getD x 0|||2 ^ y)
def WR (ms:List Nat) (e:E):List Nat:=orN (orN ms e.1.toNat e.2.1.toNat) e.2.1.toNat e.1.toNat
def Dn (n:Nat) (es:List E):List Nat:=es.foldl WR (List.replicate n 0)
def toI (ms:List Nat):List Int:=ms.map fun m:Nat=>(m:Int)
abbrev Nt:=List Int×Unit
def DP (d:Gr×Unit):Option (Nt×Unit):=if (decide (0<=d.1.1)&&decide (d.1.1<=8)&&okL d.1.2.1&&d.1.2.1.all (BI d.1.1))=true then some ((toI (Dn d.1.1.toNat d.1.2.1),()),()) else none
def E7 (d:List Int×Int×Unit):Option (Bool×Unit):=if okL d.1=true then some (d.1.any (fun y=>y==d.2.1),()) else none
def KM (d:List Int×Int×Unit):Option (Int×Unit):=if okL d.1=true then some (P4 (ER (fun y=>d.2.1==y) d.1 0),()) else none
def Lh (p:Nat->Nat->Bool) (x:Nat):Nat->Nat->List E
 | 0,_=>[]
 | m+1,y=>if p x y=true then ((x:Int),(y:Int),())::Lh p x m (y+1) else Lh p x m (y+1)
def Agd (ms:List Nat) (x y:Nat):Bool:=(ms.getD x 0).testBit y
def Ca (l:List Int):List Nat:=l.map Int.toNat
def S6 (l:List Int):Bool:=decide (l.length<=8)&&l.all fun m=>decide (0<=m)&&decide (m<256)
def Ap (p:Nat->Bool):Nat->Nat->List Int
 | 0,_=>[]
 | k+1,x=>if p x=true then (x:Int)::Ap p k (x+1) else Ap p k (x+1)
def BH (es:List E) (a b:Int):Bool:=es.any fun e=>(e.1==a&&e.2.1==b)||(e.1==b&&e.2.1==a)
def Dm (d:Gr×Int×Int×Unit):Option (Bool×Unit):=if okL d.1.2.1=true then some (BH d.1.2.1 d.2.1 d.2.2.1,()) else none
def Dc (d:Gr×Int×Unit):Option (List Int×Unit):=if (okL d.1.2.1&&decide (0<=d.1.1)&&decide (d.1.1<=8))=true then some (Ap (fun y=>BH d.1.2.1 d.2.1 (y:Int)) d.1.1.toNat 0,()) else none
def LY (x:Int):List Int->List Int
 | []=>[x]
 | a::l=>if a<x then a::LY x l else if a=x then a::l else x::a::l
def Amt (l:List Int):Bool:=decide (l.length<=1000)
def Avq (d:List Int×Int×Unit):Option (List Int×Unit):=if Amt d.1=true then some (LY d.2.1 d.1,()) else none
def JB (d:List Int×Int×Unit):Option (List Int×List Int×Unit):=if Amt d.1=true then some (LY d.2.1 d.1,[],()) else none
def PQ (n:Nat) (es:List E) (x:Int):List Int:=LY x (Ap (fun y=>BH es x (y:Int)) n 0)
def Di (d:Int×Unit):Option (List Int×Unit):=if (decide (0<=d.1)&&decide (d.1<256))=true then some (Ap (fun y=>d.1.toNat.testBit y) 8 0,()) else none
def Bh (p:Nat->Bool):Nat->Nat->Nat
 | 0,x=>x
 | k+1,x=>if p x=true then x else Bh p k (x+1)
def Dq (d:List Int×Int×Unit):Option (List Int×Unit):=if (decide (d.1.length=1)&&decide (1<=d.2.1)&&decide (d.2.1<=8))=true then some (List.replicate d.2.1.toNat (d.1.headD 0),()) else none
abbrev Tab:=List (List Int)
def AY (T:Tab) (c r:Int):Int:=(T.getD c.toNat []).getD r.toNat 0
def A6 (row:Int->Int):List Int->Int->Int
 | [],m=>m
 | b::bs,m=>if row b<0 then -1 else A6 row bs (if m<row b then row b else m)
def H7 (after:Int->Int):List Int->Int->Int
 | [],b=>b
 | x::xs,b=>if after x>=0/\(b<0\/after x<b) then H7 after xs (after x) else H7 after xs b
def Ax (n:Nat) (es:List E) (x:Int):List Int:=Ap (fun y=>BH es x (y:Int)||decide ((y:Int)=x)) n 0
def AF (l:List Int) (x:Int):List Int:=Ap (fun y=>(((Ca l).getD x.toNat 0)|||2 ^ x.toNat).testBit y) 8 0
def AE (ball:Int->List Int) (T:Tab) (b r:Int):Int:=if b=r then 0 else A6 (AY T b) (ball r) 0
def sqL (n:Nat) (T:Tab):Bool:=decide (T.length=n)&&T.all fun row=>decide (row.length=n)
def sqB (n:Nat) (T:Tab):Bool:=sqL n T&&T.all fun row=>row.all fun v=>decide (-1<=v)&&decide (v<=1000)
def grB (g:Gr):Bool:=okL g.2.1&&decide (0<=g.1)&&decide (g.1<=8)&&g.2.1.all (BI g.1)
def H9 (d:Gr×Tab×Int×Int×Unit):Option (Int×Unit):=if (grB d.1&&sqB d.1.1.toNat d.2.1&&inB 0 (d.1.1-1) d.2.2.1&&inB 0 (d.1.1-1) d.2.2.2.1)=true then some (A6 (AY d.2.1 d.2.2.1) (Ax d.1.1.toNat d.1.2.1 d.2.2.2.1) 0,()) else none
def Jj (d:Gr×Tab×Int×Int×Unit):Option (Int×Unit):=if (grB d.1&&sqB d.1.1.toNat d.2.1&&inB 0 (d.1.1-1) d.2.2.1&&inB 0 (d.1.1-1) d.2.2.2.1)=true then some (H7 (fun b=>AE (Ax d.1.1.toNat d.1.2.1) d.2.1 b d.2.2.2.1) (Ax d.1.1.toNat d.1.2.1 d.2.2.1) (-1),()) else none
def AM (n:Nat) (f:Nat->Nat->Int):Tab:=(List.range n).map fun c=>(List.range n).map fun r=>f c r
def BT (n:Nat) (ball:Int->List Int) (f:Nat->Nat->Int) (c r:Nat):Bool:=decide (f c r<0)&&(ball (c:Int)).any fun b=>decide (0<=AE ball (AM n f) b (r:Int))
def B4 (n:Nat) (ball:Int->List Int) (t:Int) (f:Nat->Nat->Int) (c r:Nat):Int:=if BT n ball f c r=true then t else f c r
def KQ (n:Nat) (p:Nat->Nat->Bool):Bool:=(List.range n).any fun c=>(List.range n).any fun r=>p c r
def CT (n:Nat) (ball:Int->List Int):Nat->Int->(Nat->Nat->Int)->(Nat->Nat->Int)
 | 0,_,f=>f
 | k+1,t,f=>if KQ n (BT n ball f)=true then CT n ball k (t+1) (B4 n ball t f) else f
def A0 (c r:Nat):Int:=if c=r then 0 else -1
def AS (n:Nat) (ball:Int->List Int):Tab:=AM n (CT n ball 65 1 A0)
def HP (d:Gr×Unit):Option (Tab×Unit):=if grB d.1=true then some (AS d.1.1.toNat (Ax d.1.1.toNat d.1.2.1),()) else none
def CA (l:List Int):Bool:=S6 l&&l.all fun m=>decide (m<((2 ^ l.length:Nat):Int))
def CP (d:Nt×List Int×Int×Unit):Option (Int×Unit):=if (CA d.1.1&&decide (d.2.1.length=d.1.1.length)&&inB 0 ((d.1.1.length:Int)-1) d.2.2.1)=true then some (A6 (fun z=>d.2.1.getD z.toNat 0) (AF d.1.1 d.2.2.1) 0,()) else none
def GE (d:List Int×(Unit×Int×Nt×Tab×Unit)×Unit):Option (Int×Unit):=if (CA d.2.1.2.2.1.1&&sqL d.2.1.2.2.1.1.length d.2.1.2.2.2.1&&inB 0 ((d.2.1.2.2.1.1.length:Int)-1) d.2.1.2.1&&d.1.all (inB 0 ((d.2.1.2.2.1.1.length:Int)-1))&&Amt d.1)=true then some (P4 (ER (fun b=>decide (0<=AE (AF d.2.1.2.2.1.1) d.2.1.2.2.2.1 b d.2.1.2.1)) d.1 0),()) else none
def Gf (d:Nt×Unit):Option (Tab×Unit):=if CA d.1.1=true then some (AS d.1.1.length (AF d.1.1),()) else none
abbrev Wk:=Gr×Int×Int×List Int×Int×Unit
def AAr (n:Nat) (nets:List Nt):Bool:=decide (1<=nets.length)&&decide (nets.length<=8)&&nets.all fun w=>CA w.1&&decide (w.1.length=n)
def P9 (p n:Nat) (ball:Nat->Int->List Int) (f:Nat->Nat->Nat->Int) (r c q:Nat):Bool:=decide (f r c q<0)&&(ball r (c:Int)).any fun b=>decide (0<=AE (ball r) (AM n (f ((r+1) % p))) b (q:Int))
def Fj (p n:Nat) (ball:Nat->Int->List Int) (t:Int) (f:Nat->Nat->Nat->Int) (r c q:Nat):Int:=if P9 p n ball f r c q=true then t else f r c q
def GZ (_ c q:Nat):Int:=A0 c q
def Lw (d:List Int×Unit):Option (Int×Unit):=if (okL d.1&&decide (0<d.1.length))=true then some (d.1.foldl (fun a b=>if a<b then b else a) (d.1.headD 0),()) else none
def ba (l:List UInt8):ByteArray:=⟨l.toArray⟩
def ckL (h:Int) (l:List UInt8):Int:=l.foldl (fun h b=>(41*h+(b.toNat:Int)+1).tmod 999979) h
def Ajj (c:UInt8) (l:List UInt8):List UInt8:=l.takeWhile (· != c)
def Ahr (c:UInt8) (l:List UInt8):List UInt8:=(l.dropWhile (· != c)).drop 1
def XL (l:List UInt8):Bool:=l.all fun b=>decide (32<=b.toNat)&&decide (b.toNat<=126)
def Aza (c r:List UInt8):Bool:=
 (decide (1<=c.length)&&decide (c.length<=160)&&XL c && !c.contains 35 && !c.contains 64)&&(decide (r.length<=200)&&XL r && !r.contains 35)
def AAb (l:List UInt8):List UInt8:=l++[35]++Lib.itoa (ckL 7 l)
def AA5 (k:Nat) (c r:List UInt8):List UInt8:=Lib.itoa (k:Int)++[32]++c++[64]++r
def ABk (k:Nat) (c r:List UInt8):List UInt8:=AAb (AA5 k c r)++[10]
def Avx (k:Nat) (l:List UInt8):Option (List UInt8×List UInt8):=
 let rest:=Ahr 32 (Ajj 35 l)
 if (Aza (Ajj 64 rest) (Ahr 64 rest)&&(ABk k (Ajj 64 rest) (Ahr 64 rest)==l++[10]))=true then some (Ajj 64 rest,Ahr 64 rest) else none
def W4:Nat->Nat->List UInt8->List (List UInt8×List UInt8)×Nat
 | 0,_,_=>([],0)
 | n+1,k,l=>if l.contains 10=true then
   match Avx k (Ajj 10 l) with
   | none=>([],0)
   | some e=>(e::(W4 n (k+1) (Ahr 10 l)).1,(Ajj 10 l).length+1+(W4 n (k+1) (Ahr 10 l)).2)
  else ([],0)
open Go.RowKit Go.Proofs
open Go.Sort (grow putRow mapBlock putCells onCells SWO PermIn SortedIn)
open Go.Lib
theorem Ks:∀l:List Int,BO l l=0:=by
 intro l
 induction l with
 | nil=>rfl
 | cons a l ih=>simp [BO,ih]
theorem D6:∀l m:List Int,BO m l = - BO l m:=by
 intro l
 induction l with
 | nil=>intro m;cases m<;>rfl
 | cons a l ih=>
  intro m
  cases m with
  | nil=>rfl
  | cons b m=>
   simp only [BO]
   by_cases h:a<b
   ·have:¬b<a:=by omega
    simp [h,this]
   ·by_cases h2:b<a
    ·simp [h,h2]
    ·simp [h,h2,ih m]
theorem UD:∀{l m:List Int},BO l m=0->l=m:=by
 intro l
 induction l with
 | nil=>intro m h;cases m with
  | nil=>rfl
  | cons b m=>simp [BO] at h
 | cons a l ih=>
  intro m h
  cases m with
  | nil=>simp [BO] at h
  | cons b m=>
   simp only [BO] at h
   by_cases h1:a<b
   ·simp [h1] at h
   ·by_cases h2:b<a
    ·simp [h1,h2] at h
    ·simp only [h1,h2,if_false] at h
     have:a=b:=by omega
     rw [this,ih h]
theorem QG:∀{l m k:List Int},BO l m<=0->BO m k<=0->BO l k<=0:=by
 intro l
 induction l with
 | nil=>intro m k _ _;cases k<;>simp [BO]
 | cons a l ih=>
  intro m k h1 h2
  cases m with
  | nil=>simp [BO] at h1
  | cons b m=>
   cases k with
   | nil=>simp [BO] at h2
   | cons c k=>
    simp only [BO] at h1 h2 |-
    by_cases x1:a<b
    ·by_cases x2:b<c
     ·have:a<c:=by omega
      simp [this]
     ·by_cases x3:c<b
      ·simp [x2,x3] at h2
      ·have:a<c:=by omega
       simp [this]
    ·by_cases y1:b<a
     ·simp [x1,y1] at h1
     ·have e:a=b:=by omega
      subst e
      simp only [x1,if_false] at h1
      by_cases x2:a<c
      ·simp [x2]
      ·by_cases x3:c<a
       ·simp [x2,x3] at h2
       ·simp only [x2,x3,if_false] at h2 |-
        exact ih h1 h2
def leL (a b:List Int):Prop:=BO a b<=0
theorem Vf {a b:List Int} (h1:leL a b) (h2:leL b a):a=b:=by
 unfold leL at h1 h2
 rw [D6 a b] at h2
 exact UD (by omega)
theorem Ai3 (a b:List Int):leL a b\/leL b a:=by
 unfold leL
 rw [D6 a b]
 omega
def Ack (x:List Int):List (List Int)->List (List Int)
 | []=>[x]
 | a::l=>if BO x a<=0 then x::a::l else a::Ack x l
def He (l:List (List Int)):List (List Int):=l.foldr Ack []
theorem TY (x:List Int):∀l,(Ack x l).Perm (x::l):=by
 intro l
 induction l with
 | nil=>exact .refl _
 | cons a l ih=>
  unfold Ack
  split
  ·exact .refl _
  ·exact (ih.cons a).trans (List.Perm.swap x a l)
theorem Gt:∀l,(He l).Perm l:=by
 intro l
 induction l with
 | nil=>exact .refl _
 | cons a l ih=>exact (TY a (He l)).trans (ih.cons a)
theorem Xf (x:List Int):∀l:List (List Int),l.Pairwise leL->(Ack x l).Pairwise leL:=by
 intro l
 induction l with
 | nil=>intro _;simp [Ack]
 | cons a l ih=>
  intro h
  rw [List.pairwise_cons] at h
  unfold Ack
  split
  ·rename_i hx
   rw [List.pairwise_cons,List.pairwise_cons]
   refine ⟨fun b hb => ?_,h⟩
   rcases List.mem_cons.1 hb with rfl | hb
   ·exact hx
   ·exact QG hx (h.1 b hb)
  ·rename_i hx
   have hax:leL a x:=(Ai3 a x).resolve_right hx
   rw [List.pairwise_cons]
   refine ⟨fun b hb => ?_,ih h.2⟩
   rcases List.mem_cons.1 ((TY x l).mem_iff.1 hb) with rfl | hb
   ·exact hax
   ·exact h.1 b hb
theorem U8:∀l,(He l).Pairwise leL:=by
 intro l
 induction l with
 | nil=>exact .nil
 | cons a l ih=>exact Xf a _ ih
theorem Alx:∀{l m:List (List Int)},l.Pairwise leL->m.Pairwise leL->l.Perm m->l=m:=by
 intro l
 induction l with
 | nil=>intro m _ _ h;exact (List.Perm.nil_eq h)
 | cons a l ih=>
  intro m hl hm h
  cases m with
  | nil=>exact absurd h.length_eq (by simp)
  | cons b m=>
   rw [List.pairwise_cons] at hl hm
   have e:a=b:=by
    rcases List.mem_cons.1 (h.mem_iff.1 (List.mem_cons_self (a:=a) (l:=l))) with e | ha
    ·exact e
    rcases List.mem_cons.1 (h.mem_iff.2 (List.mem_cons_self (a:=b) (l:=m))) with e | hb
    ·exact e.symm
    exact Vf (hl.1 b hb) (hm.1 a ha)
   subst e
   rw [ih hl.2 hm.2 ((List.perm_cons a).1 h)]
theorem OS (l:List (List Int)):(He l).length=l.length:=(Gt l).length_eq
theorem Ata {α:Type} (f:α->List Int):SWO (ltOf fun x y=>BO (f x) (f y)):=by
 refine ⟨fun x => ?_,fun x y z h1 h2 => ?_,fun x y z h1 h2 => ?_⟩
 ·simp [ltOf,Ks]
 ·simp only [ltOf,decide_eq_true_eq] at h1 h2 |-
  have h3:=QG (Int.le_of_lt h1) (Int.le_of_lt h2)
  rcases Int.lt_or_eq_of_le h3 with h | h
  ·exact h
  ·have e:=UD h
   rw [e,D6 (f y) (f z)] at h1
   omega
 ·simp only [ltOf,decide_eq_false_iff_not,Int.not_lt] at h1 h2 |-
  have a1:BO (f y) (f x)<=0:=by rw [D6 (f x) (f y)];omega
  have a2:BO (f z) (f y)<=0:=by rw [D6 (f y) (f z)];omega
  have:=QG a2 a1
  rw [D6 (f x) (f z)] at this
  omega
def Hdr (w:World) (v:Value) (l:List Int):Prop:=
 (∃a,v=.slice a 0 0/\l=[]) \/ ∃b off cap,v=.slice (some ⟨b,off,none⟩) l.length cap /\ ∀j (h:j<l.length),w.cell? ⟨b,off+j,none⟩=some (.int .i64 l[j])
theorem Aq2 {w w':World} {S:BM} {q:Ah} {v:Value} {l:List Int} (h:Rep w S (.slice (.int .i64)) q [v] l) (hk:∀b,S q b->w'.heap[b]? = w.heap[b]?):Hdr w' v l:=by
 simp only [Rep] at h
 rcases h with ⟨⟨a,h⟩,hl⟩ | ⟨b,off,cap,h,kc,kS,kb,ke⟩
 ·exact .inl ⟨a,(List.cons.inj h).1,hl⟩
 ·refine .inr ⟨b,off,cap,(List.cons.inj h).1,fun j hj => ?_⟩
  have:=ke j hj
  simp only [Rep,Kd.size,Nat.mul_one] at this
  obtain ⟨cs,T,fr,hrow,hfit⟩:=kb
  unfold Ai at this
  rw [hrow] at this
  have h2:((cs.toList.drop (off+j)).take 1)[0]? = some (.int .i64 l[j]):=by
   have e:(cs.toList.drop (off+j)).take 1=[.int .i64 (List.get l ⟨j,hj⟩)]:=this
   rw [e]
   rfl
  unfold World.cell?
  rw [hk b kS,hrow]
  simpa using h2
theorem S4 {w w':World} {S S':BM} {q q':Ah} {v:Value} {l:List Int} (h:Rep w S (.slice (.int .i64)) q [v] l) (hk:∀b,S q b->w'.heap[b]? = w.heap[b]?/\S' q' b):Rep w' S' (.slice (.int .i64)) q' [v] l:=by
 simp only [Rep] at h |-
 rcases h with h | ⟨b,off,cap,h1,h2,h3,h4,h5⟩
 ·exact .inl h
 ·obtain ⟨k1,k2⟩:=hk b h3
  refine .inr ⟨b,off,cap,h1,h2,k2,h4.same k1,fun i hi => ?_⟩
  rw [BB k1]
  exact h5 i hi
def IT (d:List (List Int)×(Unit×Unit)×Unit):Option (List (List Int)×Unit):=if I6 d.1=true then some (He d.1,()) else none
theorem RG {α:Type} [Inhabited α] {enc:α->Value} {w:World} {b off:Nat} {d:Array α} {cs:Array Value} {T:TypeId} {fr:Nat×Nat} (h:w.heap[b]? = some (.cells cs T fr)) :
  (putRow enc w b off d).heap[b]? = some (.cells (putCells enc off d cs) T fr):=by
 unfold putRow mapBlock
 simp only [Array.getElem?_modify,if_true,h,Option.map_some]
 rfl
theorem L9 {α:Type} [Inhabited α] {enc:α->Value} {w:World} {b off k:Nat} {d:Array α} (h:k≠b):(putRow enc w b off d).heap[k]? = w.heap[k]?:=by
 unfold putRow mapBlock
 simp only [Array.getElem?_modify,if_neg (Ne.symm h)]
theorem PC {α:Type} (a:Array α) (k:Nat) (h:k=a.size):a.extract 0 k=a:=by
 subst h
 exact Array.extract_size
abbrev idA (n:Nat):Array (Fin (n+1)):=Array.ofFn fun i:Fin (n+1)=>i
theorem Gu (n:Nat):(idA n).size=n+1:=by simp [idA]
theorem Akv {n:Nat} {d':Array (Fin (n+1))} (h:PermIn 0 (idA n).size (idA n) d'):d'.size=n+1/\d'.toList.Perm (idA n).toList /\ ∀i j (hi:i<d'.size) (hj:j<d'.size),d'[i]=d'[j]->i=j:=by
 obtain ⟨h1,_,h3⟩:=h
 have hs:d'.size=n+1:=by rw [h1,Gu]
 have hp:d'.toList.Perm (idA n).toList:=by
  rw [PC d' _ h1.symm,PC (idA n) _ rfl] at h3
  exact h3
 have hnd:d'.toList.Pairwise (· ≠ ·):=by
  refine (hp.pairwise_iff (fun h=>h.symm)).2 ?_
  rw [Array.toList_ofFn,List.pairwise_iff_getElem]
  intro i j hi hj hij e
  rw [List.getElem_ofFn,List.getElem_ofFn] at e
  have:=congrArg Fin.val e
  simp only at this
  omega
 refine ⟨hs,hp,fun i j hi hj e => ?_⟩
 rw [List.pairwise_iff_getElem] at hnd
 rcases Nat.lt_trichotomy i j with h | h | h
 ·exact absurd (show d'.toList[i]'(by simpa using hi)=d'.toList[j]'(by simpa using hj) by rw [Array.getElem_toList,Array.getElem_toList];exact e) (hnd i j _ _ h)
 ·exact h
 ·exact absurd (show d'.toList[j]'(by simpa using hj)=d'.toList[i]'(by simpa using hi) by rw [Array.getElem_toList,Array.getElem_toList];exact e.symm) (hnd j i _ _ h)
theorem Xw {n:Nat} (xss:List (List Int)) (hn:xss.length=n+1) {d':Array (Fin (n+1))} (hp:d'.toList.Perm (idA n).toList) (hs:d'.size=n+1)
  (ho:SortedIn (ltOf fun x y:Fin (n+1)=>BO (xss.getD x.val []) (xss.getD y.val [])) 0 (idA n).size d'):He xss=d'.toList.map fun j=>xss.getD j.val []:=by
 refine Alx (U8 xss) ?_ ?_
 ·rw [List.pairwise_map,List.pairwise_iff_getElem]
  intro i j hi hj hij
  rw [Array.length_toList] at hi hj
  have:=ho i j (Nat.zero_le _) hij (by rw [Gu];omega)
  rw [getElem!_pos d' j (by omega),getElem!_pos d' i (by omega)] at this
  simp only [ltOf,decide_eq_false_iff_not,Int.not_lt] at this
  rw [Array.getElem_toList,Array.getElem_toList]
  unfold leL
  rw [D6 (xss.getD d'[j].val []) (xss.getD d'[i].val [])]
  omega
 ·refine (Gt xss).trans ?_
  have h2:((idA n).toList.map fun j=>xss.getD j.val [])=xss:=by
   rw [Array.toList_ofFn,List.map_ofFn]
   apply List.ext_getElem
   ·simp [hn]
   ·intro i h1 h2
    rw [List.getElem_ofFn]
    simp only [Function.comp,ACy,ACz h2,Option.getD_some]
  have h3:=(hp.map fun j=>xss.getD j.val []).symm
  rw [h2] at h3
  exact h3
end Go.V.W
namespace Go.V.W
open Go.RowKit Go.Proofs
open Go.Sort (grow putRow mapBlock putCells onCells SWO PermIn SortedIn)
open Go.Lib
abbrev kSS:Kd:=.slice (.slice (.int .i64))
theorem Yf {w:World} {os:Array Obj} {k:Nat} (h:k<w.heap.size):(grow w os).heap[k]? = w.heap[k]?:=by
 show (w.heap++os)[k]? = _
 exact Array.getElem?_append_left h
open Classical in
def V0 {n:Nat} (d':Array (Fin (n+1))) (j:Nat):Nat:=if h:∃k,∃hk:k<d'.size,(d'[k]).val=j then h.choose else j
theorem Ai8 {n:Nat} {d':Array (Fin (n+1))} (hinj:∀i j (hi:i<d'.size) (hj:j<d'.size),d'[i]=d'[j]->i=j) {k:Nat} (hk:k<d'.size):V0 d' (d'[k]).val=k:=by
 have h:∃k',∃hk':k'<d'.size,(d'[k']).val=(d'[k]).val:=⟨k,hk,rfl⟩
 unfold V0
 rw [dif_pos h]
 obtain ⟨h1,h2⟩:=h.choose_spec
 exact hinj _ _ h1 hk (Fin.ext h2)
def We {n:Nat} (d':Array (Fin (n+1))):Nat×Ah->Lab
 | (0,[.i j])=>.io 0 [.i (V0 d' j)]
 | (i,q)=>.io i q
theorem Agy {P:Program} {f g:FuncId} (he:∀(args:Array Value) (w:World),(callFunc f args).run P w=.ok (.enter f args) w)
  (hc:∀(w:World) (v1 v2:Value) (xs ys:List Int),Hdr w v1 xs->Hdr w v2 ys->xs.length<=lim->ys.length<=lim->Calls P g #[v1,v2] w fun e w'=>e=.returned (.int .i64 (BO xs ys))/\w'=w)
  (h:∀(n:Nat) (enc:Fin (n+1)->Value) (cf:Fin (n+1)->Fin (n+1)->Int) (blk off cap:Nat) (w:World),OneCell enc->SWO (ltOf cf)->CmpLays1 P g #[] enc cf blk off (idA n).size w->Go.Sort.Holds enc w blk off (idA n)->blk<w.heap.size->(idA n).size<4611686018427387904 ->
   Calls P f #[.slice (some ⟨blk,off,none⟩) (idA n).size cap,.func (.func g) #[] #[]] w fun e w'=>e=.returned (.tuple #[]) /\ ∃d' m os,PermIn 0 (idA n).size (idA n) d'/\SortedIn (ltOf cf) 0 (idA n).size d'/\w'=sortWorld enc w blk off m d' os)
  (h0:∀(p:Option Addr) (cap:Nat) (fv:Value) (w:World),Calls P f #[.slice p 0 cap,fv] w fun e w'=>e=.returned (.tuple #[])/\w'=w) :
  Aa P f ⟨[(kSS,true),(.clo g .unit .unit,false)],[],true,IT⟩:=by
 intro w ψ U vs d out hargs hU hψ hgl ho
 obtain ⟨xss,fv,u⟩:=d
 have ho:IT (xss,fv,u)=some out:=ho
 unfold IT at ho
 split at ho
 case isFalse=>cases ho
 rename_i hl
 have hl:(okL xss&&xss.all okL)=true:=hl
 simp only [ACo] at hl
 obtain ⟨hl,hal⟩:=hl
 have hl:xss.length<=lim:=of_decide_eq_true hl
 have hal:∀x∈xss,x.length<=lim:=fun x hx=>of_decide_eq_true (List.all_eq_true.1 hal x hx)
 obtain rfl:=ACs ho
 obtain ⟨c1,r1,rfl,k2,c2,r2,rfl,k3,k5⟩:=hargs
 have k5:r2=[]:=k5
 subst k5
 have hfv:Am (.clo g .unit .unit) c2=.func (.func g) #[] #[]:=by
  obtain ⟨a1,a2,e,_⟩:=(show Rep w _ (.clo g .unit .unit) [] c2 fv from k3)
  rw [e]
  rfl
 rw [hfv]
 have k2:Rep w (fun q b=>ψ b=some (0,q)) kSS [] c1 xss:=k2
 rw [Rep] at k2
 -- the world as it was
 have same:∀(v:Value),(∃p cap,c1=[.slice p 0 cap])->xss=[]->BJ P f (Am kSS c1::[.func (.func g) #[] #[]]).toArray w fun v w' => ∃χ,Post ⟨[(kSS,true),(.clo g .unit .unit,false)],[],true,IT⟩ ψ U (Am kSS c1::[.func (.func g) #[] #[]]) w (He xss,()) χ v w':=by
  rintro _ ⟨p,cap,rfl⟩ rfl
  unfold BJ
  rw [show (Am kSS [Value.slice p 0 cap]::[Value.func (.func g) #[] #[]]).toArray = #[.slice p 0 cap,.func (.func g) #[] #[]] from rfl,he]
  refine Calls.mono (h0 p cap _ w) fun e w' hh => ?_
  obtain ⟨rfl,rfl⟩:=hh
  refine ⟨fun b=>match ψ b with | some (i,q)=>some (.io i q) | none=>none,⟨rfl,rfl,rfl,ACr _,fun _ _ _=>rfl,fun b z hz => ?_,⟨[],trivial,rfl⟩,?_⟩⟩
  ·cases hb:ψ b with
   | none=>rw [hb] at hz;cases hz
   | some y=>exact ⟨.inr (by simp),hψ b y hb⟩
  ·refine ⟨fun _=>⟨[.slice p 0 cap],rfl,rfl,?_⟩,trivial⟩
   rw [IO.of (show Kd.isBx kSS=false from rfl)]
   show Rep _ _ kSS [] [.slice p 0 cap] []
   rw [Rep]
   rcases k2 with ⟨⟨a,e⟩,_⟩ | ⟨b,off,cap',e,kc,kS,kb,ke⟩
   ·exact .inl ⟨⟨a,e⟩,rfl⟩
   ·refine .inr ⟨b,off,cap',e,kc,?_,kb,fun i hi=>absurd hi (by simp)⟩
    show (match ψ b with | some (i,q)=>some (Lab.io i q) | none=>none)=some (.io 0 [])
    rw [kS]
 rcases k2 with ⟨⟨a,e⟩,hz⟩ | ⟨b,off,cap,e,kc,kS,kb,ke⟩
 ·exact same undef ⟨a,0,e⟩ hz
 cases hn:xss.length with
 | zero=>
  have hz:xss=[]:=List.length_eq_zero_iff.1 hn
  rw [hn] at e
  exact same undef ⟨_,cap,e⟩ hz
 | succ n=>
  clear same
  have kS:ψ b=some (0,[]):=kS
  obtain ⟨cs,T,fr,hrow,hthaw⟩:=hψ b _ kS
  obtain ⟨cs2,T2,fr2,hrow2,hfit⟩:=kb
  rw [hrow] at hrow2
  injection hrow2 with hrow2
  injection hrow2 with e1 e2 e3
  subst e1 e2 e3
  simp only [Kd.size,Nat.mul_one] at hfit
  rw [hn] at kc
  -- the headers
  have hlt:∀j,j<n+1->off+j<cs.size:=fun j hj=>by omega
  have hel:∀j (hj:j<n+1),Rep w (fun q b=>ψ b=some (0,q)) (.slice (.int .i64)) [.i j] [cs[off+j]'(hlt j hj)] (xss.getD j []):=fun j hj=>by
   have hj':j<xss.length:=by omega
   have:=ke j hj'
   simp only [Kd.size,Nat.mul_one,List.nil_append] at this
   unfold Ai at this
   rw [hrow] at this
   have e:(cs.toList.drop (off+j)).take 1=[cs[off+j]'(hlt j hj)]:=by
    rw [ACv (by simpa using hlt j hj),List.take_succ_cons,List.take_zero,Array.getElem_toList]
   simp only at this
   rw [e] at this
   have e2:xss.getD j []=xss.get ⟨j,hj'⟩:=by simp [ACy,hj']
   rw [e2]
   exact this
  have hb:=(Array.getElem?_eq_some_iff.1 hrow).1
  let enc:Fin (n+1)->Value:=fun j=>cs[off+j.val]'(hlt j.val j.isLt)
  have hOne:OneCell enc:=fun j=>by
   have:=hel j.val j.isLt
   rw [Rep] at this
   rcases this with ⟨⟨a,e⟩,_⟩ | ⟨b',o',c',e,_⟩
   ·rw [show enc j=.slice a 0 0 from (List.cons.inj e).1];rfl
   ·rw [show enc j=_ from (List.cons.inj e).1];rfl
  have hneb:∀j b',ψ b'=some (0,[.i j])->b'≠b:=fun j b' h1 e=>by
   subst e
   rw [kS] at h1
   cases h1
  have hother':∀(m:Nat) (dk:Array (Fin (n+1))) (os:Array Obj) (k:Nat),k<w.heap.size->k≠b->(sortWorld enc w b off m dk os).heap[k]? = w.heap[k]?:=fun m dk os k hk hne=>by
   unfold sortWorld
   have hsz:(putRow enc (Go.Sort.ahead w m) b off dk).heap.size=w.heap.size:=by simp [putRow,mapBlock]
   rw [Yf (by rw [hsz];exact hk),L9 hne]
   rfl
  have hcmp:CmpLays1 P g #[] enc (fun x y=>BO (xss.getD x.val []) (xss.getD y.val [])) b off (idA n).size w:=fun m os dk hs x y=>by
   have hh:∀z:Fin (n+1),Hdr (sortWorld enc w b off m dk os) (enc z) (xss.getD z.val []):=fun z=>Aq2 (hel z.val z.isLt) fun b' hb'=>hother' m dk os b' (hψ b' _ hb').lt (hneb _ _ hb')
   have hln:∀z:Fin (n+1),(xss.getD z.val []).length<=lim:=fun z=>by
    have hz:z.val<xss.length:=by omega
    have:xss.getD z.val []=xss[z.val]:=by simp [ACy,hz]
    rw [this]
    exact hal _ (ACw hz)
   refine Calls.mono (hc _ _ _ _ _ (hh x) (hh y) (hln x) (hln y)) fun e w' hw => ?_
   obtain ⟨rfl,rfl⟩:=hw
   refine ⟨rfl,0,#[],?_⟩
   rw [Go.Sort.grow_empty]
   rfl
  have hH:Go.Sort.Holds enc w b off (idA n):=fun j hj=>by
   have hj':j<n+1:=by rw [Gu] at hj;exact hj
   have e:(idA n)[j]! = ⟨j,hj'⟩:=by rw [getElem!_pos (idA n) j hj];simp [idA]
   constructor
   ·unfold World.cell?
    rw [hrow,e]
    simp [enc,hlt j hj']
   ·unfold World.frozen?
    rw [hrow]
    obtain ⟨f1,f2⟩:=fr
    have:=hlt j hj'
    simp only at hthaw
    simp
    omega
  have hcall:=h n enc _ b off cap w hOne (Ata fun z:Fin (n+1)=>xss.getD z.val []) hcmp hH hb (by rw [Gu];unfold lim at hl;omega)
  unfold BJ
  rw [e,hn,show (Am kSS [Value.slice (some ⟨b,off,none⟩) (n+1) cap]::[Value.func (.func g) #[] #[]]).toArray = #[.slice (some ⟨b,off,none⟩) (n+1) cap,.func (.func g) #[] #[]] from rfl,he]
  rw [Gu] at hcall
  refine Calls.mono hcall fun e w' hh => ?_
  obtain ⟨rfl,d',m,os,hperm,hsort,rfl⟩:=hh
  have hperm':PermIn 0 (idA n).size (idA n) d':=by rw [Gu];exact hperm
  obtain ⟨hs,hp,hinj⟩:=Akv hperm'
  have hdata:=Xw xss hn hp hs (by rw [Gu];exact hsort)
  have hother:=hother' m d' os
  have hnew:(sortWorld enc w b off m d' os).heap[b]? = some (.cells (putCells enc off d' cs) T fr):=by
   unfold sortWorld
   have hsz:(putRow enc (Go.Sort.ahead w m) b off d').heap.size=w.heap.size:=by simp [putRow,mapBlock]
   rw [Yf (by rw [hsz];exact hb)]
   exact RG (w:=Go.Sort.ahead w m) hrow
  have hps:(putCells enc off d' cs).size=cs.size:=by simp [putCells]
  have hlen:(He xss).length=n+1:=by rw [OS,hn]
  refine ⟨fun b=>match ψ b with | some z=>some (We d' z) | none=>none,⟨rfl,rfl,rfl,?_,fun k hk hn => ?_,fun k z hz => ?_,⟨[],trivial,rfl⟩,?_⟩⟩
  ·show w.heap.size<=((putRow enc (Go.Sort.ahead w m) b off d').heap++os).size
   have hsz:(putRow enc (Go.Sort.ahead w m) b off d').heap.size=w.heap.size:=by simp [putRow,mapBlock]
   rw [Array.size_append,hsz]
   omega
  ·exact hother k hk (fun e=>by subst e;rw [kS] at hn;cases hn)
  ·cases hk:ψ k with
   | none=>rw [hk] at hz;cases hz
   | some y=>
    refine ⟨.inr (by simp),?_⟩
    by_cases e:k=b
    ·subst e
     exact ⟨_,T,fr,hnew,hthaw.imp (fun h=>h) fun h=>by rw [hps];exact h⟩
    ·exact (hψ k y hk).same (hother k (hψ k y hk).lt e)
  ·refine ⟨fun _=>⟨[.slice (some ⟨b,off,none⟩) (n+1) cap],rfl,rfl,?_⟩,trivial⟩
   rw [IO.of (show Kd.isBx kSS=false from rfl)]
   show Rep _ _ kSS [] [.slice (some ⟨b,off,none⟩) (n+1) cap] (He xss)
   rw [Rep]
   refine .inr ⟨b,off,cap,by rw [hlen],by rw [hlen];exact kc,?_,⟨_,T,fr,hnew,?_⟩,fun i hi => ?_⟩
   ·show (match ψ b with | some z=>some (We d' z) | none=>none)=some (.io 0 [])
    rw [kS]
    rfl
   ·simp only [Kd.size,Nat.mul_one]
    rw [hps]
    exact hfit
   ·have hi1:i<n+1:=by rw [<- hlen];exact hi
    have hi2:i<d'.size:=by omega
    have ecell:Ai (sortWorld enc w b off m d' os) b (off+i*(Kd.slice (.int .i64)).size) (Kd.slice (.int .i64)).size=[enc d'[i]]:=by
     unfold Ai
     rw [hnew]
     simp only [Kd.size,Nat.mul_one]
     have hlt2:off+i<(putCells enc off d' cs).toList.length:=by rw [Array.length_toList,hps];exact hlt i hi1
     rw [ACv hlt2,List.take_succ_cons,List.take_zero]
     congr 1
     simp only [putCells,Array.getElem_toList,Array.getElem_mapIdx]
     rw [if_pos ⟨by omega,by omega⟩,show off+i-off=i by omega,getElem!_pos d' i hi2]
    have edata:(He xss).get ⟨i,hi⟩=xss.getD (d'[i]).val []:=by
     have:(He xss)[i]=xss.getD (d'[i]).val []:=by
      simp only [hdata,List.getElem_map,Array.getElem_toList]
     exact this
    rw [ecell,edata]
    refine S4 (hel (d'[i]).val (d'[i]).isLt) fun b' hb'=>⟨hother b' (hψ b' _ hb').lt (hneb _ _ hb'),?_⟩
    show (match ψ b' with | some z=>some (We d' z) | none=>none)=some (.io 0 ([]++[.i i]))
    have hb':ψ b'=some (0,[.i (d'[i]).val]):=hb'
    rw [hb']
    show some (Lab.io 0 [.i (V0 d' (d'[i]).val)])=_
    rw [Ai8 hinj hi2]
    rfl
end Go.V.W
namespace Go.V.W
open Go.Proofs Go.RowKit
def Mw (x y:Int):Int:=if x<y then -1 else if y<x then 1 else 0
theorem Av3 {x y:Int} (h:x<y):Mw x y = -1:=if_pos h
theorem Atf {x y:Int} (h:¬x<y) (h2:y<x):Mw x y=1:=by unfold Mw;rw [if_neg h,if_pos h2]
theorem Avc {x y:Int} (h:¬x<y) (h2:¬y<x):Mw x y=0:=by unfold Mw;rw [if_neg h,if_neg h2]
set_option maxRecDepth 1000000 in
theorem AAy (x y:Int) (w:World):Calls Tryz.prog 128 #[.int .i64 x,.int .i64 y] w fun e w'=>e=.returned (.int .i64 (Mw x y))/\w'=w:=by
 go_enter Tryz.func128,Tryz.ntmps128
 go_wp2
 ·have h:x<y:=by assumption
  go_ret
  refine ⟨?_,rfl⟩
  rw [Av3 h]
  rfl
 ·have h2:y<x:=by assumption
  have h:¬x<y:=by omega
  go_ret
  refine ⟨?_,rfl⟩
  rw [Atf h h2]
  rfl
 ·have h3:y<=x:=by assumption
  have h4:x<=y:=by assumption
  have h:¬x<y:=by omega
  have h2:¬y<x:=by omega
  go_ret
  refine ⟨?_,rfl⟩
  rw [Avc h h2]
  rfl
set_option maxRecDepth 1000000 in
set_option maxHeartbeats 4000000 in
theorem AAt (b1 o1 c1 b2 o2 c2:Nat) (xs ys:List Int) (w:World) (hx:∀j (h:j<xs.length),w.cell? ⟨b1,o1+j,none⟩=some (.int .i64 xs[j])) (hy:∀j (h:j<ys.length),w.cell? ⟨b2,o2+j,none⟩=some (.int .i64 ys[j]))
  (hl1:xs.length<=lim) (hl2:ys.length<=lim):Calls Tryz.prog 68 #[.slice (some ⟨b1,o1,none⟩) xs.length c1,.slice (some ⟨b2,o2,none⟩) ys.length c2] w fun e w'=>e=.returned (.int .i64 (BO xs ys))/\w'=w:=by
 have hn1:xs.length<=1099511627776:=hl1
 have hn2:ys.length<=1099511627776:=hl2
 go_enter Tryz.func68,Tryz.ntmps68
 go_wp2
 go_loop [11] (fun i => ∃k:Nat,k<=xs.length/\k<=ys.length/\i=.int .i64 k/\BO xs ys=BO (xs.drop k) (ys.drop k)) (fun i=>match i with | .int _ m=>xs.length-m.toNat | _=>0)
 case atStart=>exact ⟨0,Nat.zero_le _,Nat.zero_le _,rfl,rfl⟩
 case round=>
  obtain ⟨k,hk1,hk2,rfl,hrel⟩:=hrel
  by_cases hkx:k<xs.length
  ·by_cases hky:k<ys.length
   ·obtain ⟨x,hxe⟩:∃x,x=xs[k]:=⟨_,rfl⟩
    obtain ⟨y,hye⟩:∃y,y=ys[k]:=⟨_,rfl⟩
    have hcx:w.cell? ⟨b1,o1+k,none⟩=some (.int .i64 x):=by rw [hx k hkx,hxe]
    have hcy:w.cell? ⟨b2,o2+k,none⟩=some (.int .i64 y):=by rw [hy k hky,hye]
    have hdx:xs.drop k=x::xs.drop (k+1):=by rw [ACv hkx,hxe]
    have hdy:ys.drop k=y::ys.drop (k+1):=by rw [ACv hky,hye]
    have hstep:BO xs ys=if x<y then -1 else if y<x then 1 else BO (xs.drop (k+1)) (ys.drop (k+1)):=by rw [hrel,hdx,hdy];rfl
    clear hx hy hxe hye hrel hdx hdy
    go_wp2_with (go_at_call 128;refine (AAy _ _ _).mono ?_;rintro e w' ⟨rfl,rfl⟩)
    ·have hne:Mw x y≠0:=by
      have h:(Mw x y != 0)=true:=by assumption
      simpa using h
     have he:BO xs ys=Mw x y:=by
      rw [hstep]
      unfold Mw at hne |-
      by_cases c1:x<y
      ·rw [if_pos c1,if_pos c1]
      ·by_cases c2:y<x
       ·rw [if_neg c1,if_neg c1,if_pos c2,if_pos c2]
       ·rw [if_neg c1,if_neg c2] at hne
        exact absurd rfl hne
     go_ret
     refine ⟨?_,rfl⟩
     rw [he]
     rfl
    ·have hz:Mw x y=0:=by
      have h:(Mw x y != 0)=false:=by assumption
      simpa using h
     have he:BO xs ys=BO (xs.drop (k+1)) (ys.drop (k+1)):=by
      rw [hstep]
      unfold Mw at hz
      by_cases c1:x<y
      ·rw [if_pos c1] at hz;cases hz
      ·by_cases c2:y<x
       ·rw [if_neg c1,if_pos c2] at hz;cases hz
       ·rw [if_neg c1,if_neg c2]
     refine ⟨⟨k+1,by omega,by omega,rfl,he⟩,?_⟩
     show xs.length-((k:Int)+1).toNat<xs.length-(k:Int).toNat
     omega
   ·have hdx:xs.drop k=xs[k]::xs.drop (k+1):=ACv hkx
    have hdy:ys.drop k=[]:=ACu (by omega)
    have he:BO xs ys=1:=by rw [hrel,hdx,hdy];rfl
    have hcx:w.cell? ⟨b1,o1+k,none⟩=some (.int .i64 xs[k]):=hx k hkx
    clear hx hy hrel hdx hdy
    go_wp2
    go_ret
    refine ⟨?_,rfl⟩
    rfl
  ·have hdx:xs.drop k=[]:=ACu (by omega)
   have he:BO xs ys=if xs.length<ys.length then -1 else 0:=by
    rw [hrel,hdx]
    by_cases h:k<ys.length
    ·rw [ACv h,if_pos (by omega)]
     rfl
    ·rw [ACu (by omega),if_neg (by omega)]
     rfl
   clear hx hy hrel hdx
   go_wp2
   ·have h:xs.length<ys.length:=by assumption
    go_ret
    refine ⟨?_,rfl⟩
    rfl
   ·have h:¬xs.length<ys.length:=by assumption
    go_ret
    refine ⟨?_,rfl⟩
    rfl
set_option maxRecDepth 1000000 in
set_option maxHeartbeats 4000000 in
theorem Lj (a1 a2:Option Addr) (c1 m c2:Nat) (w:World) (hm:m<=lim):Calls Tryz.prog 68 #[.slice a1 0 c1,.slice a2 m c2] w fun e w'=>e=.returned (.int .i64 (if 0<m then -1 else 0))/\w'=w:=by
 have hn:m<=1099511627776:=hm
 go_enter Tryz.func68,Tryz.ntmps68
 go_wp2
 go_loop [11] (fun i=>i=.int .i64 0) (fun _=>0)
 case atStart=>rfl
 case round=>
  subst hrel
  go_wp2
  ·have h:0<m:=by assumption
   go_ret
   refine ⟨?_,rfl⟩
   first | rfl | (rw [if_pos h];rfl)
  ·go_ret
   refine ⟨?_,rfl⟩
   first | rfl | (rw [if_neg (by omega)];rfl)
set_option maxRecDepth 1000000 in
set_option maxHeartbeats 4000000 in
theorem Z5 (b1 o1 n c1:Nat) (a2:Option Addr) (c2:Nat) (x:Int) (w:World) (h0:0<n) (hn:n<=1099511627776) (hx:w.cell? ⟨b1,o1,none⟩=some (.int .i64 x)):Calls Tryz.prog 68 #[.slice (some ⟨b1,o1,none⟩) n c1,.slice a2 0 c2] w fun e w'=>e=.returned (.int .i64 1)/\w'=w:=by
 go_enter Tryz.func68,Tryz.ntmps68
 go_wp2
 go_loop [11] (fun i=>i=.int .i64 0) (fun _=>0)
 case atStart=>rfl
 case round=>
  subst hrel
  go_wp2
  all_goals (go_ret;exact ⟨rfl,rfl⟩)
theorem Ano (ys:List Int):(if 0<ys.length then (-1:Int) else 0)=BO [] ys:=by cases ys<;>rfl
theorem ACb {w:World} {v1 v2:Value} {xs ys:List Int} (h1:Hdr w v1 xs) (h2:Hdr w v2 ys) (l1:xs.length<=lim) (l2:ys.length<=lim):Calls Tryz.prog 68 #[v1,v2] w fun e w'=>e=.returned (.int .i64 (BO xs ys))/\w'=w:=by
 rcases h1 with ⟨a1,rfl,rfl⟩ | ⟨b1,o1,c1,rfl,hx⟩
 ·rcases h2 with ⟨a2,rfl,rfl⟩ | ⟨b2,o2,c2,rfl,hy⟩
  ·exact Lj a1 a2 0 0 0 w (Nat.zero_le _)
  ·rw [<- Ano]
   exact Lj a1 (some ⟨b2,o2,none⟩) 0 ys.length c2 w l2
 ·rcases h2 with ⟨a2,rfl,rfl⟩ | ⟨b2,o2,c2,rfl,hy⟩
  ·cases xs with
   | nil=>exact Lj (some ⟨b1,o1,none⟩) a2 c1 0 0 w (Nat.zero_le _)
   | cons x xs=>
    have l1':(x::xs).length<=1099511627776:=l1
    exact Z5 b1 o1 (x::xs).length c1 a2 0 x w (by simp) l1' (hx 0 (by simp))
  ·exact AAt b1 o1 c1 b2 o2 c2 xs ys w hx hy l1 l2
end Go.V.W
namespace Go.V.W
open Go.Proofs Go.RowKit Go.Shelf Go.Lib Go.Sort
set_option maxRecDepth 1000000 in
set_option maxHeartbeats 4000000 in
theorem ACl (b1 o1 c1 b2 o2 c2:Nat) (xs ys:List Int) (n:Nat) (w:World) (hx:∀j (h:j<xs.length),w.cell? ⟨b1,o1+j,none⟩=some (.int .i64 xs[j])) (hy:∀j (h:j<ys.length),w.cell? ⟨b2,o2+j,none⟩=some (.int .i64 ys[j]))
  (hn:n<=1099511627776) (h1:Aside (xs.length=n)) (h2:Aside (ys.length=n)):Calls Tryz.prog 144 #[.slice (some ⟨b1,o1,none⟩) n c1,.slice (some ⟨b2,o2,none⟩) n c2] w fun e w'=>e=.returned (.bool (decide (xs=ys))) /\ ∃q,w'=w.drewN q:=by
 have mixed:Tryz.prog.follows .mixedOrders=true:=by kernel_rfl
 have HX:Aside _:=hx
 have HY:Aside _:=hy
 clear hx hy
 go_enter Tryz.func144,Tryz.ntmps144
 go_wp2
 go_loopg [13] n (fun g s13 wr => ∃k q:Nat,k<=n/\n-k<=g/\s13=.int .i64 k/\wr=w.drewN q/\Aside (decide (xs=ys)=decide (xs.drop k=ys.drop k)))
 case atStart=>exact ⟨0,0,Nat.zero_le _,by omega,rfl,rfl,rfl⟩
 case round=>
  obtain ⟨k,q,hk1,hg,rfl,rfl,hrel⟩:=hrel
  by_cases hkx:k<n
  ·have hkx':k<xs.length:=by rw [h1.out];exact hkx
   have hky':k<ys.length:=by rw [h2.out];exact hkx
   obtain ⟨x,hxe⟩:∃x,x=xs[k]:=⟨_,rfl⟩
   obtain ⟨y,hye⟩:∃y,y=ys[k]:=⟨_,rfl⟩
   have hcx:w.cell? ⟨b1,o1+k,none⟩=some (.int .i64 x):=by rw [HX.out k hkx',hxe]
   have hcy:w.cell? ⟨b2,o2+k,none⟩=some (.int .i64 y):=by rw [HY.out k hky',hye]
   have hdx:xs.drop k=x::xs.drop (k+1):=by rw [ACv hkx',hxe]
   have hdy:ys.drop k=y::ys.drop (k+1):=by rw [ACv hky',hye]
   have hstep:Aside (decide (xs=ys)=(decide (x=y)&&decide (xs.drop (k+1)=ys.drop (k+1)))):=by
    show _=_
    rw [hrel.out,hdx,hdy]
    rw [Bool.eq_iff_iff]
    simp
   clear hkx' hky' hxe hye hrel hdx hdy
   by_cases hxy:x=y
   ·subst hxy
    have he:Aside (decide (xs=ys)=decide (xs.drop (k+1)=ys.drop (k+1))):=by
     show _=_
     rw [hstep.out];simp
    clear hstep
    go_wp2_with fail
    go_region_o
    go_wp2
    go_roundg (n-(k+1))
    case measure=>omega
    case rel=>exact ⟨k+1,q+1,by omega,ACr _,by go_num,rfl,he⟩
   ·have he:Aside (decide (xs=ys)=false):=by
     show _=_
     rw [hstep.out];simp [hxy]
    clear hstep
    go_wp2_with fail
    go_region_o
    go_wp2
    go_ret
    exact ⟨by rw [he.out];rfl,q+1,rfl⟩
  ·have he:Aside (decide (xs=ys)=true):=by
    show _=_
    rw [hrel.out,ACu (by rw [h1.out];omega),ACu (by rw [h2.out];omega)]
    simp
   clear hrel
   go_wp2
   go_ret
   exact ⟨by rw [he.out];rfl,q,rfl⟩
set_option maxRecDepth 1000000 in
theorem Aob (a1 a2:Option Addr) (m n c1 c2:Nat) (w:World) (h:¬(m:Int)=n) (hm:m<=1099511627776) (hn:n<=1099511627776):Calls Tryz.prog 144 #[.slice a1 m c1,.slice a2 n c2] w fun e w'=>e=.returned (.bool false) /\ ∃q,w'=w.drewN q:=by
 go_enter Tryz.func144,Tryz.ntmps144
 go_wp2
 go_ret
 exact ⟨rfl,0,rfl⟩
set_option maxRecDepth 1000000 in
theorem Ajp (a1 a2:Option Addr) (c1 c2:Nat) (w:World):Calls Tryz.prog 144 #[.slice a1 0 c1,.slice a2 0 c2] w fun e w'=>e=.returned (.bool true) /\ ∃q,w'=w.drewN q:=by
 go_enter Tryz.func144,Tryz.ntmps144
 go_wp2
 go_loopg [13] 0 (fun g s13 wr=>s13=.int .i64 0/\wr=w)
 case atStart=>exact ⟨rfl,rfl⟩
 case round=>
  obtain ⟨rfl,rfl⟩:=hrel
  go_wp2
  go_ret
  exact ⟨rfl,0,rfl⟩
theorem eqH {w:World} {v1 v2:Value} {xs ys:List Int} (h1:Hdr w v1 xs) (h2:Hdr w v2 ys) (l1:xs.length<=lim) (l2:ys.length<=lim):Calls Tryz.prog 144 #[v1,v2] w fun e w'=>e=.returned (.bool (decide (xs=ys))) /\ ∃q,w'=w.drewN q:=by
 have l1':xs.length<=1099511627776:=l1
 have l2':ys.length<=1099511627776:=l2
 obtain ⟨a1,c1,e1⟩:∃a c,v1=.slice a xs.length c:=by
  rcases h1 with ⟨a,rfl,rfl⟩ | ⟨b,off,cap,rfl,_⟩
  ·exact ⟨a,0,rfl⟩
  ·exact ⟨_,cap,rfl⟩
 obtain ⟨a2,c2,e2⟩:∃a c,v2=.slice a ys.length c:=by
  rcases h2 with ⟨a,rfl,rfl⟩ | ⟨b,off,cap,rfl,_⟩
  ·exact ⟨a,0,rfl⟩
  ·exact ⟨_,cap,rfl⟩
 by_cases hne:xs.length=ys.length
 ·by_cases h0:xs.length=0
  ·have hx:xs=[]:=List.length_eq_zero_iff.1 h0
   have hy:ys=[]:=List.length_eq_zero_iff.1 (by omega)
   subst hx hy
   rw [e1,e2]
   exact Ajp a1 a2 c1 c2 w
  ·rcases h1 with ⟨a,_,hx⟩ | ⟨b,off,cap,rfl,hx⟩
   ·rw [hx] at h0;exact absurd rfl h0
   ·rcases h2 with ⟨a,_,hy⟩ | ⟨b',off',cap',rfl,hy⟩
    ·rw [hy] at hne;exact absurd hne h0
    ·have:=ACl b off cap b' off' cap' xs ys xs.length w hx hy l1' rfl hne.symm
     rw [hne] at this |-
     exact this
 ·rw [e1,e2]
  have:decide (xs=ys)=false:=decide_eq_false fun e=>hne (by rw [e])
  rw [this]
  exact Aob a1 a2 _ _ c1 c2 w (by omega) l1' l2'
end Go.V.W
namespace Go.V.W
open Go.Proofs Go.RowKit Go.Shelf Go.Lib Go.Sort
def kpB (key:Nat->List Int) (j:Nat):Bool:=j==0 || !decide (key j=key (j-1))
def Bk (key:Nat->List Int) (m:Nat):List Nat:=(List.range m).filter (kpB key)
theorem Lm (key:Nat->List Int) (m:Nat):Bk key (m+1)=if kpB key m=true then Bk key m++[m] else Bk key m:=by
 unfold Bk
 rw [List.range_succ,List.filter_append]
 cases h:kpB key m<;>simp [h]
theorem Um {key:Nat->List Int}:∀{m:Nat},(∀j,j<m->kpB key j=true)->Bk key m=List.range m:=by
 intro m h
 unfold Bk
 exact List.filter_eq_self.2 fun j hj=>h j (List.mem_range.1 hj)
theorem Xu (key:Nat->List Int) (m:Nat):(Bk key m).length<=m:=by
 have:=List.length_filter_le (kpB key) (List.range m)
 rw [List.length_range] at this
 exact this
structure CInv (key:Nat->List Int) (n m k:Nat) (dk:Array Nat):Prop where
 size:dk.size=n
 len:(Bk key m).length=k
 lt:k<m
 low:∀j,j<k->(Bk key m)[j]? = some dk[j]!
 high:∀j,k<=j->j<n->dk[j]! = j
theorem Hj {n j:Nat} (h:j<n):(Array.range n)[j]! = j:=by
 rw [getElem!_pos (Array.range n) j (by simpa using h)]
 simp
theorem CInv.start {key:Nat->List Int} {n k0:Nat} (hk:k0<n) (hall:∀j,j<k0->kpB key j=true) (hdup:kpB key k0=false):CInv key n (k0+1) k0 (Array.range n):=by
 have e:Bk key (k0+1)=List.range k0:=by rw [Lm,hdup,Um hall];rfl
 refine ⟨by simp,by rw [e];simp,Nat.lt_succ_self _,fun j hj => ?_,fun j _ hj=>Hj hj⟩
 rw [e,Hj (by omega)]
 simp [hj]
theorem CInv.keep {key:Nat->List Int} {n m k:Nat} {dk:Array Nat} (h:CInv key n m k dk) (hm:m<n) (hk:kpB key m=true):CInv key n (m+1) (k+1) (dk.setIfInBounds k m):=by
 have hs:=h.size
 have hl:=h.len
 have hlt:=h.lt
 have hs2:(dk.setIfInBounds k m).size=n:=by simp [hs]
 have e:Bk key (m+1)=Bk key m++[m]:=by rw [Lm,hk];rfl
 refine ⟨by simp [hs],by rw [e];simp [hl],by omega,fun j hj => ?_,fun j h1 h2 => ?_⟩
 ·rw [e]
  by_cases hj2:j<k
  ·rw [List.getElem?_append_left (by omega),h.low j hj2]
   rw [getElem!_pos (dk.setIfInBounds k m) j (by omega),getElem!_pos dk j (by omega),Array.getElem_setIfInBounds (by omega),if_neg (by omega)]
  ·have:j=k:=by omega
   subst this
   rw [List.getElem?_append_right (by omega),hl,Nat.sub_self]
   rw [getElem!_pos (dk.setIfInBounds j m) j (by omega),Array.getElem_setIfInBounds (by omega),if_pos rfl]
   rfl
 ·rw [getElem!_pos (dk.setIfInBounds k m) j (by omega),Array.getElem_setIfInBounds (by omega),if_neg (by omega),<- getElem!_pos dk j (by omega)]
  exact h.high j (by omega) h2
theorem CInv.skip {key:Nat->List Int} {n m k:Nat} {dk:Array Nat} (h:CInv key n m k dk) (hk:kpB key m=false):CInv key n (m+1) k dk:=by
 have e:Bk key (m+1)=Bk key m:=by rw [Lm,hk];rfl
 have:=h.lt
 exact ⟨h.size,by rw [e];exact h.len,by omega,by rw [e];exact h.low,h.high⟩
end Go.V.W
namespace Go.V.W
open Go.Proofs Go.RowKit Go.Shelf Go.Lib Go.Sort
theorem CInv.done {key:Nat->List Int} {n k:Nat} {dk:Array Nat} (h:CInv key n n k dk) (z:Nat):lay dk k (List.replicate (n-k) z)=(Bk key n++List.replicate (n-k) z).toArray:=by
 have hk:=h.lt
 have hs:=h.size
 have hl:=h.len
 apply Array.ext_getElem?
 intro i
 rw [lay_get? _ _ _ _ (by simp;omega)]
 simp only [List.length_replicate,List.getElem?_toArray]
 by_cases h1:i<k
 ·rw [if_neg (by omega),List.getElem?_append_left (by omega),h.low i h1,getElem!_pos dk i (by omega)]
  exact Array.getElem?_eq_getElem (by omega)
 ·rw [List.getElem?_append_right (by omega),hl]
  by_cases h2:i<n
  ·rw [if_pos (by omega)]
  ·rw [if_neg (by omega),Array.getElem?_eq_none (by omega),List.getElem?_eq_none (by simp;omega)]
theorem Aw0 (key:Nat->List Int):∀j,j<1->kpB key j=true:=fun j hj=>by
 have:j=0:=by omega
 subst this
 rfl
set_option maxHeartbeats 8000000 in
set_option maxRecDepth 1000000 in
theorem Alg (enc:Nat->Value) (key:Nat->List Int) (blk off cap n:Nat) (w:World) (henc:Aside (∀i,∃a l c,enc i=.slice a l c)) (hz:Aside (enc n=.slice none 0 0))
  (hH:Go.Sort.Holds enc w blk off (Array.range n)) (hn:n<=1099511627776) (hcap:n<=cap) (h2:2<=n)
  (heq:Aside (∀(q:Nat) (dk:Array Nat),dk.size=n -> ∀i j,i<n->j<n->Calls Tryz.prog 144 #[enc i,enc j] (putRow enc (Sort.ahead w q) blk off dk) fun e w'=>e=.returned (.bool (decide (key i=key j))) /\ ∃q',w'=(putRow enc (Sort.ahead w q) blk off dk).drewN q')) :
  Calls Tryz.prog 178 #[.slice (some ⟨blk,off,none⟩) n cap,.func (.func 144) #[] #[]] w fun e w'=>e=.returned (.slice (some ⟨blk,off,none⟩) (Bk key n).length cap) /\ ∃q,w'=putRow enc (Sort.ahead w q) blk off (Bk key n++List.replicate (n-(Bk key n).length) n).toArray:=by
 have mixed:Tryz.prog.follows .mixedOrders=true:=by kernel_rfl
 have hsr:(Array.range n).size=n:=by simp
 have HH:Aside (Go.Sort.Holds enc w blk off (Array.range n)):=hH
 have e49:∀(args:Array Value) (w:World),(callFunc 144 args).run Tryz.prog w=.ok (.enter 144 args) w:=enters_of Tryz.func144 (by kernel_rfl) rfl
 clear hH
 go_enter Tryz.func178,Tryz.ntmps178
 go_wp2
 go_loopg [5] n (fun g s5 wr => ∃k q:Nat,1<=k/\k<=n/\n-k<=g/\s5=.int .i64 k/\wr=w.drewN q/\Aside (∀j,j<k->kpB key j=true))
 case atStart=>exact ⟨1,0,ACr _,by omega,by omega,rfl,rfl,Aw0 key⟩
 case round=>
  obtain ⟨k,q,hk1,hk,hg,rfl,hwr,A⟩:=hrel
  have HW:Aside (wr=w.drewN q):=hwr
  clear hwr
  by_cases hlt:k<n
  ·obtain ⟨a1,l1,c1,ek⟩:=henc.out k
   obtain ⟨a0,l0,c0,ek0⟩:=henc.out (k-1)
   obtain ⟨kp,hkp⟩:∃p,p+1=k:=⟨k-1,by omega⟩
   obtain ⟨iN,hiN⟩:∃p,p=k:=⟨_,rfl⟩
   obtain ⟨jN,hjN⟩:∃p,p=k-1:=⟨_,rfl⟩
   have zk:(k:Int)=(kp:Int)+1:=by omega
   have ea:((kp:Int)+1).toNat=iN:=by omega
   have pa:(0:Int)<=(kp:Int)+1:=by omega
   have ba:(kp:Int)+1<(n:Int):=by omega
   have ra:IntKind.i64.wrap ((kp:Int)+1)=(kp:Int)+1:=by rw [IntKind.wrap_i64];omega
   have ec:((kp:Int)).toNat=jN:=by omega
   have pc:(0:Int)<=(kp:Int):=by omega
   have bc:(kp:Int)<(n:Int):=by omega
   have rc:IntKind.i64.wrap ((kp:Int))=(kp:Int):=by rw [IntKind.wrap_i64];omega
   have hc1:wr.cell? ⟨blk,off+iN,none⟩=some (.slice a1 l1 c1):=by
    have:=(HH.out k (by rw [hsr];exact hlt)).1
    rw [Hj hlt,ek] at this
    rw [hiN,HW.out]
    exact this
   have hc0:wr.cell? ⟨blk,off+jN,none⟩=some (.slice a0 l0 c0):=by
    have:=(HH.out (k-1) (by rw [hsr];omega)).1
    rw [Hj (by omega),ek0] at this
    rw [hjN,HW.out]
    exact this
   have hcall:∀m,Calls Tryz.prog 144 #[.slice a1 l1 c1,.slice a0 l0 c0] (wr.drewN m) fun e w'=>e=.returned (.bool (decide (key k=key (k-1)))) /\ ∃q',w'=(wr.drewN m).drewN q':=fun m=>by
    have:=heq.out (q+m) (Array.range n) hsr k (k-1) hlt (by omega)
    rw [putRow_self enc (Sort.ahead w (q+m)) blk off _ (holds_ahead enc w (q+m) blk off _ HH.out),ek,ek0] at this
    rw [HW.out,World.drewN_drewN]
    exact this
   by_cases hdup:key k=key (k-1)
   ·have hb:decide (key k=key (k-1))=true:=decide_eq_true hdup
    rw [hb] at hcall
    have D:Aside (kpB key k=false):=by
     show _=_
     unfold kpB
     have:(k==0)=false:=by simp;omega
     rw [this,hb];rfl
    have IN:Aside (iN=k):=hiN
    clear hdup hb ek ek0 hiN hjN
    go_wp2_with fail
    go_quiet_o (first | (go_at_fn 144;refine Calls.quiet_of (hcall _)))
    clear hcall hc1 hc0
    go_wp2
    go_loopg [5,7] n (fun g s5 s7 w2 => ∃(kk k2 q2:Nat) (dk:Array Nat),s5=.int .i64 kk/\s7=.int .i64 k2/\1<=k2/\k+k2<=n/\n-(k+k2)<=g/\Aside (w2=putRow enc (Sort.ahead w q2) blk off dk)/\Aside (CInv key n (k+k2) kk dk))
    case atStart=>
     refine ⟨k,1,q+nq,Array.range n,by rw [zk],rfl,ACr _,by omega,by omega,?_,CInv.start hlt A.out D.out⟩
     show _=_
     rw [HW.out,World.drewN_drewN]
     exact (putRow_self enc (Sort.ahead w (q+nq)) blk off _ (holds_ahead enc w (q+nq) blk off _ HH.out)).symm
    case round=>
     obtain ⟨kk,k2,q2,dk,rfl,rfl,h1,hle,hg2,W2,I2⟩:=hrel
     have hkk:=I2.out.lt
     have hds:=I2.out.size
     have HK:Aside (Go.Sort.Holds enc wr blk off dk):=by
      show Go.Sort.Holds _ _ _ _ _
      rw [W2.out]
      exact holds_putRow enc _ blk off _ dk (holds_ahead enc w q2 blk off _ HH.out) (by rw [hds,hsr])
     clear ea pa ba ra ec pc bc rc
     by_cases hlt2:k+k2<n
     ·obtain ⟨a1,l1,c1,ek⟩:=henc.out (k+k2)
      obtain ⟨a0,l0,c0,ek0⟩:=henc.out (k+k2-1)
      obtain ⟨old,hold⟩:∃v,v=enc dk[kk]!:=⟨_,rfl⟩
      obtain ⟨p2,hp2⟩:∃p,p+1=k2:=⟨k2-1,by omega⟩
      obtain ⟨iM,hiM⟩:∃p,p=k2:=⟨_,rfl⟩
      obtain ⟨jM,hjM⟩:∃p,p=k2-1:=⟨_,rfl⟩
      have zk2:(k2:Int)=(p2:Int)+1:=by omega
      have ea:((p2:Int)+1).toNat=iM:=by omega
      have pa:(0:Int)<=(p2:Int)+1:=by omega
      have ra:IntKind.i64.wrap ((p2:Int)+1)=(p2:Int)+1:=by rw [IntKind.wrap_i64];omega
      have ec:((p2:Int)).toNat=jM:=by omega
      have pc:(0:Int)<=(p2:Int):=by omega
      have rc:IntKind.i64.wrap ((p2:Int))=(p2:Int):=by rw [IntKind.wrap_i64];omega
      have ba:(p2:Int)+1<((n-iN:Nat):Int):=by have:=IN.out;omega
      have bc:(p2:Int)<((n-iN:Nat):Int):=by have:=IN.out;omega
      have hc1:wr.cell? ⟨blk,off+iN+iM,none⟩=some (.slice a1 l1 c1):=by
       have:=(HK.out (k+k2) (by omega)).1
       rw [I2.out.high (k+k2) (by omega) hlt2,ek] at this
       rw [hiM,IN.out,Nat.add_assoc]
       exact this
      have hc0:wr.cell? ⟨blk,off+iN+jM,none⟩=some (.slice a0 l0 c0):=by
       have:=(HK.out (k+k2-1) (by omega)).1
       rw [I2.out.high (k+k2-1) (by omega) (by omega),ek0] at this
       rw [hjM,IN.out,show off+k+(k2-1)=off+(k+k2-1) by omega]
       exact this
      have hck:wr.cell? ⟨blk,off+kk,none⟩=some old:=by
       rw [hold]
       exact (HK.out kk (by omega)).1
      have hfk:wr.frozen? ⟨blk,off+kk,none⟩=false:=(HK.out kk (by omega)).2
      have hcall:∀m,Calls Tryz.prog 144 #[.slice a1 l1 c1,.slice a0 l0 c0] (wr.drewN m) fun e w'=>e=.returned (.bool (decide (key (k+k2)=key (k+k2-1)))) /\ ∃q',w'=(wr.drewN m).drewN q':=fun m=>by
       have:=heq.out (q2+m) dk hds (k+k2) (k+k2-1) hlt2 (by omega)
       have e:wr.drewN m=putRow enc (Sort.ahead w (q2+m)) blk off dk:=by rw [W2.out];exact putRow_drewN _ _ _ _ _ _ _
       rw [ek,ek0,<- e] at this
       exact this
      have IM:Aside (iM=k2):=hiM
      have EK:Aside (enc (k+k2)=.slice a1 l1 c1):=ek
      by_cases hdup:key (k+k2)=key (k+k2-1)
      ·have hb:decide (key (k+k2)=key (k+k2-1))=true:=decide_eq_true hdup
       rw [hb] at hcall
       have D2:Aside (kpB key (k+k2)=false):=by
        show _=_
        unfold kpB
        have:(k+k2==0)=false:=by simp;omega
        rw [this,hb];rfl
       clear hdup hb ek ek0 hiM hjM hold
       go_wp2_with fail
       go_quiet_o (first | (go_at_fn 144;refine Calls.quiet_of (hcall _)))
       clear hcall hc1 hc0
       go_wp2
       go_roundg (n-(k+(k2+1)))
       case measure=>omega
       case rel=>exact ⟨kk,k2+1,q2+nq,dk,rfl,by congr 1;omega,by omega,by omega,ACr _,(by show _=_;rw [W2.out];exact putRow_drewN _ _ _ _ _ _ _),I2.out.skip D2.out⟩
      ·have hb:decide (key (k+k2)=key (k+k2-1))=false:=decide_eq_false hdup
       rw [hb] at hcall
       have D2:Aside (kpB key (k+k2)=true):=by
        show _=_
        unfold kpB
        rw [hb];simp
       clear hdup hb ek ek0 hiM hjM hold
       go_wp2_with fail
       go_quiet_o (first | (go_at_fn 144;refine Calls.quiet_of (hcall _)))
       clear hcall
       go_wp2
       go_roundg (n-(k+(k2+1)))
       case measure=>omega
       case rel=>
        refine ⟨kk+1,k2+1,q2+nq,dk.setIfInBounds kk (k+k2),by first | rfl | (congr 1;omega),by first | rfl | (congr 1;omega),by omega,by omega,ACr _,?_,I2.out.keep hlt2 D2.out⟩
        show _=_
        rw [<- putRow_set enc _ blk off dk kk (k+k2) (by omega),EK.out,<- putRow_drewN,<- W2.out]
     ·have hend:k+k2=n:=by omega
      have hcl:∀ty,(Builtin.clear_ #[26] ty #[.slice (some ⟨blk,off+kk,none⟩) (n-kk) (cap-kk)]).run Tryz.prog wr=.ok (.tuple #[]) (wr.setCells blk (off+kk) (List.replicate (n-kk) (enc n))):=fun ty=>by
       rw [hz.out]
       exact Lib.run_clear_slice wr 26 45 ty _ Tryz.underlying26 (fun w=>by rfl) rfl rfl blk (off+kk) _ _ (by omega) (fun j hj=>by rw [show off+kk+j=off+(kk+j) by omega,(HK.out (kk+j) (by omega)).1];rfl) (fun j hj=>by rw [show off+kk+j=off+(kk+j) by omega];exact (HK.out (kk+j) (by omega)).2)
      have hge:¬k2<n-iN:=by have:=IN.out;omega
      have hge2:¬(k2:Int)<((n-iN:Nat):Int):=by omega
      go_wp2
      go_ret
      have hI:=I2.out
      rw [hend] at hI
      refine ⟨by rw [hI.len];rfl,q2,?_⟩
      rw [hI.len,<- hI.done n,<- putRow_setCells enc _ blk off _ dk kk (by simp;omega),<- W2.out,List.map_replicate]
   ·have hb:decide (key k=key (k-1))=false:=decide_eq_false hdup
    rw [hb] at hcall
    have D:Aside (kpB key k=true):=by
     show _=_
     unfold kpB
     rw [hb];simp
    clear hdup hb ek ek0 hiN hjN
    go_wp2_with fail
    go_quiet_o (first | (go_at_fn 144;refine Calls.quiet_of (hcall _)))
    clear hcall hc1 hc0
    go_wp2
    go_roundg (n-(k+1))
    case measure=>omega
    case rel=>
     refine ⟨k+1,q+nq,by omega,by omega,ACr _,by congr 1;omega,by rw [HW.out,World.drewN_drewN],fun j hj => ?_⟩
     by_cases e:j=k
     ·subst e
      exact D.out
     ·exact A.out j (by omega)
  ·have:k=n:=by omega
   subst this
   go_wp2
   go_ret
   have e:=Um A.out
   have el:(Bk key k).length=k:=by rw [e];simp
   refine ⟨by rw [el];rfl,q,?_⟩
   rw [el,e,Nat.sub_self,List.replicate_zero,List.append_nil,HW.out]
   have e2:(List.range k).toArray=Array.range k:=by simp
   rw [e2]
   exact (putRow_self enc (Sort.ahead w q) blk off _ (holds_ahead enc w q blk off _ HH.out)).symm
set_option maxRecDepth 1000000 in
theorem PY (p:Option Addr) (n cap:Nat) (fv:Value) (w:World) (h:n<2):Calls Tryz.prog 178 #[.slice p n cap,fv] w fun e w'=>e=.returned (.slice p n cap)/\w'=w:=by
 have hn:(n:Int)<2:=by omega
 go_enter Tryz.func178,Tryz.ntmps178
 go_wp2
 go_ret
 exact ⟨rfl,rfl⟩
end Go.V.W
namespace Go.V.W
open Go.RowKit Go.Proofs Go.Lib
open Go.Sort (grow putRow mapBlock putCells onCells)
def Cl (xss:List (List Int)) (j:Nat):List Int:=xss.getD j []
def GR (xss:List (List Int)):List (List Int):=(Bk (Cl xss) xss.length).map (Cl xss)
def EN (d:List (List Int)×(Unit×Unit)×Unit):Option (List (List Int)×List (List Int)×Unit):=if I6 d.1=true then some (GR d.1,d.1,()) else none
theorem YG {xss:List (List Int)} (h:xss.length<2):GR xss=xss:=by
 match xss,h with
 | [],_=>rfl
 | [x],_=>rfl
theorem Ac7 (key:Nat->List Int) (n:Nat):(Bk key n).Pairwise (· ≠ ·):=by
 unfold Bk
 exact List.Pairwise.filter _ (List.Pairwise.imp (fun h=>by omega) List.pairwise_lt_range)
open Classical in
def UM (l:List Nat) (j:Nat):Option Nat:=if h:∃i,∃hi:i<l.length,l[i]=j then some h.choose else none
theorem ZF {l:List Nat} (hp:l.Pairwise (· ≠ ·)) {i:Nat} (hi:i<l.length):UM l l[i]=some i:=by
 have h:∃k,∃hk:k<l.length,l[k]=l[i]:=⟨i,hi,rfl⟩
 unfold UM
 rw [dif_pos h]
 obtain ⟨h1,h2⟩:=h.choose_spec
 congr 1
 rw [List.pairwise_iff_getElem] at hp
 rcases Nat.lt_trichotomy h.choose i with h' | h' | h'
 ·exact absurd h2 (hp _ _ h1 hi h')
 ·exact h'
 ·exact absurd h2.symm (hp _ _ hi h1 h')
def VF (l:List Nat):Nat×Ah->Option Lab
 | (0,[])=>some (.res [.l])
 | (0,[.i j])=>(UM l j).map fun i=>.res [.l,.i i]
 | (0,_)=>none
 | (i,q)=>some (.io i q)
theorem Wn {P:Program} {f g:FuncId} (he:∀(args:Array Value) (w:World),(callFunc f args).run P w=.ok (.enter f args) w)
  (hc:∀(w:World) (v1 v2:Value) (xs ys:List Int),Hdr w v1 xs->Hdr w v2 ys->xs.length<=lim->ys.length<=lim->Calls P g #[v1,v2] w fun e w'=>e=.returned (.bool (decide (xs=ys))) /\ ∃q,w'=w.drewN q)
  (h:∀(enc:Nat->Value) (key:Nat->List Int) (blk off cap n:Nat) (w:World),Aside (∀i,∃a l c,enc i=.slice a l c)->Aside (enc n=.slice none 0 0)->Go.Sort.Holds enc w blk off (Array.range n)->n<=1099511627776->n<=cap->2<=n ->
   Aside (∀(q:Nat) (dk:Array Nat),dk.size=n -> ∀i j,i<n->j<n->Calls P g #[enc i,enc j] (putRow enc (Go.Sort.ahead w q) blk off dk) fun e w'=>e=.returned (.bool (decide (key i=key j))) /\ ∃q',w'=(putRow enc (Go.Sort.ahead w q) blk off dk).drewN q') ->
   Calls P f #[.slice (some ⟨blk,off,none⟩) n cap,.func (.func g) #[] #[]] w fun e w'=>e=.returned (.slice (some ⟨blk,off,none⟩) (Bk key n).length cap) /\ ∃q,w'=putRow enc (Go.Sort.ahead w q) blk off (Bk key n++List.replicate (n-(Bk key n).length) n).toArray)
  (h0:∀(p:Option Addr) (n cap:Nat) (fv:Value) (w:World),n<2->Calls P f #[.slice p n cap,fv] w fun e w'=>e=.returned (.slice p n cap)/\w'=w) :
  AR P f (⟨[(kSS,true),(.clo g .unit .unit,false)],[kSS],true,EN⟩,{ gone:=[0],deep:=[] }):=by
 intro w ψ U vs d out hargs hU hψ hgl ho
 obtain ⟨xss,fv,u⟩:=d
 have ho:EN (xss,fv,u)=some out:=ho
 unfold EN at ho
 split at ho
 case isFalse=>cases ho
 rename_i hl
 have hl:(okL xss&&xss.all okL)=true:=hl
 simp only [ACo] at hl
 obtain ⟨hl,hal⟩:=hl
 have hl:xss.length<=lim:=of_decide_eq_true hl
 have hal:∀x∈xss,x.length<=lim:=fun x hx=>of_decide_eq_true (List.all_eq_true.1 hal x hx)
 obtain rfl:=ACs ho
 obtain ⟨c1,r1,rfl,k2,c2,r2,rfl,k3,k5⟩:=hargs
 have k5:r2=[]:=k5
 subst k5
 have hfv:Am (.clo g .unit .unit) c2=.func (.func g) #[] #[]:=by
  obtain ⟨a1,a2,e,_⟩:=(show Rep w _ (.clo g .unit .unit) [] c2 fv from k3)
  rw [e]
  rfl
 rw [hfv]
 have k2:Rep w (fun q b=>ψ b=some (0,q)) kSS [] c1 xss:=k2
 have k2':=k2
 rw [Rep] at k2
 by_cases hsm:xss.length<2
 ·-- nothing to cut
  obtain ⟨p,cap,e⟩:∃p cap,c1=[.slice p xss.length cap]:=by
   rcases k2 with ⟨⟨a,e⟩,hz⟩ | ⟨b,off,cap,e,_⟩
   ·have hz:xss=[]:=hz
    rw [hz]
    exact ⟨a,0,e⟩
   ·exact ⟨_,cap,e⟩
  unfold BJ
  rw [e,show (Am kSS [Value.slice p xss.length cap]::[Value.func (.func g) #[] #[]]).toArray = #[.slice p xss.length cap,.func (.func g) #[] #[]] from rfl,he]
  refine Calls.mono (h0 p xss.length cap _ w hsm) fun v w' hh => ?_
  obtain ⟨rfl,rfl⟩:=hh
  refine ⟨fun b=>match ψ b with | some (0,q)=>some (.res (.l::q)) | some (i,q)=>some (.io i q) | none=>none,⟨rfl,rfl,rfl,ACr _,fun _ _ _=>rfl,fun b z hz => ?_,⟨[.slice p xss.length cap],rfl,?_⟩,⟨fun h=>(by cases h),trivial⟩,fun _ _ k hk=>(by cases hk)⟩⟩
  ·cases hb:ψ b with
   | none=>rw [hb] at hz;cases hz
   | some y=>exact ⟨.inr (by simp),hψ b y hb⟩
  ·show Rep _ _ (.pair kSS .unit) [] [.slice p xss.length cap] (GR xss,())
   rw [YG hsm]
   refine ⟨?_,rfl⟩
   show Rep _ _ kSS [.l] [.slice p xss.length cap] xss
   rw [e] at k2
   rw [Rep]
   rcases k2 with hz | ⟨b,off,cap',e',kc,kS,kb,ke⟩
   ·exact .inl hz
   ·refine .inr ⟨b,off,cap',e',kc,?_,kb,fun i hi => ?_⟩
    ·show (match ψ b with | some (0,q)=>some (Lab.res (.l::q)) | some (i,q)=>some (.io i q) | none=>none)=some (.res [.l])
     rw [kS]
     rfl
    ·have hj:=ke i hi
     obtain ⟨v,hv⟩:∃v,Ai w' b (off+i*(Kd.slice (.int .i64)).size) (Kd.slice (.int .i64)).size=[v]:=by
      have:=hj.length
      match hcl:Ai w' b (off+i*(Kd.slice (.int .i64)).size) (Kd.slice (.int .i64)).size,this with
      | [v],_=>exact ⟨v,rfl⟩
     rw [hv] at hj |-
     refine S4 hj fun b' hb'=>⟨rfl,?_⟩
     show (match ψ b' with | some (0,q)=>some (Lab.res (.l::q)) | some (i,q)=>some (.io i q) | none=>none)=some (.res ([.l]++[.i i]))
     have hb':ψ b'=some (0,[.i i]):=hb'
     rw [hb']
     rfl
 ·rcases k2 with ⟨_,hz⟩ | ⟨b,off,cap,e,kc,kS,kb,ke⟩
  ·have hz:xss=[]:=hz
   rw [hz] at hsm
   exact absurd (show [].length<2 by simp) hsm
  have kS:ψ b=some (0,[]):=kS
  obtain ⟨cs,T,fr,hrow,hthaw⟩:=hψ b _ kS
  obtain ⟨cs2,T2,fr2,hrow2,hfit⟩:=kb
  rw [hrow] at hrow2
  injection hrow2 with hrow2
  injection hrow2 with e1 e2 e3
  subst e1 e2 e3
  simp only [Kd.size,Nat.mul_one] at hfit
  obtain ⟨n,hn⟩:∃n,xss.length=n:=⟨_,rfl⟩
  rw [hn] at kc hsm
  have hlt:∀j,j<n->off+j<cs.size:=fun j hj=>by omega
  have hel:∀j (hj:j<n),Rep w (fun q b=>ψ b=some (0,q)) (.slice (.int .i64)) [.i j] [cs[off+j]'(hlt j hj)] (Cl xss j):=fun j hj=>by
   have hj':j<xss.length:=by omega
   have:=ke j hj'
   simp only [Kd.size,Nat.mul_one,List.nil_append] at this
   unfold Ai at this
   rw [hrow] at this
   have e:(cs.toList.drop (off+j)).take 1=[cs[off+j]'(hlt j hj)]:=by
    rw [ACv (by simpa using hlt j hj),List.take_succ_cons,List.take_zero,Array.getElem_toList]
   simp only at this
   rw [e] at this
   have e2:Cl xss j=xss.get ⟨j,hj'⟩:=by simp [Cl,ACy,hj']
   rw [e2]
   exact this
  have hb:=(Array.getElem?_eq_some_iff.1 hrow).1
  let enc:Nat->Value:=fun j=>if hj:j<n then cs[off+j]'(hlt j hj) else .slice none 0 0
  have henc:∀j (hj:j<n),enc j=cs[off+j]'(hlt j hj):=fun j hj=>dif_pos hj
  have hsl:Aside (∀i,∃a l c,enc i=.slice a l c):=fun i=>by
   by_cases hi:i<n
   ·rw [henc i hi]
    have:=hel i hi
    rw [Rep] at this
    rcases this with ⟨⟨a,e⟩,_⟩ | ⟨b',o',c',e,_⟩
    ·exact ⟨_,_,_,(List.cons.inj e).1⟩
    ·exact ⟨_,_,_,(List.cons.inj e).1⟩
   ·exact ⟨none,0,0,dif_neg hi⟩
  have hneb:∀j b',ψ b'=some (0,[.i j])->b'≠b:=fun j b' h1 e=>by
   subst e
   rw [kS] at h1
   cases h1
  have hother':∀(m:Nat) (dk:Array Nat) (k:Nat),k<w.heap.size->k≠b->(putRow enc (Go.Sort.ahead w m) b off dk).heap[k]? = w.heap[k]?:=fun m dk k hk hne=>by
   rw [L9 hne]
   rfl
  have hH:Go.Sort.Holds enc w b off (Array.range n):=fun j hj=>by
   have hj':j<n:=by simpa using hj
   rw [Hj hj',henc j hj']
   constructor
   ·unfold World.cell?
    rw [hrow]
    simp [hlt j hj']
   ·unfold World.frozen?
    rw [hrow]
    obtain ⟨f1,f2⟩:=fr
    have:=hlt j hj'
    simp only at hthaw
    simp
    omega
  have hcmp:Aside (∀(q:Nat) (dk:Array Nat),dk.size=n -> ∀i j,i<n->j<n->Calls P g #[enc i,enc j] (putRow enc (Go.Sort.ahead w q) b off dk) fun e w'=>e=.returned (.bool (decide (Cl xss i=Cl xss j))) /\ ∃q',w'=(putRow enc (Go.Sort.ahead w q) b off dk).drewN q'):=fun q dk hs i j hi hj=>by
   have hh:∀z (hz:z<n),Hdr (putRow enc (Go.Sort.ahead w q) b off dk) (enc z) (Cl xss z):=fun z hz=>by
    rw [henc z hz]
    exact Aq2 (hel z hz) fun b' hb'=>hother' q dk b' (hψ b' _ hb').lt (hneb _ _ hb')
   have hln:∀z,z<n->(Cl xss z).length<=lim:=fun z hz=>by
    have hz:z<xss.length:=by omega
    have:Cl xss z=xss[z]:=by simp [Cl,ACy,hz]
    rw [this]
    exact hal _ (ACw hz)
   exact hc _ _ _ _ _ (hh i hi) (hh j hj) (hln i hi) (hln j hj)
  have hcall:=h enc (Cl xss) b off cap n w hsl (dif_neg (Nat.lt_irrefl n)) hH (by unfold lim at hl;omega) kc (by omega) hcmp
  unfold BJ
  rw [e,hn,show (Am kSS [Value.slice (some ⟨b,off,none⟩) n cap]::[Value.func (.func g) #[] #[]]).toArray = #[.slice (some ⟨b,off,none⟩) n cap,.func (.func g) #[] #[]] from rfl,he]
  refine Calls.mono hcall fun v w' hh => ?_
  obtain ⟨rfl,m,rfl⟩:=hh
  have hother:=hother' m (Bk (Cl xss) n++List.replicate (n-(Bk (Cl xss) n).length) n).toArray
  have hkl:=Xu (Cl xss) n
  have hnew:(putRow enc (Go.Sort.ahead w m) b off (Bk (Cl xss) n++List.replicate (n-(Bk (Cl xss) n).length) n).toArray).heap[b]? = some (.cells (putCells enc off (Bk (Cl xss) n++List.replicate (n-(Bk (Cl xss) n).length) n).toArray cs) T fr):=RG (w:=Go.Sort.ahead w m) hrow
  generalize hD:(Bk (Cl xss) n++List.replicate (n-(Bk (Cl xss) n).length) n).toArray=D at hother hnew
  have hDs:D.size=n:=by rw [<- hD];simp;omega
  have hps:(putCells enc off D cs).size=cs.size:=by simp [putCells]
  have hsz:(putRow enc (Go.Sort.ahead w m) b off D).heap.size=w.heap.size:=by simp [putRow,mapBlock]
  refine ⟨fun b=>match ψ b with | some z=>VF (Bk (Cl xss) n) z | none=>none,⟨rfl,rfl,rfl,by rw [hsz];exact ACr _,fun k hk hn => ?_,fun k z hz => ?_,⟨[.slice (some ⟨b,off,none⟩) (Bk (Cl xss) n).length cap],rfl,?_⟩,⟨fun h=>(by cases h),trivial⟩,fun _ _ k hk=>(by cases hk)⟩⟩
  ·exact hother k hk (fun e=>by subst e;rw [kS] at hn;cases hn)
  ·cases hk:ψ k with
   | none=>rw [hk] at hz;cases hz
   | some y=>
    refine ⟨.inr (by simp),?_⟩
    by_cases e:k=b
    ·subst e
     exact ⟨_,T,fr,hnew,hthaw.imp (fun h=>h) fun h=>by rw [hps];exact h⟩
    ·exact (hψ k y hk).same (hother k (hψ k y hk).lt e)
  ·show Rep _ _ (.pair kSS .unit) [] [.slice (some ⟨b,off,none⟩) (Bk (Cl xss) n).length cap] (GR xss,())
   refine ⟨?_,rfl⟩
   show Rep _ _ kSS [.l] [.slice (some ⟨b,off,none⟩) (Bk (Cl xss) n).length cap] (GR xss)
   have hlen:(GR xss).length=(Bk (Cl xss) n).length:=by unfold GR;rw [List.length_map,hn]
   rw [Rep]
   refine .inr ⟨b,off,cap,by rw [hlen],by rw [hlen];omega,?_,⟨_,T,fr,hnew,?_⟩,fun i hi => ?_⟩
   ·show (match ψ b with | some z=>VF (Bk (Cl xss) n) z | none=>none)=some (.res [.l])
    rw [kS]
    rfl
   ·simp only [Kd.size,Nat.mul_one]
    rw [hps]
    exact hfit
   ·have hi1:i<(Bk (Cl xss) n).length:=by rw [<- hlen];exact hi
    have hjn:(Bk (Cl xss) n)[i]<n:=by
     have:=List.mem_filter.1 (ACw hi1)
     exact List.mem_range.1 this.1
    have hDi:D[i]! = (Bk (Cl xss) n)[i]:=by
     rw [<- hD,getElem!_pos _ i (by simp;omega)]
     simp [List.getElem_append,hi1]
    have ecell:Ai (putRow enc (Go.Sort.ahead w m) b off D) b (off+i*(Kd.slice (.int .i64)).size) (Kd.slice (.int .i64)).size=[enc (Bk (Cl xss) n)[i]]:=by
     unfold Ai
     rw [hnew]
     simp only [Kd.size,Nat.mul_one]
     have hlt2:off+i<(putCells enc off D cs).toList.length:=by rw [Array.length_toList,hps];exact hlt i (by omega)
     rw [ACv hlt2,List.take_succ_cons,List.take_zero]
     congr 1
     simp only [putCells,Array.getElem_toList,Array.getElem_mapIdx]
     rw [if_pos ⟨by omega,by omega⟩,show off+i-off=i by omega,hDi]
    have edata:(GR xss).get ⟨i,hi⟩=Cl xss (Bk (Cl xss) n)[i]:=by
     have:(GR xss)[i]=Cl xss (Bk (Cl xss) n)[i]:=by
      subst hn
      simp [GR]
     exact this
    rw [ecell,edata,henc _ hjn]
    refine S4 (hel _ hjn) fun b' hb'=>⟨hother b' (hψ b' _ hb').lt (hneb _ _ hb'),?_⟩
    show (match ψ b' with | some z=>VF (Bk (Cl xss) n) z | none=>none)=some (.res ([.l]++[.i i]))
    have hb':ψ b'=some (0,[.i (Bk (Cl xss) n)[i]]):=hb'
    rw [hb']
    show (UM (Bk (Cl xss) n) (Bk (Cl xss) n)[i]).map (fun i=>Lab.res [.l,.i i])=_
    rw [ZF (Ac7 _ _) hi1]
    rfl
end Go.V.W
namespace Go.V.W
def ltL (a b:List Int):Prop:=BO a b<0
theorem TF {a b c:List Int} (h1:ltL a b) (h2:ltL b c):ltL a c:=by
 unfold ltL at h1 h2 |-
 have h3:=QG (Int.le_of_lt h1) (Int.le_of_lt h2)
 rcases Int.lt_or_eq_of_le h3 with h | h
 ·exact h
 ·have e:=UD h
  rw [e,D6 b c] at h1
  omega
theorem Au4 (a:List Int):¬ltL a a:=by
 unfold ltL
 rw [Ks]
 omega
theorem XC {xss:List (List Int)} {j:Nat} (h:j<xss.length):Cl xss j=xss[j]:=by simp [Cl,ACy,h]
theorem X7 {xss:List (List Int)} (y:List Int):y∈GR xss↔y∈xss:=by
 unfold GR Bk
 rw [List.mem_map]
 constructor
 ·rintro ⟨i,hi,rfl⟩
  have:=List.mem_range.1 (List.mem_filter.1 hi).1
  rw [XC this]
  exact ACw this
 ·intro hy
  obtain ⟨i,hi,rfl⟩:=List.getElem_of_mem hy
  have key:∀i,i<xss.length -> ∃j,j∈(List.range xss.length).filter (kpB (Cl xss))/\Cl xss j=Cl xss i:=by
   intro i
   induction i with
   | zero=>
    intro hi
    exact ⟨0,List.mem_filter.2 ⟨List.mem_range.2 hi,rfl⟩,rfl⟩
   | succ i ih=>
    intro hi
    cases hk:kpB (Cl xss) (i+1) with
    | true=>exact ⟨i+1,List.mem_filter.2 ⟨List.mem_range.2 hi,hk⟩,rfl⟩
    | false=>
     obtain ⟨j,hj1,hj2⟩:=ih (by omega)
     refine ⟨j,hj1,hj2.trans ?_⟩
     unfold kpB at hk
     simp only [Nat.add_sub_cancel,Bool.or_eq_false_iff,Bool.not_eq_false',decide_eq_true_eq] at hk
     exact hk.2.symm
  obtain ⟨j,hj1,hj2⟩:=key i hi
  exact ⟨j,hj1,by rw [hj2,XC hi]⟩
def chL (ball:Int->List Int):List Int->List (List Int)->List (List Int)
 | [],now=>now
 | c::cs,now=>chL ball cs (now.flatMap fun l=>(ball c).map fun x=>l++[x])
def DD (ball:Int->List Int) (cops:List Int):List (List Int):=GR (He ((chL ball cops [[]]).map CE))
theorem Akc {b1 b2:Int->List Int}:∀{cs:List Int} {now:List (List Int)},(∀c∈cs,b1 c=b2 c)->chL b1 cs now=chL b2 cs now:=by
 intro cs
 induction cs with
 | nil=>intro now _;rfl
 | cons c cs ih=>
  intro now h
  simp only [chL,h c (by simp)]
  exact ih fun c hc=>h c (by simp [hc])
theorem XE {b1 b2:Int->List Int} {cs:List Int} (h:∀c∈cs,b1 c=b2 c):DD b1 cs=DD b2 cs:=by
 unfold DD
 rw [Akc h]
def Cq {α β:Type} (F:Nat->α->Option β) (P:α->β->Prop) (d:α):Option β:=
 open Classical in if h:∃r,P d r /\ ∃N,F N d=some r then some h.choose else none
theorem H4 {α β:Type} {F:Nat->α->Option β} {P:α->β->Prop} (d:α) (r:β) (h:Cq F P d=some r):∃N,F N d=some r:=by
 unfold Cq at h
 split at h
 ·rename_i hh
  have h:=ACs h
  subst h
  exact hh.choose_spec.2
 ·cases h
theorem Apv {α β:Type} {F:Nat->α->Option β} {P:α->β->Prop} {d:α} (h:∃N r,F N d=some r/\P d r):∃r,Cq F P d=some r/\P d r:=by
 obtain ⟨N,r,h1,h2⟩:=h
 have hh:∃r,P d r /\ ∃N,F N d=some r:=⟨r,h2,N,h1⟩
 unfold Cq
 rw [dif_pos hh]
 exact ⟨_,rfl,hh.choose_spec.1⟩
def Ok {α:Type} (o:Option α) (Q:α->Prop):Prop := ∃r,o=some r/\Q r
theorem Ok.bind {α β:Type} {o:Option α} {f:α->Option β} {Q:α->Prop} {R:β->Prop} (h:Ok o Q) (hf:∀r,Q r->Ok (f r) R):Ok (o.bind f) R:=by
 obtain ⟨r,h1,h2⟩:=h
 obtain ⟨x,h3,h4⟩:=hf r h2
 exact ⟨x,by rw [h1];exact h3,h4⟩
theorem Ok.some {α:Type} {r:α} {Q:α->Prop} (h:Q r):Ok (some r) Q:=⟨r,rfl,h⟩
theorem Ok.ite {α:Type} {c:Bool} {a b:Option α} {Q:α->Prop} (ha:c=true->Ok a Q) (hb:c=false->Ok b Q):Ok (if c=true then a else b) Q:=by
 cases c with
 | true=>exact ha rfl
 | false=>exact hb rfl
theorem Ok.pos {α:Type} {c:Bool} {a b:Option α} {Q:α->Prop} (hc:c=true) (ha:Ok a Q):Ok (if c=true then a else b) Q:=by rw [if_pos hc];exact ha
theorem Ok.mono {α:Type} {o:Option α} {Q R:α->Prop} (h:Ok o Q) (hR:∀r,Q r->R r):Ok o R:=by
 obtain ⟨r,h1,h2⟩:=h
 exact ⟨r,h1,hR r h2⟩
theorem Ok.pick {α β:Type} {F:Nat->α->Option β} {P:α->β->Prop} {d:α} (N:Nat) (h:Ok (F N d) (P d)):Ok (Cq F P d) (P d):=by
 obtain ⟨r,h1,h2⟩:=h
 exact Apv ⟨N,r,h1,h2⟩
abbrev Cur:=List Int×Int×Int×Unit
def I8 (c:Cur):Prop:=(∀x∈c.1,0<=x/\x<=255)/\0<=c.2.1
def Adv (k:Int) (c c':Cur):Prop:=I8 c'/\c'.2.1<=c.2.1+k
theorem Adv.trans {k m:Int} {c d e:Cur} (h:Adv k c d) (h':Adv m d e):Adv (k+m) c e:=⟨h'.1,by have:=h.2;have:=h'.2;omega⟩
theorem Adv.le {k m:Int} {c d:Cur} (h:Adv k c d) (hk:k<=m):Adv m c d:=⟨h.1,by have:=h.2;omega⟩
def GU:Int:=1099511627776
def ndB:List Int->Bool
 | []=>true
 | [_]=>true
 | a::b::l=>decide (a<=b)&&ndB (b::l)
def Lu (n:Int) (l:List Int):Bool:=l.all (inB 0 (n-1))&&ndB l
def MG (n:Int) (l:List Int):Bool:=decide (l.length<=3)&&l.all (inB 0 (n-1))
def EU (d:Nt×List Int×Unit):Option (List (List Int)×Unit):=if (CA d.1.1&&MG (d.1.1.length:Int) d.2.1)=true then some (DD (AF d.1.1) d.2.1,()) else none
def Cu (S:List Int) (y:Int):Bool:=S.any fun z=>z==y
def Bg (d:Int×Int×Unit):Option (List Int×Unit):=if (inB 0 8 d.1&&inB 0 255 d.2.1)=true then some (Ap (fun y=>d.2.1.toNat.testBit y) d.1.toNat 0,()) else none
def CO (d:List Int×Int×Unit):Option (List Int×Unit):=if okL d.1=true then some (d.1.filter (fun y=>y != d.2.1),()) else none
def Adc (e:E):List E->List E
 | []=>[e]
 | a::l=>if Ep a e=true then a::Adc e l else e::a::l
def E2 (d:List E×E×Unit):Option (List E×Unit):=if decide (d.1.length<=1000)=true then some (Adc d.2.1 d.1,()) else none
def Ars (p:Int->Bool) (l:List Int) (z:Int):Int:=(l.find? p).getD z
def ME (ball:Int->List Int) (T:Tab) (c r b:Int):Bool:=decide (AE ball T b r+1=AY T c r)&&decide (0<=AE ball T b r)
def KV (row:Int->Int):List Int->Int->Int
 | [],b=>b
 | x::xs,b=>if row x<0 then x else KV row xs (if row x>row b then x else b)
def BA (l:List Int):Nat:=l.foldl (fun a x=>a|||2 ^ x.toNat) 0
def Fb (d:List Int×Unit):Option (Int×Unit):=if (okL d.1&&d.1.all (inB 0 7))=true then some ((BA d.1:Int),()) else none
def W0:Wk:=((0,[],()),0,0,[],0,())
def GI (a b:Nat):Nat:=a&&&(255^^^b)
def Me (a n:Nat):List Int:=(List.range' a (n-a)).map fun (i:Nat)=>(i:Int)
def AB (n:Nat):Nat->List (List Int)
 | 0=>[[]]
 | k+1=>(AB n k).flatMap fun l=>(Me (l.getLastD 0).toNat n).map fun x=>l++[x]
def Ey (d:Int×Int×Unit):Option (List (List Int)×Unit):=if (inB 0 8 d.1&&inB 0 3 d.2.1)=true then some (AB d.1.toNat d.2.1.toNat,()) else none
def Uq:List (List Int)->Bool
 | []=>true
 | [_]=>true
 | a::b::l=>decide (BO a b<0)&&Uq (b::l)
def Ayw (cf:List (List Int)) (c:List Int):Bool:=cf.any fun y=>decide (y=c)
def Gg (cf:List (List Int)) (c:List Int):Int:=P4 (ER (fun y=>decide (y=c)) cf 0)
def YH (d:List (List Int)×List Int×(Unit×Unit)×Unit):Option (Int×Bool×Unit):=if (decide (d.1.length<=1000)&&I6 d.1&&okL d.2.1&&Uq d.1&&Ayw d.1 d.2.1)=true then some (Gg d.1 d.2.1,true,()) else none
abbrev Cg:=Nt×List (List Int)×List (List Int)×List (List Int)×Unit
def CJ (ball:Int->List Int) (cf:List (List Int)):List (List Int):=cf.map fun c=>(DD ball c).map (Gg cf)
def EM (d:Nt×Int×Unit):Option (Cg×Unit):=if (CA d.1.1&&inB 0 3 d.2.1)=true then some ((d.1,AB d.1.1.length d.2.1.toNat,CJ (AF d.1.1) (AB d.1.1.length d.2.1.toNat),[],()),()) else none
def BU (cf:List (List Int)) (ball:Int->List Int) (T:Tab) (d x:Int):Int:=if Cu (cf.getD d.toNat []) x=true then 0 else A6 (AY T d) (ball x) 0
def DK (m n:Nat) (f:Nat->Nat->Int):Tab:=(List.range m).map fun c=>(List.range n).map fun x=>f c x
def HO (cf mv:List (List Int)) (ball:Int->List Int) (T:Tab) (c x:Nat):Bool:=decide (AY T (c:Int) (x:Int)<0)&&(mv.getD c []).any fun d=>decide (0<=BU cf ball T d (x:Int))
def Jh (cf mv:List (List Int)) (ball:Int->List Int) (n:Nat) (t:Int) (T:Tab):Tab:=DK cf.length n fun c x=>if HO cf mv ball T c x=true then t else AY T (c:Int) (x:Int)
def PX (cf mv:List (List Int)) (ball:Int->List Int) (n:Nat) (T:Tab):Bool:=(List.range cf.length).any fun c=>(List.range n).any fun x=>HO cf mv ball T c x
def Hk (cf mv:List (List Int)) (ball:Int->List Int) (n:Nat):Nat->Int->Tab->Tab
 | 0,_,T=>T
 | k+1,t,T=>if PX cf mv ball n T=true then Hk cf mv ball n k (t+1) (Jh cf mv ball n t T) else T
def M5 (cf:List (List Int)) (n:Nat):Tab:=DK cf.length n fun c x=>if Cu (cf.getD c []) (x:Int)=true then 0 else -1
def Jo (cf mv:List (List Int)) (ball:Int->List Int) (n:Nat):Tab:=Hk cf mv ball n 1000 1 (M5 cf n)
def gmB (n:Nat) (cf mv:List (List Int)):Bool:=decide (cf.length<=120)&&decide (mv.length=cf.length)&&cf.all (fun c=>decide (c.length<=3)&&c.all (inB 0 ((n:Int)-1)))&&mv.all (fun l=>decide (l.length<=1000)&&l.all (inB 0 ((cf.length:Int)-1)))
def rcB (m n:Nat) (T:Tab):Bool:=decide (T.length=m)&&T.all fun row=>decide (row.length=n)
def cgB (c:Cg):Bool:=CA c.1.1&&decide (1<=c.1.1.length)&&gmB c.1.1.length c.2.1 c.2.2.1&&rcB c.2.1.length c.1.1.length c.2.2.2.1
def H5 (d:List Int×(Unit×Cg×Int×Unit)×Unit):Option (Int×Unit):=if (cgB d.2.1.2.1&&inB 0 ((d.2.1.2.1.1.1.length:Int)-1) d.2.1.2.2.1&&decide (d.1.length<=1000)&&d.1.all (inB 0 ((d.2.1.2.1.2.1.length:Int)-1)))=true then some (P4 (ER (fun b=>decide (0<=BU d.2.1.2.1.2.1 (AF d.2.1.2.1.1.1) d.2.1.2.1.2.2.2.1 b d.2.1.2.2.1)) d.1 0),()) else none
def Ge (d:Nt×Int×Unit):Option (Cg×Unit):=if (CA d.1.1&&decide (1<=d.1.1.length)&&inB 0 3 d.2.1)=true then some ((d.1,AB d.1.1.length d.2.1.toNat,CJ (AF d.1.1) (AB d.1.1.length d.2.1.toNat),Jo (AB d.1.1.length d.2.1.toNat) (CJ (AF d.1.1) (AB d.1.1.length d.2.1.toNat)) (AF d.1.1) d.1.1.length,()),()) else none
def cfG (g:Gr) (k:Nat):List (List Int):=AB g.1.toNat k
def mvG (g:Gr) (k:Nat):List (List Int):=CJ (Ax g.1.toNat g.2.1) (cfG g k)
def tmG (g:Gr) (k:Nat):Tab:=Jo (cfG g k) (mvG g k) (Ax g.1.toNat g.2.1) g.1.toNat
def Jl (g:Gr) (k:Int):Bool:=A9 g&&decide (g.1>0)&&inB 1 3 k
def Bf (row:List Int):Int:=A6 (fun z=>z) row 0
def Bx:List (List Int)->Int->Int->Int->Int×Int
 | [],_,b,l=>(b,l)
 | r::rs,i,b,l=>if 0<=Bf r/\(b<0\/Bf r<l) then Bx rs (i+1) i (Bf r) else Bx rs (i+1) b l
def J6 (cf:List (List Int)) (o:Int×Int):List Int×Int×Bool×Unit:=if o.1<0 then ([],0,false,()) else (cf.getD o.1.toNat [],o.2,true,())
def Tq (T:Tab):Bool:=T.all fun row=>row.all fun v=>decide (-1<=v)
def F9 (d:Cg×Unit):Option (List Int×Int×Bool×Unit):=if (cgB d.1&&Tq d.1.2.2.2.1)=true then some (J6 d.1.2.1 (Bx d.1.2.2.2.1 0 (-1) 0)) else none
def S8 (T:Tab):Bool:=T.any fun r=>decide (0<=Bf r)
def Axd (g:Gr) (k:Int):Bool×Bool×Unit:=if Jl g k=true then (S8 (tmG g k.toNat),true,()) else (false,false,())
def Xs (d:List Int×Unit):Option (Bool×Unit):=if (d.1.all (inB 0 255)&&decide (d.1.length<=maxLen))=true then some (true,()) else none
def DS (d:Int×Unit) (r:Gr×Unit):Prop:=r.1.2.1.length<=100
def FV (d:Cur×Int×Unit) (r:Gr×Cur×Unit):Prop:=Adv 300 d.1 r.2.1/\r.1.2.1.length<=200
abbrev St:=Int×List Int×Int×Unit
open Go.Proofs
def J3 (d:List Int×List Int×Unit):Option (Bool×Unit):=if (okL d.1&&decide (d.1=d.2.1))=true then some (true,()) else none
def Axz (ball:Int->List Int) (T:Tab) (c r:Int):Int:=Ars (ME ball T c r) (ball c) c
def Azw (ball:Int->List Int) (T:Tab) (b r:Int):Int:=if b=r then r else KV (AY T b) (ball r) ((ball r).headD 0)
def Ab8 (g:Gr):Tab:=AS g.1.toNat (Ax g.1.toNat g.2.1)
def Ds (o:Int×Int):Int×Int×Bool×Unit:=if o.1<0 then (0,0,false,()) else (o.1,o.2,true,())
def Eo (g:Gr):Int×Int×Bool×Unit:=if A9 g=true then Ds (Bx (Ab8 g) 0 (-1) 0) else (0,0,false,())
def H6 (d:Gr×Unit):Option (Int×Int×Bool×Unit):=if okL d.1.2.1=true then some (Eo d.1) else none
def Hh (d:Nt×Unit):Option (Int×Int×Bool×Unit):=if CA d.1.1=true then some (Ds (Bx (AS d.1.1.length (AF d.1.1)) 0 (-1) 0)) else none
def Dd (d:Tab×Int×Unit):Option (Int×Unit):=if (sqB d.1.length d.1&&decide (d.1.length<=100)&&inB 0 ((d.1.length:Int)-1) d.2.1)=true then some (Bf (d.1.getD d.2.1.toNat []),()) else none
def Iw (d:Gr×Int×Int×Unit):Option (Bool×Unit):=if okL d.1.2.1=true then some (d.2.1==d.2.2.1||BH d.1.2.1 d.2.1 d.2.2.1,()) else none
def An (es:List E) (x z:Nat):Bool:=BH es (x:Int) (z:Int)||decide (z=x)
def Ce (n:Nat) (b:Nat->Nat->Bool) (p:Nat->Bool) (x y:Nat):Bool := !decide (x=y)&&p y&&(List.range n).all fun z => !(p z&&b x z)||b y z
def Ba (n:Nat) (b:Nat->Nat->Bool) (p:Nat->Bool) (x:Nat):Bool:=p x&&(List.range n).any (Ce n b p x)
def BC (p:Nat->Bool) (x:Nat):Nat->Bool:=fun z=>p z && !decide (z=x)
def Ay (n:Nat) (p:Nat->Bool):Nat:=(List.range n).countP p
def A7 (n:Nat) (b:Nat->Nat->Bool):Nat->(Nat->Bool)->List (Nat×Nat)×(Nat->Bool)
 | 0,p=>([],p)
 | k+1,p=>if (List.range n).any (Ba n b p)=true then
   (let x:=Bh (Ba n b p) n 0
    let o:=A7 n b k (BC p x)
    ((x,Bh (Ce n b p x) n 0)::o.1,o.2))
  else ([],p)
def CV (n:Nat) (b:Nat->Nat->Bool):Nat->Nat->Nat
 | 0,_=>0
 | k+1,m=>if Ay n m.testBit=1 then 1 else (List.range n).foldl (fun s x=>if Ba n b m.testBit x=true then s+CV n b k (m-2 ^ x) else s) 0
def G6 (n:Nat) (b:Nat->Nat->Bool):(Nat->Bool)->List Nat->Bool
 | p,x::y::l=>(List.range n).any (Ce n b p x)&&G6 n b (BC p x) (y::l)
 | _,_=>true
def FE (n:Nat) (b:Nat->Nat->Bool) (p:Nat->Bool) (x:Nat):Int:=if (List.range n).any (Ce n b p x)=true then ((Bh (Ce n b p x) n 0:Nat):Int) else -1
def Cr (l:List Int) (x z:Nat):Bool:=((Ca l).getD x 0|||2 ^ x).testBit z
def BR (s:List Int) (z:Nat):Bool:=Cu s (z:Int)
def Pi (n:Nat) (s:List Int):Bool:=decide (s=Ap (BR s) n 0)
def ET (d:Gr×List Int×Int×Int×Unit):Option (Bool×Unit):=
 if (grB d.1&&Pi d.1.1.toNat d.2.1&&inB 0 (d.1.1-1) d.2.2.1&&inB 0 (d.1.1-1) d.2.2.2.1)=true then some (Ce d.1.1.toNat (An d.1.2.1) (BR d.2.1) d.2.2.1.toNat d.2.2.2.1.toNat,()) else none
def EG (d:Gr×List Int×Int×Unit):Option (Int×Unit):=
 if (grB d.1&&Pi d.1.1.toNat d.2.1&&inB 0 (d.1.1-1) d.2.2.1)=true then some (FE d.1.1.toNat (An d.1.2.1) (BR d.2.1) d.2.2.1.toNat,()) else none
def Cc (d:Gr×List Int×Unit):Option (List Int×Unit):=
 if (grB d.1&&Pi d.1.1.toNat d.2.1)=true then some (Ap (Ba d.1.1.toNat (An d.1.2.1) (BR d.2.1)) d.1.1.toNat 0,()) else none
def KC (d:Gr×List Int×Unit):Option (Bool×Unit):=
 if (grB d.1&&Pi d.1.1.toNat d.2.1)=true then some (decide (Ay d.1.1.toNat (A7 d.1.1.toNat (An d.1.2.1) 9 (BR d.2.1)).2=1),()) else none
def Cp (d:Nt×Int×Int×Unit):Option (List Int×Unit):=
 if (CA d.1.1&&decide (0<=d.2.1)&&decide (d.2.1<((2 ^ d.1.1.length:Nat):Int))&&inB 0 ((d.1.1.length:Int)-1) d.2.2.1)=true then some (Ap (Ce d.1.1.length (Cr d.1.1) d.2.1.toNat.testBit d.2.2.1.toNat) d.1.1.length 0,()) else none
def Fh (l:List Int) (m:Nat) (x:Int):Bool := !(List.range l.length).any (Ce l.length (Cr l) m.testBit x.toNat)
def Tw (q:Int->Bool) (l:List Int):List Int:=l.filter fun x => !q x
def Aju (d:List Int×(Unit×Nt×Int×Unit)×Unit):Bool:=
 CA d.2.1.2.1.1&&decide (0<=d.2.1.2.2.1)&&decide (d.2.1.2.2.1<((2 ^ d.2.1.2.1.1.length:Nat):Int))&&d.1.all (inB 0 ((d.2.1.2.1.1.length:Int)-1))&&decide (d.1.length<=8)
def EE (d:List Int×(Unit×Nt×Int×Unit)×Unit):Option (Int×Unit):=if Aju d=true then some (P4 (ER (Fh d.2.1.2.1.1 d.2.1.2.2.1.toNat) d.1 0),()) else none
def Ic (d:List Int×(Unit×Nt×Int×Unit)×Unit):Option (List Int×List Int×Unit):=
 if Aju d=true then some (Tw (Fh d.2.1.2.1.1 d.2.1.2.2.1.toNat) d.1,([],())) else none
def Dt (d:Nt×Unit):Option (List E×Int×Unit):=
 if CA d.1.1=true then some ((A7 d.1.1.length (Cr d.1.1) 9 fun _=>true).1.map (fun e=>((e.1:Int),(e.2:Int),())),((BA (Ap (A7 d.1.1.length (Cr d.1.1) 9 fun _=>true).2 d.1.1.length 0):Nat):Int),()) else none
def El (n:Nat) (o:List Int):Bool:=decide (o.length=n)&&(List.range n).all fun x=>BR o x
def DB (g:Gr):Bool:=A9 g&&decide (g.1>0)
def DT (g:Gr) (o:List Int):Bool×Bool×Unit:=if DB g=true then (El g.1.toNat o&&G6 g.1.toNat (An g.2.1) (fun _=>true) (o.map Int.toNat),true,()) else (false,false,())
def Bc (g:Gr):List (Nat×Nat)×(Nat->Bool):=A7 g.1.toNat (An g.2.1) 9 fun _=>true
def Dk (g:Gr):List Int×Bool×Unit:=
 if DB g=true then (if Ay g.1.toNat (Bc g).2=1 then ((Bc g).1.map (fun e=>((e.1:Nat):Int))++Ap (Bc g).2 g.1.toNat 0,true,()) else ([],false,())) else ([],false,())
def WU (g:Gr):Int×Bool×Unit:=if DB g=true then (((CV g.1.toNat (An g.2.1) 9 (2 ^ g.1.toNat-1):Nat):Int),true,()) else (0,false,())
def H0 (d:Gr×List Int×Unit):Option (Bool×Unit):=if (okL d.2.1&&decide (0<=d.1.1)&&decide (d.1.1<=8))=true then some (El d.1.1.toNat d.2.1,()) else none
def Ht (d:Gr×List Int×Unit):Option (Bool×Unit):=
 if (grB d.1&&okL d.2.1)=true then some (El d.1.1.toNat d.2.1&&G6 d.1.1.toNat (An d.1.2.1) (fun _=>true) (d.2.1.map Int.toNat),()) else none
def CK (d:Gr×List Int×Unit):Option (Bool×Bool×Unit):=if (okL d.1.2.1&&okL d.2.1)=true then some (DT d.1 d.2.1) else none
def EF (d:Gr×Unit):Option (List Int×Bool×Unit):=if okL d.1.2.1=true then some (Dk d.1) else none
def G4 (d:Gr×Unit):Option (Int×Bool×Unit):=if okL d.1.2.1=true then some (WU d.1) else none
def DZ (d:Gr×List Int×Unit):Option (Int×Unit):=
 if (grB d.1&&Pi d.1.1.toNat d.2.1)=true then some (((CV d.1.1.toNat (An d.1.2.1) 9 (BA d.2.1):Nat):Int),()) else none
def Hu (d:Cur×Gr×Unit) (r:List Int×Cur×Unit):Prop:=Adv 200 d.1 r.2.1/\r.1.length<=9
end Go.V.W
end
