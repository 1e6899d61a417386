/- What the law FnWorkshops leans on, part 4: an interpreter of the model as plain data, its soundness, the functions as it tells them, and their laws. -/
import Derived.Shelf.Lays
import Derived.Test.YtcajgbmhldgmfaaGreatProg
import Derived.Test.YtcajgbmhldgmfaaGreatVC
set_option linter.unusedVariables false
set_option linter.unusedSimpArgs false
set_option maxRecDepth 100000
namespace Go.V.W
open Go.Proofs Go.RowKit Go.Shelf
/-- A slice of flat data stands elsewhere if its block does. -/
theorem slice_to {w w':World} {S S':OwnS} {e:Kd} {q q':Path} {c:List Value} {l:List e.den} (he:e.flat=true) (h:Rep w S (.slice e) q c l)
    (hb:∀b,S q b->b<w.heap.size->w'.heap[b]? = w.heap[b]?/\S' q' b):Rep w' S' (.slice e) q' c l:=by
  simp only [Rep] at h |-
  rcases h with h | ⟨b,off,cap,h1,h2,h3,h4,h5⟩
  · exact .inl h
  · obtain ⟨k1,k2⟩:=hb b h3 h4.lt
    refine .inr ⟨b,off,cap,h1,h2,k2,h4.same k1,fun i hi => ?_⟩
    rw [cellsAt_same k1]
    exact Rep.flat _ _ _ he (h5 i hi)
theorem slice_val {w:World} {S:OwnS} {e:Kd} {q:Path} {c:List Value} {l:List e.den} (h:Rep w S (.slice e) q c l):∃a n p,c=[.slice a n p]:=by
  simp only [Rep] at h
  rcases h with ⟨⟨a,h⟩,_⟩ | ⟨b,off,cap,h,_⟩
  · exact ⟨a,0,0,h⟩
  · exact ⟨_,_,_,h⟩
theorem flat_nossl:∀{k:Kd},k.flat=true->k.nossl=true:=by
  intro k
  induction k with
  | pair a b iha ihb=>intro h;simp only [Kd.flat,Kd.nossl,Bool.and_eq_true] at h |-;exact ⟨iha h.1,ihb h.2⟩
  | slice e _=>intro h;simp [Kd.flat] at h
  | bx e _=>intro h;simp [Kd.flat] at h
  | clo f a b _ _=>intro h;simp [Kd.flat] at h
  | ssl e _=>intro h;simp [Kd.flat] at h
  | _=>intro _;rfl
/-- A call of a copying function, by its contract. -/
theorem clone_call {P:Program} {f:FuncId} {e:Kd} {F:List e.den×Unit->Option (List e.den×Unit)} (he:∀(args:Array Value) (w:World),(callFunc f args).run P w=.ok (.enter f args) w)
    (hfl:e.flat=true) (con:Contract P f ⟨[(.slice e,false)],[.slice e],true,F⟩) {l:List e.den} (hF:F (l,())=some (l,())) {w:World} {v:Value} {S:OwnS} {q:Path} (hv:Rep w S (.slice e) q [v] l) (hgl:Gl P w (fun _=>none)) :
    Calls P f #[v] w fun x w' => ∃a n p,x=.returned (.slice a n p)/\(∃χ:Nat->Option Lab,(∀b z,χ b=some z->w.heap.size<=b/\Live w' b)/\Rep w' (fun _ b=>χ b=some (.res [.l])) (.slice e) [] [.slice a n p] l)/\Below w.heap.size w w':=by
  obtain ⟨a0,n0,p0,hv0⟩:=slice_val hv
  simp only [List.cons.injEq,and_true] at hv0
  subst hv0
  have hc:=con w (fun _=>none) (fun _=>True) [.slice a0 n0 p0] (l,()) (l,()) ⟨[.slice a0 n0 p0],[],rfl,(show Rep w (fun _ _=>True) (.slice e) [] [.slice a0 n0 p0] l from slice_to hfl hv (fun b _ _=>⟨rfl,trivial⟩)),rfl⟩ (fun _ _=>rfl) (fun b z h=>by cases h) hgl hF
  unfold CallsTo at hc
  rw [he] at hc
  refine Calls.mono hc fun x w' hx => ?_
  match x,hx with
  | .returned v,hx=>
    obtain ⟨χ,hp⟩:=hx
    obtain ⟨c,h1,h2⟩:=hp.res
    have h1:v=mkVal (.slice e) (c.take 1):=h1
    have h2:Rep w' (fun q b=>χ b=some (.res q)) (.slice e) ([]++[.l]) (c.take 1) l:=Rep.ofLv h2.1 (by simp only [lev,List.nil_append,Kd.tuple,Kd.lev];omega) (by simp only [Kd.nossl];exact flat_nossl hfl)
    obtain ⟨a,n,p,hc1⟩:=slice_val h2
    rw [hc1] at h1 h2
    refine ⟨a,n,p,by rw [h1];rfl,⟨χ,fun b z hz => ?_,slice_to hfl h2 (fun b hb _=>⟨rfl,hb⟩)⟩,⟨hp.os,hp.tape,hp.output,hp.size,fun b hb=>hp.kept b hb rfl⟩⟩
    obtain ⟨k1,k2⟩:=hp.col b z hz
    exact ⟨k1.resolve_right (fun h=>h rfl),k2⟩
/-- The library's variables are there in a world that has kept them. -/
theorem gl_kept {P:Program} {w w':World} {ψ:Nat->Option (Nat×Path)} (h:Gl P w ψ) (hk:∀b,b<w.heap.size->w'.heap[b]? = w.heap[b]?):Gl P w' (fun _=>none):=fun b hb=>
  ⟨rfl,(h b hb).2.move (hk b ((h b hb).2.lt hb))⟩
theorem callsTo_enter {P:Program} {f:FuncId} {args:Array Value} {w:World} {R:Value->World->Prop} (he:(callFunc f args).run P w=.ok (.enter f args) w)
    (h:Calls P f args w fun | .returned v,w''=>R v w'' | _,_=>False):CallsTo P f args w R:=by
  unfold CallsTo
  rw [he]
  exact h
open Classical in
theorem con_cloneWs (con1:Contract Tryz.prog 59 ⟨[(kSE,false)],[kSE],true,G_toIntA2S⟩) (con2:Contract Tryz.prog 92 ⟨[(kSI,false)],[kSI],true,G_toIntS⟩):Contract Tryz.prog 56 ⟨[(kWs,false)],[kWs],true,G_cloneWs⟩:=by
  intro w ψ U vs d out hargs hU hψ hgl ho
  obtain ⟨⟨⟨n,lE,uE⟩,cop,rob,lI,cnt,u2⟩,u3⟩:=d
  have ho:G_cloneWs (((n,lE,uE),cop,rob,lI,cnt,u2),u3)=some out:=ho
  unfold G_cloneWs at ho
  split at ho
  case isFalse=>cases ho
  rename_i hok
  simp only [Bool.and_eq_true] at hok
  obtain ⟨okE,okI⟩:=hok
  obtain rfl:=Option.some.inj ho
  obtain ⟨c1,r1,rfl,k2,k5⟩:=hargs
  have k5:r1=[]:=k5
  subst k5
  have hlen:c1.length=6:=k2.length
  match c1,hlen with
  | [x0,e,x2,x3,m,x5],_=>
    obtain ⟨⟨a1,a2,_⟩,b1,b2,b3,b4,_⟩:=k2
    obtain rfl:x0=Value.int .i64 n:=(List.cons.inj (show [x0]=[Value.int .i64 n] from a1)).1
    obtain rfl:x2=Value.int .i64 cop:=(List.cons.inj (show [x2]=[Value.int .i64 cop] from b1)).1
    obtain rfl:x3=Value.int .i64 rob:=(List.cons.inj (show [x3]=[Value.int .i64 rob] from b2)).1
    obtain rfl:x5=Value.int .i64 cnt:=(List.cons.inj (show [x5]=[Value.int .i64 cnt] from b4)).1
    have hE:Rep w (fun _ b=>U b) kSE [.l,.r,.l] [e] lE:=a2
    have hI:Rep w (fun _ b=>U b) kSI [.r,.r,.r,.l] [m] lI:=b3
    have f1:G_toIntA2S (lE,())=some (lE,()):=by unfold G_toIntA2S;rw [if_pos okE]
    have f2:G_toIntS (lI,())=some (lI,()):=by unfold G_toIntS;rw [if_pos okI]
    have e77:∀(args:Array Value) (w:World),(callFunc 59 args).run Tryz.prog w=.ok (.enter 59 args) w:=enters_of Tryz.func59 (by kernel_rfl) rfl
    have e130:∀(args:Array Value) (w:World),(callFunc 92 args).run Tryz.prog w=.ok (.enter 92 args) w:=enters_of Tryz.func92 (by kernel_rfl) rfl
    have e91:∀(args:Array Value) (w:World),(callFunc 56 args).run Tryz.prog w=.ok (.enter 56 args) w:=enters_of Tryz.func56 (by kernel_rfl) rfl
    have keep2:∀(o1 o2:Obj) (b:Nat),b<w.heap.size->((w.alloc o1).alloc o2).heap[b]? = w.heap[b]?:=fun o1 o2 b hb=>
      (Below.heap_alloc (w.alloc o1) o2 b (by rw [show (w.alloc o1).heap.size=w.heap.size+1 by show (w.heap.push o1).size=_;simp];omega)).trans (Below.heap_alloc w o1 b hb)
    have size2:∀(o1 o2:Obj),((w.alloc o1).alloc o2).heap.size=w.heap.size+2:=fun o1 o2=>by
      show ((w.heap.push o1).push o2).size=_
      simp
    have hcalls:=clone_walk n cop rob cnt e m w
      (A:=fun a l p w3=>(∃χ:Nat->Option Lab,(∀b z,χ b=some z->w.heap.size+2<=b/\Live w3 b)/\Rep w3 (fun _ b=>χ b=some (.res [.l])) kSE [] [.slice a l p] lE)/\w.heap.size+2<=w3.heap.size/\w3.os=w.os/\w3.tape=w.tape/\w3.output=w.output /\ ∀b,b<w.heap.size->w3.heap[b]? = w.heap[b]?)
      (B:=fun w3 a l p w5=>(∃χ:Nat->Option Lab,(∀b z,χ b=some z->w3.heap.size<=b/\Live w5 b)/\Rep w5 (fun _ b=>χ b=some (.res [.l])) kSI [] [.slice a l p] lI)/\w3.heap.size<=w5.heap.size/\w5.os=w3.os/\w5.tape=w3.tape/\w5.output=w3.output /\ ∀b,b<w3.heap.size->b≠w.heap.size->w5.heap[b]? = w3.heap[b]?)
      (fun w1 hw1=>by
        subst hw1
        refine Calls.mono (clone_call e77 rfl con1 f1 (slice_to (q':=[]) (S':=fun _ _=>True) rfl hE (fun b _ hb=>⟨keep2 _ _ b hb,trivial⟩)) (gl_kept hgl (keep2 _ _))) fun x w3 hx => ?_
        obtain ⟨a,l,p,h1,⟨χ,h2,h3⟩,bel⟩:=hx
        rw [size2] at h2
        refine ⟨a,l,p,h1,⟨⟨χ,h2,h3⟩,?_,bel.os,bel.tape,bel.output,fun b hb=>(bel.block b (by rw [size2];omega)).trans (keep2 _ _ b hb)⟩,bel⟩
        have:=bel.size
        rw [size2] at this
        exact this)
      (fun a l p w3 hA w4 hw4=>by
        subst hw4
        obtain ⟨_,hs3,_,_,_,hk3⟩:=hA
        have keep4:∀b,b≠w.heap.size->(w3.setCell ⟨w.heap.size,1,none⟩ (.slice a l p)).heap[b]? = w3.heap[b]?:=fun b hb=>Below.heap_setCell w3 ⟨w.heap.size,1,none⟩ (.slice a l p) b hb
        have size4:(w3.setCell ⟨w.heap.size,1,none⟩ (.slice a l p)).heap.size=w3.heap.size:=by simp [World.setCell]
        have keepw:∀b,b<w.heap.size->(w3.setCell ⟨w.heap.size,1,none⟩ (.slice a l p)).heap[b]? = w.heap[b]?:=fun b hb=>(keep4 b (by omega)).trans (hk3 b hb)
        refine Calls.mono (clone_call e130 rfl con2 f2 (slice_to (q':=[]) (S':=fun _ _=>True) rfl hI (fun b _ hb=>⟨keepw b hb,trivial⟩)) (gl_kept hgl keepw)) fun x w5 hx => ?_
        obtain ⟨a2,l2,p2,h1,⟨χ,h2,h3⟩,bel⟩:=hx
        rw [size4] at h2
        have hsz:=bel.size
        rw [size4] at hsz
        exact ⟨a2,l2,p2,h1,⟨⟨χ,h2,h3⟩,hsz,bel.os,bel.tape,bel.output,fun b hb hne=>(bel.block b (by rw [size4];exact hb)).trans (keep4 b hne)⟩,bel⟩)
    refine callsTo_enter (e91 _ w) ?_
    refine Calls.mono hcalls fun x w' hx => ?_
    obtain ⟨a,l,p,w3,a2,l2,p2,w5,rfl,⟨⟨χ1,hχ1,hr1⟩,hs3,ho3,ht3,hp3,hk3⟩,⟨⟨χ2,hχ2,hr2⟩,hs5,ho5,ht5,hp5,hk5⟩,two⟩:=hx
    have end5:∀b,w.heap.size+2<=b->w'.heap[b]? = w5.heap[b]?:=fun b hb=>two.other b (by omega) (by omega)
    have lt3:∀b z,χ1 b=some z->b<w3.heap.size:=fun b z hz=>by
      exact (hχ1 b z hz).2.lt
    refine ⟨fun b=>if χ1 b=some (.res [.l]) then some (.res [.l,.l,.r,.l]) else if χ2 b=some (.res [.l]) then some (.res [.l,.r,.r,.r,.l]) else none,
      ⟨two.os.trans (ho5.trans ho3),two.tape.trans (ht5.trans ht3),two.output.trans (hp5.trans hp3),by rw [two.size];omega,fun b hb _ => ?_,fun b z hz => ?_,
        ⟨[.int .i64 n,.slice a l p,.int .i64 cop,.int .i64 rob,.slice a2 l2 p2,.int .i64 cnt],rfl,?_⟩,trivial⟩⟩
    · exact (two.other b (by omega) (by omega)).trans ((hk5 b (by omega) (by omega)).trans (hk3 b hb))
    · split at hz
      · rename_i h1
        obtain ⟨k1,k2⟩:=hχ1 b _ h1
        exact ⟨.inl (by omega),k2.same ((end5 b k1).trans (hk5 b (lt3 b _ h1) (by omega)))⟩
      · split at hz
        · rename_i h1
          obtain ⟨k1,k2⟩:=hχ2 b _ h1
          exact ⟨.inl (by omega),k2.same (end5 b (by omega))⟩
        · cases hz
    · have h1:Rep w' (fun q b=>(if χ1 b=some (.res [.l]) then some (Lab.res [.l,.l,.r,.l]) else if χ2 b=some (.res [.l]) then some (Lab.res [.l,.r,.r,.r,.l]) else none)=some (.res q)) kSE [.l,.l,.r,.l] [.slice a l p] lE:=
        slice_to rfl hr1 (fun b hb hlt=>⟨(end5 b (hχ1 b _ hb).1).trans (hk5 b hlt (by have:=(hχ1 b _ hb).1;omega)),by rw [if_pos hb]⟩)
      have h2:Rep w' (fun q b=>(if χ1 b=some (.res [.l]) then some (Lab.res [.l,.l,.r,.l]) else if χ2 b=some (.res [.l]) then some (Lab.res [.l,.r,.r,.r,.l]) else none)=some (.res q)) kSI [.l,.r,.r,.r,.l] [.slice a2 l2 p2] lI:=
        slice_to rfl hr2 (fun b hb hlt=>⟨end5 b (by have:=(hχ2 b _ hb).1;omega),by
          rw [if_neg (fun h=>by have h3:=lt3 b _ h;have h4:=(hχ2 b _ hb).1;omega),if_pos hb]⟩)
      exact ⟨⟨⟨rfl,h1,rfl⟩,rfl,rfl,h2,rfl,rfl⟩,rfl⟩
end Go.V.W
namespace Go.V.W
noncomputable def pickF {α β:Type} (F:Nat->α->Option β) (P:α->β->Prop) (d:α):Option β:=
 open Classical in if h:∃r,P d r /\ ∃N,F N d=some r then some h.choose else none
theorem pickF_lim {α β:Type} {F:Nat->α->Option β} {P:α->β->Prop} (d:α) (r:β) (h:pickF F P d=some r):∃N,F N d=some r:=by
 unfold pickF at h
 split at h
 ·rename_i hh
  have h:=Option.some.inj h
  subst h
  exact hh.choose_spec.2
 ·cases h
theorem pickF_of {α β:Type} {F:Nat->α->Option β} {P:α->β->Prop} {d:α} (h:∃N r,F N d=some r/\P d r):∃r,pickF F P d=some r/\P d r:=by
 obtain ⟨N,r,h1,h2⟩:=h
 have hh:∃r,P d r /\ ∃N,F N d=some r:=⟨r,h2,N,h1⟩
 unfold pickF
 rw [dif_pos hh]
 exact ⟨_,rfl,hh.choose_spec.1⟩
def Ok {α:Type} (o:Option α) (Q:α->Prop):Prop := ∃r,o=some r/\Q r
theorem Ok.bind {α β:Type} {o:Option α} {f:α->Option β} {Q:α->Prop} {R:β->Prop} (h:Ok o Q) (hf:∀r,Q r->Ok (f r) R):Ok (o.bind f) R:=by
 obtain ⟨r,h1,h2⟩:=h
 obtain ⟨x,h3,h4⟩:=hf r h2
 exact ⟨x,by rw [h1];exact h3,h4⟩
theorem Ok.some {α:Type} {r:α} {Q:α->Prop} (h:Q r):Ok (some r) Q:=⟨r,rfl,h⟩
theorem Ok.ite {α:Type} {c:Bool} {a b:Option α} {Q:α->Prop} (ha:c=true->Ok a Q) (hb:c=false->Ok b Q):Ok (if c=true then a else b) Q:=by
 cases c with
 | true=>exact ha rfl
 | false=>exact hb rfl
theorem Ok.pos {α:Type} {c:Bool} {a b:Option α} {Q:α->Prop} (hc:c=true) (ha:Ok a Q):Ok (if c=true then a else b) Q:=by rw [if_pos hc];exact ha
theorem Ok.mono {α:Type} {o:Option α} {Q R:α->Prop} (h:Ok o Q) (hR:∀r,Q r->R r):Ok o R:=by
 obtain ⟨r,h1,h2⟩:=h
 exact ⟨r,h1,hR r h2⟩
theorem Ok.pick {α β:Type} {F:Nat->α->Option β} {P:α->β->Prop} {d:α} (N:Nat) (h:Ok (F N d) (P d)):Ok (pickF F P d) (P d):=by
 obtain ⟨r,h1,h2⟩:=h
 exact pickF_of ⟨N,r,h1,h2⟩
abbrev Cur:=List Int×Int×Int×Unit
def CurB (c:Cur):Prop:=(∀x∈c.1,0<=x/\x<=255)/\0<=c.2.1
def Adv (k:Int) (c c':Cur):Prop:=CurB c'/\c'.2.1<=c.2.1+k
theorem Adv.trans {k m:Int} {c d e:Cur} (h:Adv k c d) (h':Adv m d e):Adv (k+m) c e:=⟨h'.1,by have:=h.2;have:=h'.2;omega⟩
theorem Adv.le {k m:Int} {c d:Cur} (h:Adv k c d) (hk:k<=m):Adv m c d:=⟨h.1,by have:=h.2;omega⟩
def far_:Int:=1099511627776
end Go.V.W
namespace Go.V.W
def hasL (S:List Int) (y:Int):Bool:=S.any fun z=>z==y
end Go.V.W
namespace Go.V.W
abbrev Wo:=Int×Int×Int×Unit
def G_l2Bits (d:Int×Int×Unit):Option (List Int×Unit):=if (inB 0 8 d.1&&inB 0 255 d.2.1)=true then some (setF (fun y=>d.2.1.toNat.testBit y) d.1.toNat 0,()) else none
def G_l2Without (d:List Int×Int×Unit):Option (List Int×Unit):=if okL d.1=true then some (d.1.filter (fun y=>y != d.2.1),()) else none
def atS (S:List Int) (i:Nat):Int:=S.getD i 0
def indE (near:Int->Int->Bool) (S:List Int):List E:=allE (fun i k=>near (atS S i) (atS S k)) S.length S.length 0
def G_l2Induced (d:Gr×List Int×Unit):Option (Gr×Unit):=if (okL d.1.2.1&&decide (d.2.1.length<=8))=true then some (((d.2.1.length:Int),indE (nearI d.1.2.1) d.2.1,()),()) else none
def G_graphByInd (d:Int×(Unit×Nt×List Int×Unit)×Unit):Option (Gr×Unit):=if (smallN d.2.1.2.1.1&&d.2.1.2.2.1.all (inB 0 ((d.2.1.2.1.1.length:Int)-1))&&decide (d.1=(d.2.1.2.2.1.length:Int))&&decide (d.2.1.2.2.1.length<=8))=true then some ((d.1,indE (fun a b=>hasN (fromI d.2.1.2.1.1) a.toNat b.toNat) d.2.1.2.2.1,()),()) else none
def insE (e:E):List E->List E
 | []=>[e]
 | a::l=>if lessE a e=true then a::insE e l else e::a::l
def G_l2Put (d:List E×E×Unit):Option (List E×Unit):=if decide (d.1.length<=1000)=true then some (insE d.2.1 d.1,()) else none
def eE (a b:Int):E:=if a<b then (a,b,()) else (b,a,())
def outE (es:List E) (e:E):List E:=es.filter fun x => !decide (x=e)
def togE (es:List E) (e:E):List E:=if (outE es e).length=es.length then insE e (outE es e) else outE es e
def togB (g:Gr) (a b:Int):Gr×Bool×Unit:=if (graphB g&&inB 0 (g.1-1) a&&inB 0 (g.1-1) b && !(a==b))=true then ((g.1,togE g.2.1 (eE a b),()),true,()) else ((0,[],()),false,())
def G_ToggleEdge (d:Gr×Int×Int×Unit):Option (Gr×Bool×Unit):=if decide (d.1.2.1.length<=1000)=true then some (togB d.1 d.2.1 d.2.2.1) else none
def lessN (x gone:Int):Int:=if x>gone then x-1 else x
def dropG (g:Gr) (x:Int):Gr:=(((setF (fun y => !decide ((y:Int)=x)) g.1.toNat 0).length:Int),indE (nearI g.2.1) (setF (fun y => !decide ((y:Int)=x)) g.1.toNat 0),())
def dropM (m:List Int) (x:Int):List Int:=(m.filter fun y=>y != x).map fun y=>lessN y x
def dropW (w:Wk) (x:Int):Wk:=(dropG w.1 x,lessN w.2.1 x,lessN w.2.2.1 x,dropM w.2.2.2.1 x,w.2.2.2.2.1,())
def okW (w:Wk):Bool:=workB w&&decide (w.1.2.1.length<=1000)&&decide (w.2.2.2.1.length<=1000)
def G_l12Drop (d:Wk×Int×Unit):Option (Wk×Unit):=if (okW d.1&&inB 0 (d.1.1.1-1) d.2.1)=true then some (dropW d.1 d.2.1,()) else none
def dropB (w:Wk) (x:Int):Bool×Wk×Unit:=if (inB 0 (w.1.1-1) x && !(w.2.1==x) && !(w.2.2.1==x))=true then (true,dropW w x,()) else (false,w,())
def G_dropNode (d:Wk×Int×Unit):Option (Bool×Wk×Unit):=if okW d.1=true then some (dropB d.1 d.2.1) else none
def firstL (p:Int->Bool) (l:List Int) (z:Int):Int:=(l.find? p).getD z
def chaseP (ball:Int->List Int) (T:Tab) (c r b:Int):Bool:=decide (afterT ball T b r+1=tab2 T c r)&&decide (0<=afterT ball T b r)
def twoB (g:Gr) (c r:Int):Bool:=inB 0 (g.1-1) c&&inB 0 (g.1-1) r
def G_l3Chase (d:Gr×Tab×Int×Int×Unit):Option (Int×Unit):=
 if (grB d.1&&sqB d.1.1.toNat d.2.1&&twoB d.1 d.2.2.1 d.2.2.2.1&&decide (1<=tab2 d.2.1 d.2.2.1 d.2.2.2.1)&&(ballF d.1.1.toNat d.1.2.1 d.2.2.1).any (chaseP (ballF d.1.1.toNat d.1.2.1) d.2.1 d.2.2.1 d.2.2.2.1))=true then
  some (firstL (chaseP (ballF d.1.1.toNat d.1.2.1) d.2.1 d.2.2.1 d.2.2.2.1) (ballF d.1.1.toNat d.1.2.1 d.2.2.1) d.2.2.1,()) else none
def fleeL (row:Int->Int):List Int->Int->Int
 | [],b=>b
 | x::xs,b=>if row x<0 then x else fleeL row xs (if row x>row b then x else b)
def robL (row:Int->Int):List Int->Int->Int
 | [],b=>b
 | x::xs,b=>robL row xs (if 0<=row b/\(row x<0\/row x>row b) then x else b)
def G_l3Flee (d:Gr×Tab×Int×Int×Unit):Option (Int×Unit):=if (grB d.1&&sqL d.1.1.toNat d.2.1&&twoB d.1 d.2.2.1 d.2.2.2.1)=true then some (fleeL (tab2 d.2.1 d.2.2.1) (ballF d.1.1.toNat d.1.2.1 d.2.2.2.1) ((ballF d.1.1.toNat d.1.2.1 d.2.2.2.1).headD 0),()) else none
def G_copMove (d:Nt×Tab×Int×Int×Unit):Option (Int×Unit):=if (netB d.1.1&&sqB d.1.1.length d.2.1&&inB 0 ((d.1.1.length:Int)-1) d.2.2.1&&inB 0 ((d.1.1.length:Int)-1) d.2.2.2.1)=true then some (firstL (chaseP (ballM d.1.1) d.2.1 d.2.2.1 d.2.2.2.1) (ballM d.1.1 d.2.2.1) d.2.2.1,()) else none
def rowI (row:List Int) (z:Int):Int:=row.getD z.toNat 0
def G_robberMove (d:Nt×List Int×Int×Unit):Option (Int×Unit):=if (netB d.1.1&&decide (d.2.1.length=d.1.1.length)&&inB 0 ((d.1.1.length:Int)-1) d.2.2.1)=true then some (robL (rowI d.2.1) (ballM d.1.1 d.2.2.1).tail ((ballM d.1.1 d.2.2.1).headD 0),()) else none
def amongL (es:List E) (n:Nat) (S:List Int) (x:Int):List Int:=(setF (fun y=>nearI es x (y:Int)) n 0).filter fun y => !hasL S y
def gOk (g:Gr):Bool:=okL g.2.1&&decide (0<=g.1)&&decide (g.1<=8)
def G_l5Among (d:Gr×List Int×Int×Unit):Option (List Int×Unit):=if (gOk d.1&&okL d.2.1)=true then some (amongL d.1.2.1 d.1.1.toNat d.2.1 d.2.2.1,()) else none
def onceL (es:List E) (n:Nat) (S:List Int):Nat->Nat->List Int->List Int
 | 0,_,o=>o
 | k+1,x,o=>onceL es n S k (x+1) (if ((amongL es n S (x:Int)).length=1/\hasL S (x:Int)=true) then putL ((amongL es n S (x:Int)).headD 0) o else o)
def G_l9Once (d:Gr×List Int×Bool×Unit):Option (List Int×Unit):=if (!d.2.2.1&&gOk d.1&&decide (d.2.1.length<=100))=true then some (onceL d.1.2.1 d.1.1.toNat d.2.1 d.1.1.toNat 0 d.2.1,()) else none
def G_l5Rest (d:Gr×List Int×Unit):Option (List Int×Unit):=if (decide (0<=d.1.1)&&decide (d.1.1<=8)&&okL d.2.1)=true then some (setF (fun y => !hasL d.2.1 (y:Int)) d.1.1.toNat 0,()) else none
def maskN (l:List Int):Nat:=l.foldl (fun a x=>a|||2 ^ x.toNat) 0
def G_maskOf (d:List Int×Unit):Option (Int×Unit):=if (okL d.1&&d.1.all (inB 0 7))=true then some ((maskN d.1:Int),()) else none
def forceN (ms:List Nat) (s:Nat):Nat->Nat->Nat->Nat
 | 0,_,o=>o
 | k+1,x,o=>forceN ms s k (x+1) (if (s.testBit x=true/\ms.getD x 0&&&(255^^^s)≠0/\(ms.getD x 0&&&(255^^^s))&&&((ms.getD x 0&&&(255^^^s))-1)=0) then o|||(ms.getD x 0&&&(255^^^s)) else o)
def G_forced (d:Nt×Int×Bool×Unit):Option (Int×Unit):=if (smallN d.1.1&&inB 0 255 d.2.1 && !d.2.2.1)=true then some ((forceN (fromI d.1.1) d.2.1.toNat d.1.1.length 0 d.2.1.toNat:Int),()) else none
def W0:Wk:=((0,[],()),0,0,[],0,())
def cntW (w:Wk):Wk:=(w.1,w.2.1,w.2.2.1,w.2.2.2.1,w.2.2.2.2.1+1,())
def outW (ok:Bool) (w:Wk):Wk×Bool×Unit:=if (ok&&workB (cntW w))=true then (cntW w,true,()) else (W0,false,())
def chB0 (w:Wk):Bool:=decide (0<=w.2.1)&&decide (0<=w.2.2.1) && !(w.2.1==w.2.2.1)
def ballW (w:Wk):Int->List Int:=ballF w.1.1.toNat w.1.2.1
def movesB (w:Wk) (a b:Int):Bool:=chB0 w&&hasL (ballW w w.2.1) a&&hasL (ballW w w.2.2.1) b&&(!(a==w.2.2.1)||b==a)
def timesW (w:Wk):Tab:=timesT w.1.1.toNat (ballW w)
def copW (w:Wk):Int:=if tab2 (timesW w) w.2.1 w.2.2.1<1 then w.2.1 else firstL (chaseP (ballW w) (timesW w) w.2.1 w.2.2.1) (ballW w w.2.1) w.2.1
def robW (w:Wk):Int:=if copW w=w.2.2.1 then w.2.2.1 else fleeL (tab2 (timesW w) (copW w)) (ballW w w.2.2.1) ((ballW w w.2.2.1).headD 0)
def setM (w:Wk) (m:List Int):Wk:=(w.1,w.2.1,w.2.2.1,m,w.2.2.2.2.1,())
def doW (w:Wk) (x:Wo):Wk×Bool×Unit:=
 if x.1=1 then outW (x.2.1==0&&x.2.2.1==0) ((w.1.1+1,w.1.2.1,()),w.2)
 else if x.1=2 then outW (x.2.2.1==0&&inB 0 (w.1.1-1) x.2.1 && !(w.2.1==x.2.1) && !(w.2.2.1==x.2.1)) (dropW w x.2.1)
 else if x.1=3 then outW (inB 0 (w.1.1-1) x.2.1&&inB 0 (w.1.1-1) x.2.2.1 && !(x.2.1==x.2.2.1)) ((w.1.1,togE w.1.2.1 (eE x.2.1 x.2.2.1),()),w.2)
 else if x.1=4 then outW (x.2.2.1==0) (w.1,x.2.1,w.2.2)
 else if x.1=5 then outW (x.2.2.1==0) (w.1,w.2.1,x.2.1,w.2.2.2)
 else if x.1=6 then outW (movesB w x.2.1 x.2.2.1) (w.1,x.2.1,x.2.2.1,w.2.2.2)
 else if x.1=7 then outW (x.2.1==0&&x.2.2.1==0&&chB0 w) (w.1,copW w,robW w,w.2.2.2)
 else if x.1=8 then outW (x.2.2.1==0&&inB 0 (w.1.1-1) x.2.1) (setM w (setF (fun y=>Bool.xor (hasL w.2.2.2.1 (y:Int)) (decide ((y:Int)=x.2.1))) w.1.1.toNat 0))
 else if x.1=9 then outW (x.2.1==0&&x.2.2.1==0) (setM w (onceL w.1.2.1 w.1.1.toNat w.2.2.2.1 w.1.1.toNat 0 w.2.2.2.1))
 else if x.1=10 then outW (x.2.1==0&&x.2.2.1==0) (setM w (setF (fun y => !hasL w.2.2.2.1 (y:Int)) w.1.1.toNat 0))
 else (W0,false,())
def G_do (d:Wk×Wo×Unit):Option (Wk×Bool×Unit):=if okW d.1=true then some (doW d.1 d.2.1) else none
def okWs (w:Wk):Bool:=decide (w.1.2.1.length<=1048576)&&decide (w.2.2.2.1.length<=1048576)
def worksL:List Wo->Nat->Wk->Wk×Int×Bool×Unit
 | [],i,w=>(w,(i:Int),true,())
 | x::xs,i,w=>if (doW w x).2.1=true then worksL xs (i+1) (doW w x).1 else (w,(i:Int),true,())
def worksB (w:Wk) (l:List Wo):Wk×Int×Bool×Unit:=if workB w=true then worksL l 0 w else (W0,0,false,())
def G_DoWorks (d:Wk×List Wo×Unit):Option (Wk×Int×Bool×Unit):=if (okWs d.1&&decide (d.2.1.length<=1048576))=true then some (worksB d.1 d.2.1) else none
end Go.V.W
namespace Go.V.W
def afterG (cf:List (List Int)) (ball:Int->List Int) (T:Tab) (d x:Int):Int:=if hasL (cf.getD d.toNat []) x=true then 0 else worstL (tab2 T d) (ball x) 0
def worstR (row:List Int):Int:=worstL (fun z=>z) row 0
def bestRow:List (List Int)->Int->Int->Int->Int×Int
 | [],_,b,l=>(b,l)
 | r::rs,i,b,l=>if 0<=worstR r/\(b<0\/worstR r<l) then bestRow rs (i+1) i (worstR r) else bestRow rs (i+1) b l
end Go.V.W
namespace Go.V.W
def P_path (d:Int×Unit) (r:Gr×Unit):Prop:=r.1.2.1.length<=100
def P_someG (d:Cur×Int×Unit) (r:Gr×Cur×Unit):Prop:=Adv 300 d.1 r.2.1/\r.1.2.1.length<=200
end Go.V.W
namespace Go.V.W
abbrev St:=Int×List Int×Int×Unit
end Go.V.W
namespace Go.V.W
open Go.Proofs
def G_vInts (d:List Int×List Int×Unit):Option (Bool×Unit):=if (okL d.1&&decide (d.1=d.2.1))=true then some (true,()) else none
def G_vPairs (d:List E×List E×Unit):Option (Bool×Unit):=if (okL d.1&&decide (d.1=d.2.1))=true then some (true,()) else none
def copT (ball:Int->List Int) (T:Tab) (c r:Int):Int:=firstL (chaseP ball T c r) (ball c) c
def oneT (g:Gr):Tab:=timesT g.1.toNat (ballF g.1.toNat g.2.1)
def smallW (w:Wk):Prop:=w.1.2.1.length<=1000/\w.2.2.2.1.length<=1000
def P_shop (d:Cur×Unit) (r:Wk×Cur×Unit):Prop:=smallW r.1/\Adv 2000 d.1 r.2.1
def P_works (d:List Int×Unit) (r:Wk×List Wo×Unit):Prop:=smallW r.1/\r.2.1.length<=100
def oneOut (o:Int×Int):Int×Int×Bool×Unit:=if o.1<0 then (0,0,false,()) else (o.1,o.2,true,())
def capOne (g:Gr):Int×Int×Bool×Unit:=if graphB g=true then oneOut (bestRow (oneT g) 0 (-1) 0) else (0,0,false,())
end Go.V.W
namespace Go.V.W
open Go.Proofs
abbrev I:Kd:=.int .i64
abbrev K_Su8:Kd:=.slice (.int .u8)
abbrev K_Pu64q:Kd:=.pair (.int .u64) .unit
abbrev K_Piu64q:Kd:=.pair I K_Pu64q
abbrev K_PSu8iu64q:Kd:=.pair K_Su8 K_Piu64q
abbrev K_BPSu8iu64q:Kd:=.bx K_PSu8iu64q
abbrev K_Piq:Kd:=.pair I .unit
abbrev K_Piiq:Kd:=.pair I K_Piq
abbrev K_SPiiq:Kd:=.slice K_Piiq
abbrev K_PSPiiqq:Kd:=.pair K_SPiiq .unit
abbrev K_PiSPiiqq:Kd:=.pair I K_PSPiiqq
abbrev K_Si:Kd:=.slice I
abbrev K_PSiiq:Kd:=.pair K_Si K_Piq
abbrev K_PiSiiq:Kd:=.pair I K_PSiiq
abbrev K_PiiSiiq:Kd:=.pair I K_PiSiiq
abbrev K_PPiSPiiqqiiSiiq:Kd:=.pair K_PiSPiiqq K_PiiSiiq
abbrev K_Piiiq:Kd:=.pair I K_Piiq
abbrev K_SSi:Kd:=.slice K_Si
abbrev K_ZPiiq:Kd:=.ssl K_Piiq
abbrev K_PZPiiqq:Kd:=.pair K_ZPiiq .unit
abbrev K_PiZPiiqq:Kd:=.pair I K_PZPiiqq
abbrev K_PPiZPiiqqiiSiiq:Kd:=.pair K_PiZPiiqq K_PiiSiiq
abbrev K_PSiq:Kd:=.pair K_Si .unit
abbrev K_BPSiq:Kd:=.bx K_PSiq
abbrev K_BSi:Kd:=.bx K_Si
abbrev K_PBSiq:Kd:=.pair K_BSi .unit
abbrev K_PBPSiqBSiq:Kd:=.pair K_BPSiq K_PBSiq
abbrev K_F_q14q_qPBPSiqBSiq:Kd:=.clo 165 .unit K_PBPSiqBSiq
abbrev K_BPPiSPiiqqiiSiiq:Kd:=.bx K_PPiSPiiqqiiSiiq
abbrev K_PPSiqq:Kd:=.pair K_PSiq .unit
abbrev K_F_q63q_PPSiqqq:Kd:=.clo 151 K_PPSiqq .unit
abbrev K_Bi:Kd:=.bx I
abbrev K_BSSi:Kd:=.bx K_SSi
abbrev K_PBSSiq:Kd:=.pair K_BSSi .unit
abbrev K_PBPSiqBSSiq:Kd:=.pair K_BPSiq K_PBSSiq
abbrev K_PBiBPSiqBSSiq:Kd:=.pair K_Bi K_PBPSiqBSSiq
abbrev K_F_q18q_qPBiBPSiqBSSiq:Kd:=.clo 140 .unit K_PBiBPSiqBSSiq
abbrev K_SPiiiq:Kd:=.slice K_Piiiq
def tks:List (Nat×Kd):=[(3,I),(4,.bool),(5,(.int .u8)),(22,K_SPiiq),(25,K_Si),(31,K_PiSPiiqq),(33,K_PPiSPiiqqiiSiiq),(37,K_Piiiq),(44,K_Su8),(51,K_SPiiiq),(62,K_SSi),(67,K_Piiq),(81,(.int .u64)),(83,K_PSu8iu64q),(94,K_PSiq),(138,(.int .u64))]
def ars:List (Nat×Nat):=[(67,3)]
noncomputable def Γ_laws_vBig:Ctx:={ tk:=assoc tks,ar:=assoc ars,fs:=assoc [] }
noncomputable def F_laws_vBig (N:Nat) (d:List Int×Unit):Option (Bool×Unit):=
 let a0:=d.1
 some ((decide ((List.length a0:Int)>(65536:Int)),()))
noncomputable def g_laws_vBig (d:List Int×Unit):Bool×Unit:=
 let a0:=d.1
 ((decide ((List.length a0:Int)>(65536:Int)),()))
theorem F_laws_vBig_tot (N:Nat) (d):F_laws_vBig N d=some (g_laws_vBig d):=by
 unfold F_laws_vBig g_laws_vBig
 first
  | rfl
  | (dsimp only; (repeat' split)<;>rfl)
noncomputable def S_laws_vBig:FSig:=⟨[(K_Su8,false)],[.bool],true,(fun d=>some (g_laws_vBig d))⟩
noncomputable def Γ_q34q:Ctx:={ tk:=assoc tks,ar:=assoc ars,fs:=assoc [],lent:=fun t=>Nat.beq t 0 }
noncomputable def F_q34q (N:Nat) (d:(List Int×Int×Int×Unit)×Unit):Option (Int×(List Int×Int×Int×Unit)×Unit):=
 let a0:=d.1
 if (decide (a0.2.1<(List.length a0.1:Int)))=true then
  if (idxIn a0.2.1 (List.length a0.1))=true then
  let x1:=IntKind.wrap .i64 (at_ (.int .u8) a0.1 a0.2.1.toNat)
  let x2:=IntKind.wrap .i64 (a0.2.1+(1:Int))
  let x3:=IntKind.wrap .u64 (a0.2.2.1*(6364136223846793005:Int))
  let x4:=IntKind.wrap .u64 (x3+IntKind.wrap .u64 x1)
  let x5:=IntKind.wrap .u64 (x4+(462197:Int))
  if (decide (x2<=(List.length a0.1:Int)))=true then
   some ((x1,((a0.1,(x2,(x5,a0.2.2.2))),())))
  else
   if (decide (0<=(40:Int)))=true then
   let x6:=bits .and .u64 (shr .u64 x5 (40:Int)) (255:Int)
   some ((IntKind.wrap .i64 x6,((a0.1,(x2,(x5,a0.2.2.2))),())))
   else none
  else none
 else
  let x7:=IntKind.wrap .i64 (a0.2.1+(1:Int))
  let x8:=IntKind.wrap .u64 (a0.2.2.1*(6364136223846793005:Int))
  let x9:=IntKind.wrap .u64 (x8+IntKind.wrap .u64 (0:Int))
  let x10:=IntKind.wrap .u64 (x9+(462197:Int))
  if (decide (x7<=(List.length a0.1:Int)))=true then
   some (((0:Int),((a0.1,(x7,(x10,a0.2.2.2))),())))
  else
   if (decide (0<=(40:Int)))=true then
   let x11:=bits .and .u64 (shr .u64 x10 (40:Int)) (255:Int)
   some ((IntKind.wrap .i64 x11,((a0.1,(x7,(x10,a0.2.2.2))),())))
   else none
noncomputable def S_q34q:FSig:=⟨[(K_BPSu8iu64q,true)],[I],true,(F_q34q 0)⟩
noncomputable def Γ_q37q:Ctx:={ tk:=assoc tks,ar:=assoc ars,fs:=assoc [(101,S_q34q)],lent:=fun t=>Nat.beq t 0 }
noncomputable def F_q37q (N:Nat) (d:(List Int×Int×Int×Unit)×Int×Unit):Option (Int×(List Int×Int×Int×Unit)×Unit):=
 let a0:=d.1
 let a1:=d.2.1
 if (decide (a1<=(1:Int)))=true then
  some (((0:Int),(a0,())))
 else
  ((F_q34q 0) (a0,())).bind fun r1=>
  if (decide (a1>(200:Int)))=true then
   let x2:=IntKind.wrap .i64 (r1.1*(256:Int))
   ((F_q34q 0) (r1.2.1,())).bind fun r3=>
   let x4:=IntKind.wrap .i64 (x2+r3.1)
   if (a1 != 0)=true then
   some ((x4.tmod a1,(r3.2.1,())))
   else none
  else
   if (a1 != 0)=true then
   some ((r1.1.tmod a1,(r1.2.1,())))
   else none
noncomputable def S_q37q:FSig:=⟨[(K_BPSu8iu64q,true),(I,false)],[I],true,(F_q37q 0)⟩
noncomputable def Γ_q50q:Ctx:={ tk:=assoc tks,ar:=assoc ars,fs:=assoc [(62,S_q37q)],lent:=fun t=>Nat.beq t 0 }
noncomputable def F_q50q (N:Nat) (d:(List Int×Int×Int×Unit)×Int×Unit):Option (Bool×(List Int×Int×Int×Unit)×Unit):=
 let a0:=d.1
 let a1:=d.2.1
 ((F_q37q 0) ((a0,(a1,())))).bind fun r1=>
 some ((r1.1==(0:Int),(r1.2.1,())))
noncomputable def S_q50q:FSig:=⟨[(K_BPSu8iu64q,true),(I,false)],[.bool],true,(F_q50q 0)⟩
noncomputable def Γ_q100q:Ctx:={ tk:=assoc tks,ar:=assoc ars,fs:=assoc [] }
abbrev q100q_l0_H:=Int×Int×(Int×(List (Int×Int×Unit))×Unit)×Int×Unit
abbrev q100q_l0_O:=(Bool×Unit)⊕Unit⊕Empty
def q100q_l0_h:Form:=[(1,.v I),(2,.v I),(3,.box K_PiSPiiqq 0),(7,.v I)]
def q100q_l0_o:Outs:=[(.ret,[(6,.v .bool)]),(.normal,[])]
noncomputable def q100q_l0_r (N:Nat) (back:q100q_l0_H->Option q100q_l0_O) (d:q100q_l0_H):Option q100q_l0_O:=
 let s1:=d.1
 let s2:=d.2.1
 let s3:=d.2.2.1
 let s7:=d.2.2.2.1
 if (decide (s7<(List.length s3.2.1:Int)))=true then
  if (idxIn s7 (List.length s3.2.1))=true then
  if ((at_ K_Piiq s3.2.1 s7.toNat).1==s1)=true then
   if ((at_ K_Piiq s3.2.1 s7.toNat).2.1==s2)=true then
    some (.inl (true,()))
   else
    if ((at_ K_Piiq s3.2.1 s7.toNat).1==s2)=true then
     if ((at_ K_Piiq s3.2.1 s7.toNat).2.1==s1)=true then
      some (.inl (true,()))
     else
      let x8:=IntKind.wrap .i64 (s7+(1:Int))
      back ((s1,(s2,(s3,(x8,())))))
    else
     let x9:=IntKind.wrap .i64 (s7+(1:Int))
     back ((s1,(s2,(s3,(x9,())))))
  else
   if ((at_ K_Piiq s3.2.1 s7.toNat).1==s2)=true then
    if ((at_ K_Piiq s3.2.1 s7.toNat).2.1==s1)=true then
     some (.inl (true,()))
    else
     let x10:=IntKind.wrap .i64 (s7+(1:Int))
     back ((s1,(s2,(s3,(x10,())))))
   else
    let x11:=IntKind.wrap .i64 (s7+(1:Int))
    back ((s1,(s2,(s3,(x11,())))))
  else none
 else
  some (.inr (.inl ()))
noncomputable def q100q_l0 (N:Nat):Nat->q100q_l0_H->Option q100q_l0_O
 | 0,_=>none
 | k+1,d=>q100q_l0_r N (q100q_l0 N k) d
noncomputable def F_q100q (N:Nat) (d:(Int×(List (Int×Int×Unit))×Unit)×Int×Int×Unit):Option (Bool×Unit):=
 let a0:=d.1
 let a1:=d.2.1
 let a2:=d.2.2.1
 (q100q_l0 N N ((a1,(a2,(a0,((0:Int),())))))).bind fun o5=>match o5 with
 | .inl d6=>
  some (d6.1,())
 | .inr (.inl d7)=>
  some (false,())
noncomputable def S_q100q:FSig:=⟨[(K_PiSPiiqq,false),(I,false),(I,false)],[.bool],true,(G_l2Near)⟩
noncomputable def Γ_q23q:Ctx:={ tk:=assoc tks,ar:=assoc ars,fs:=assoc [(156,S_q100q)] }
abbrev q23q_l0_H:=Int×(Int×(List (Int×Int×Unit))×Unit)×List Int×Int×Unit
abbrev q23q_l0_O:=(List Int×Unit)⊕Empty
def q23q_l0_h:Form:=[(1,.v I),(2,.box K_PiSPiiqq 0),(5,.own K_Si 99),(6,.v I)]
def q23q_l0_o:Outs:=[(.normal,[(5,.own K_Si 99)])]
noncomputable def q23q_l0_r (N:Nat) (back:q23q_l0_H->Option q23q_l0_O) (d:q23q_l0_H):Option q23q_l0_O:=
 let s1:=d.1
 let s2:=d.2.1
 let s5:=d.2.2.1
 let s6:=d.2.2.2.1
 if (decide (s6<s2.1))=true then
  (G_l2Near ((s2,(s1,(s6,()))))).bind fun r6=>
  if (r6.1)=true then
   if (decide (List.length s5+List.length ([s6])<=lim))=true then
   let x7:=IntKind.wrap .i64 (s6+(1:Int))
   back ((s1,(s2,(s5++([s6]),(x7,())))))
   else none
  else
   let x8:=IntKind.wrap .i64 (s6+(1:Int))
   back ((s1,(s2,(s5,(x8,())))))
 else
  some (.inl (s5,()))
noncomputable def q23q_l0 (N:Nat):Nat->q23q_l0_H->Option q23q_l0_O
 | 0,_=>none
 | k+1,d=>q23q_l0_r N (q23q_l0 N k) d
noncomputable def F_q23q (N:Nat) (d:(Int×(List (Int×Int×Unit))×Unit)×Int×Unit):Option (List Int×Unit):=
 let a0:=d.1
 let a1:=d.2.1
 (q23q_l0 N N ((a1,(a0,(([]:List Int),((0:Int),())))))).bind fun o4=>match o4 with
 | .inl d5=>
  some (d5.1,())
noncomputable def S_q23q:FSig:=⟨[(K_PiSPiiqq,false),(I,false)],[K_Si],true,(G_l2Neighbors)⟩
noncomputable def Γ_q79q:Ctx:={ tk:=assoc tks,ar:=assoc ars,fs:=assoc [],cs:=assoc [],gs:=assoc [],eqt:=inL [],md:={ gone:=[0],deep:=[] },cut:=fun t=>bif Nat.beq t 33 then 1 else 0 }
abbrev q79q_l0_H:=List Int×Int×Int×Unit
abbrev q79q_l0_O:=(List Int×Int×Int×Unit)⊕Empty
def q79q_l0_h:Form:=[(0,.own K_Si 1),(1,.v I),(5,.v I)]
def q79q_l0_o:Outs:=[(.normal,[(0,.own K_Si 1),(1,.v I),(5,.v I)])]
noncomputable def q79q_l0_r (N:Nat) (back:q79q_l0_H->Option q79q_l0_O) (d:q79q_l0_H):Option q79q_l0_O:=
 let s0:=d.1
 let s1:=d.2.1
 let s5:=d.2.2.1
 if (decide (s5<(List.length s0:Int)))=true then
  if (idxIn s5 (List.length s0))=true then
  if (decide (at_ I s0 s5.toNat<s1))=true then
   let x8:=IntKind.wrap .i64 (s5+(1:Int))
   back ((s0,(s1,(x8,()))))
  else
   some (.inl ((s0,(s1,(s5,())))))
  else none
 else
  some (.inl ((s0,(s1,(s5,())))))
noncomputable def q79q_l0 (N:Nat):Nat->q79q_l0_H->Option q79q_l0_O
 | 0,_=>none
 | k+1,d=>q79q_l0_r N (q79q_l0 N k) d
noncomputable def F_q79q (N:Nat) (d:List Int×Int×Unit):Option (List Int×List Int×Unit):=
 let a0:=d.1
 let a1:=d.2.1
 (q79q_l0 N N ((a0,(a1,((0:Int),()))))).bind fun o2=>match o2 with
 | .inl d3=>
  if (decide (d3.2.2.1<(List.length d3.1:Int)))=true then
   if (idxIn d3.2.2.1 (List.length d3.1))=true then
   if (at_ I d3.1 d3.2.2.1.toNat==d3.2.1)=true then
    some ((d3.1,(([]:List Int),())))
   else
    if ((decide (0<=(0:Int))&&decide ((0:Int)<=d3.2.2.1)&&decide (d3.2.2.1<=(List.length d3.1:Int))))=true then
    if (decide (List.length ([]:List Int)+List.length (sub_ d3.1 (0:Int) d3.2.2.1)<=lim))=true then
    let x4:=([]:List Int)++(sub_ d3.1 (0:Int) d3.2.2.1)
    if (decide (List.length x4+List.length ([d3.2.1])<=lim))=true then
    if ((decide (0<=d3.2.2.1)&&decide (d3.2.2.1<=(List.length d3.1:Int))&&decide ((List.length d3.1:Int)<=(List.length d3.1:Int))))=true then
    let x5:=sub_ d3.1 d3.2.2.1 (List.length d3.1:Int)
    if (decide (List.length (x4++([d3.2.1]))+List.length x5<=lim))=true then
    some (((x4++([d3.2.1]))++x5,(([]:List Int),())))
    else none
    else none
    else none
    else none
    else none
   else none
  else
   if ((decide (0<=(0:Int))&&decide ((0:Int)<=d3.2.2.1)&&decide (d3.2.2.1<=(List.length d3.1:Int))))=true then
   if (decide (List.length ([]:List Int)+List.length (sub_ d3.1 (0:Int) d3.2.2.1)<=lim))=true then
   let x6:=([]:List Int)++(sub_ d3.1 (0:Int) d3.2.2.1)
   if (decide (List.length x6+List.length ([d3.2.1])<=lim))=true then
   if ((decide (0<=d3.2.2.1)&&decide (d3.2.2.1<=(List.length d3.1:Int))&&decide ((List.length d3.1:Int)<=(List.length d3.1:Int))))=true then
   let x7:=sub_ d3.1 d3.2.2.1 (List.length d3.1:Int)
   if (decide (List.length (x6++([d3.2.1]))+List.length x7<=lim))=true then
   some (((x6++([d3.2.1]))++x7,(([]:List Int),())))
   else none
   else none
   else none
   else none
   else none
noncomputable def S_q79q:FSig:=⟨[(K_Si,true),(I,false)],[K_Si],true,(G_l1PutW)⟩
noncomputable def Γ_q86q:Ctx:={ tk:=assoc tks,ar:=assoc ars,fs:=assoc [(152,S_q23q)],cs:=assoc [],gs:=assoc [(122,(S_q79q,{ gone:=[0],deep:=[] }))],eqt:=inL [],md:=md0 }
noncomputable def F_q86q (N:Nat) (d:(Int×(List (Int×Int×Unit))×Unit)×Int×Unit):Option (List Int×Unit):=
 let a0:=d.1
 let a1:=d.2.1
 (G_l2Neighbors ((a0,(a1,())))).bind fun r1=>
 (G_l1PutW ((r1.1,(a1,())))).bind fun r2=>
 some (r2.1,())
noncomputable def S_q86q:FSig:=⟨[(K_PiSPiiqq,false),(I,false)],[K_Si],true,(F_q86q 0)⟩
noncomputable def Γ_q53q:Ctx:={ tk:=assoc tks,ar:=assoc ars,fs:=assoc [] }
noncomputable def F_q53q (N:Nat) (d:(Int×Int×Unit)×(Int×Int×Unit)×Unit):Option (Bool×Unit):=
 let a0:=d.1
 let a1:=d.2.1
 if (decide (a0.1<a1.1))=true then
  some (true,())
 else
  if (a0.1==a1.1)=true then
   some (decide (a0.2.1<a1.2.1),())
  else
   some (false,())
noncomputable def g_q53q (d:(Int×Int×Unit)×(Int×Int×Unit)×Unit):Bool×Unit:=
 let a0:=d.1
 let a1:=d.2.1
 if (decide (a0.1<a1.1))=true then
  (true,())
 else
  if (a0.1==a1.1)=true then
   (decide (a0.2.1<a1.2.1),())
  else
   (false,())
theorem F_q53q_tot (N:Nat) (d):F_q53q N d=some (g_q53q d):=by
 unfold F_q53q g_q53q
 first
  | rfl
  | (dsimp only; (repeat' split)<;>rfl)
noncomputable def S_q53q:FSig:=⟨[(K_Piiq,false),(K_Piiq,false)],[.bool],true,(fun d=>some (g_q53q d))⟩
noncomputable def Γ_spec_l2Put:Ctx:={ tk:=assoc tks,ar:=assoc ars,fs:=assoc [(111,S_q53q)] }
abbrev spec_l2Put_l0_H:=(List (Int×Int×Unit))×(Int×Int×Unit)×Int×Unit
abbrev spec_l2Put_l0_O:=((List (Int×Int×Unit))×(Int×Int×Unit)×Int×Unit)⊕Empty
def spec_l2Put_l0_h:Form:=[(0,.v K_SPiiq),(3,.box K_Piiq 99),(5,.v I)]
def spec_l2Put_l0_o:Outs:=[(.normal,[(0,.v K_SPiiq),(3,.box K_Piiq 99),(5,.v I)])]
noncomputable def spec_l2Put_l0_r (N:Nat) (back:spec_l2Put_l0_H->Option spec_l2Put_l0_O) (d:spec_l2Put_l0_H):Option spec_l2Put_l0_O:=
 let s0:=d.1
 let s3:=d.2.1
 let s5:=d.2.2.1
 if (decide (s5<(List.length s0:Int)))=true then
  if (idxIn s5 (List.length s0))=true then
  let r7:=g_q53q ((at_ K_Piiq s0 s5.toNat,(s3,())))
  if (r7.1)=true then
   let x8:=IntKind.wrap .i64 (s5+(1:Int))
   back ((s0,(s3,(x8,()))))
  else
   some (.inl ((s0,(s3,(s5,())))))
  else none
 else
  some (.inl ((s0,(s3,(s5,())))))
noncomputable def spec_l2Put_l0 (N:Nat):Nat->spec_l2Put_l0_H->Option spec_l2Put_l0_O
 | 0,_=>none
 | k+1,d=>spec_l2Put_l0_r N (spec_l2Put_l0 N k) d
noncomputable def F_spec_l2Put (N:Nat) (d:(List (Int×Int×Unit))×(Int×Int×Unit)×Unit):Option ((List (Int×Int×Unit))×Unit):=
 let a0:=d.1
 let a1:=d.2.1
 (spec_l2Put_l0 N N ((a0,(a1,((0:Int),()))))).bind fun o3=>match o3 with
 | .inl d4=>
  if ((decide (0<=(0:Int))&&decide ((0:Int)<=d4.2.2.1)&&decide (d4.2.2.1<=(List.length d4.1:Int))))=true then
  if (decide (List.length ([]:List (Int×Int×Unit))+List.length (sub_ d4.1 (0:Int) d4.2.2.1)<=lim))=true then
  let x5:=([]:List (Int×Int×Unit))++(sub_ d4.1 (0:Int) d4.2.2.1)
  if (decide (List.length x5+List.length ([d4.2.1])<=lim))=true then
  if ((decide (0<=d4.2.2.1)&&decide (d4.2.2.1<=(List.length d4.1:Int))&&decide ((List.length d4.1:Int)<=(List.length d4.1:Int))))=true then
  let x6:=sub_ d4.1 d4.2.2.1 (List.length d4.1:Int)
  if (decide (List.length (x5++([d4.2.1]))+List.length x6<=lim))=true then
  some (((x5++([d4.2.1]))++x6,()))
  else none
  else none
  else none
  else none
  else none
noncomputable def S_spec_l2Put:FSig:=⟨[(K_SPiiq,false),(K_Piiq,false)],[K_SPiiq],true,(G_l2Put)⟩
noncomputable def Γ_q21q:Ctx:={ tk:=assoc tks,ar:=assoc ars,fs:=assoc [(62,S_q37q)],lent:=fun t=>Nat.beq t 0 }
noncomputable def F_q21q (N:Nat) (d:(List Int×Int×Int×Unit)×List Int×Unit):Option (Int×(List Int×Int×Int×Unit)×Unit):=
 let a0:=d.1
 let a1:=d.2.1
 ((F_q37q 0) ((a0,((List.length a1:Int),())))).bind fun r1=>
 if (idxIn r1.1 (List.length a1))=true then
 some ((at_ I a1 r1.1.toNat,(r1.2.1,())))
 else none
noncomputable def S_q21q:FSig:=⟨[(K_BPSu8iu64q,true),(K_Si,false)],[I],true,(F_q21q 0)⟩
noncomputable def Γ_q15q:Ctx:={ tk:=assoc tks,ar:=assoc ars,fs:=assoc [(62,S_q37q),(98,S_q21q)],lent:=fun t=>Nat.beq t 0,cs:=assoc [],gs:=assoc [],eqt:=inL [],md:={ gone:=[1],deep:=[] } }
noncomputable def F_q15q (N:Nat) (d:(List Int×Int×Int×Unit)×(Int×(List (Int×Int×Unit))×Unit)×Unit):Option ((Int×(List (Int×Int×Unit))×Unit)×(List Int×Int×Int×Unit)×(Int×(List (Int×Int×Unit))×Unit)×Unit):=
 let a0:=d.1
 let a1:=d.2.1
 ((F_q37q 0) ((a0,((50:Int),())))).bind fun r1=>
 if (r1.1==(0:Int))=true then
  ((F_q21q 0) ((r1.2.1,([(-1:Int),(8:Int),(9:Int),(0:Int),(4611686018427387904:Int)],())))).bind fun r2=>
  some (((r2.1,a1.2),(r2.2.1,(((0:Int),(([]:List (Int×Int×Unit)),())),()))))
 else
  if (r1.1==(1:Int))=true then
   ((F_q37q 0) ((r1.2.1,((4:Int),())))).bind fun r3=>
   ((F_q37q 0) ((r3.2.1,((9:Int),())))).bind fun r4=>
   let x5:=IntKind.wrap .i64 (r4.1-(1:Int))
   if (decide (List.length a1.2.1+List.length ([(r3.1,(x5,()))])<=lim))=true then
   let x6:=a1.2.1++([(r3.1,(x5,()))])
   some (((a1.1,(x6,a1.2.2)),(r4.2.1,(((0:Int),(([]:List (Int×Int×Unit)),())),()))))
   else none
  else
   if (r1.1==(2:Int))=true then
    if (decide ((List.length a1.2.1:Int)>(0:Int)))=true then
     ((F_q37q 0) ((r1.2.1,((List.length a1.2.1:Int),())))).bind fun r7=>
     if (idxIn r7.1 (List.length a1.2.1))=true then
     if (decide (List.length a1.2.1+List.length ([at_ K_Piiq a1.2.1 r7.1.toNat])<=lim))=true then
     let x8:=a1.2.1++([at_ K_Piiq a1.2.1 r7.1.toNat])
     some (((a1.1,(x8,a1.2.2)),(r7.2.1,(((0:Int),(([]:List (Int×Int×Unit)),())),()))))
     else none
     else none
    else
     some ((a1,(r1.2.1,(((0:Int),(([]:List (Int×Int×Unit)),())),()))))
   else
    some ((a1,(r1.2.1,(((0:Int),(([]:List (Int×Int×Unit)),())),()))))
noncomputable def S_q15q:FSig:=⟨[(K_BPSu8iu64q,true),(K_PiSPiiqq,true)],[K_PiSPiiqq],true,(F_q15q 0)⟩
noncomputable def Γ_q42q:Ctx:={ tk:=assoc tks,ar:=assoc ars,fs:=assoc [(62,S_q37q),(93,S_q50q),(133,S_q86q),(134,S_spec_l2Put)],lent:=fun t=>Nat.beq t 0,cs:=assoc [],gs:=assoc [(135,(S_q15q,{ gone:=[1],deep:=[] }))],eqt:=inL [],md:=md0 }
abbrev q42q_l2_H:=(List Int×Int×Int×Unit)×(Int×(List (Int×Int×Unit))×Unit)×(Int×(List (Int×Int×Unit))×Unit)×Int×Int×List Int×Int×Unit
abbrev q42q_l2_O:=((List Int×Int×Int×Unit)×(Int×(List (Int×Int×Unit))×Unit)×(Int×(List (Int×Int×Unit))×Unit)×Int×Unit)⊕Empty
def q42q_l2_h:Form:=[(0,.box K_PSu8iu64q 0),(4,.box K_PiSPiiqq 99),(5,.box K_PiSPiiqq 99),(6,.v I),(7,.v I),(8,.own K_Si 99),(9,.v I)]
def q42q_l2_o:Outs:=[(.normal,[(0,.box K_PSu8iu64q 0),(4,.box K_PiSPiiqq 99),(5,.box K_PiSPiiqq 99),(6,.v I)])]
noncomputable def q42q_l2_r (N:Nat) (back:q42q_l2_H->Option q42q_l2_O) (d:q42q_l2_H):Option q42q_l2_O:=
 let s0:=d.1
 let s4:=d.2.1
 let s5:=d.2.2.1
 let s6:=d.2.2.2.1
 let s7:=d.2.2.2.2.1
 let s8:=d.2.2.2.2.2.1
 let s9:=d.2.2.2.2.2.2.1
 if (decide (s9<(List.length s8:Int)))=true then
  if (idxIn s9 (List.length s8))=true then
  if (decide (at_ I s8 s9.toNat<s6))=true then
   if (idxIn s9 (List.length s8))=true then
   if (at_ I s8 s9.toNat==s7)=true then
    if (idxIn s9 (List.length s8))=true then
    (G_l2Put ((s5.2.1,((at_ I s8 s9.toNat,(s6,())),())))).bind fun r31=>
    let x32:=IntKind.wrap .i64 (s9+(1:Int))
    back ((s0,(s4,((s5.1,(r31.1,s5.2.2)),(s6,(s7,(s8,(x32,()))))))))
    else none
   else
    ((F_q50q 0) ((s0,((2:Int),())))).bind fun r33=>
    if (r33.1)=true then
     if (idxIn s9 (List.length s8))=true then
     (G_l2Put ((s5.2.1,((at_ I s8 s9.toNat,(s6,())),())))).bind fun r34=>
     let x35:=IntKind.wrap .i64 (s9+(1:Int))
     back ((r33.2.1,(s4,((s5.1,(r34.1,s5.2.2)),(s6,(s7,(s8,(x35,()))))))))
     else none
    else
     let x36:=IntKind.wrap .i64 (s9+(1:Int))
     back ((r33.2.1,(s4,(s5,(s6,(s7,(s8,(x36,()))))))))
   else none
  else
   let x37:=IntKind.wrap .i64 (s9+(1:Int))
   back ((s0,(s4,(s5,(s6,(s7,(s8,(x37,()))))))))
  else none
 else
  some (.inl ((s0,(s4,(s5,(s6,()))))))
noncomputable def q42q_l2 (N:Nat):Nat->q42q_l2_H->Option q42q_l2_O
 | 0,_=>none
 | k+1,d=>q42q_l2_r N (q42q_l2 N k) d
abbrev q42q_l0_H:=(List Int×Int×Int×Unit)×(Int×(List (Int×Int×Unit))×Unit)×(Int×(List (Int×Int×Unit))×Unit)×Int×Unit
abbrev q42q_l0_O:=((List Int×Int×Int×Unit)×(Int×(List (Int×Int×Unit))×Unit)×(Int×(List (Int×Int×Unit))×Unit)×Unit)⊕Empty
def q42q_l0_h:Form:=[(0,.box K_PSu8iu64q 0),(4,.box K_PiSPiiqq 99),(5,.box K_PiSPiiqq 99),(6,.v I)]
def q42q_l0_o:Outs:=[(.normal,[(0,.box K_PSu8iu64q 0),(4,.box K_PiSPiiqq 99),(5,.box K_PiSPiiqq 99)])]
noncomputable def q42q_l0_r (N:Nat) (back:q42q_l0_H->Option q42q_l0_O) (d:q42q_l0_H):Option q42q_l0_O:=
 let s0:=d.1
 let s4:=d.2.1
 let s5:=d.2.2.1
 let s6:=d.2.2.2.1
 if (decide (s6<s5.1))=true then
  ((F_q37q 0) ((s0,(s6,())))).bind fun r19=>
  ((F_q86q 0) ((s5,(r19.1,())))).bind fun r20=>
  (q42q_l2 N N ((r19.2.1,(s4,(s5,(s6,(r19.1,(r20.1,((0:Int),()))))))))).bind fun o28=>match o28 with
  | .inl d29=>
   let x30:=IntKind.wrap .i64 (d29.2.2.2.1+(1:Int))
   back ((d29.1,(d29.2.1,(d29.2.2.1,(x30,())))))
 else
  some (.inl ((s0,(s4,(s5,())))))
noncomputable def q42q_l0 (N:Nat):Nat->q42q_l0_H->Option q42q_l0_O
 | 0,_=>none
 | k+1,d=>q42q_l0_r N (q42q_l0 N k) d
noncomputable def F_q42q (N:Nat) (d:(List Int×Int×Int×Unit)×Int×Unit):Option ((Int×(List (Int×Int×Unit))×Unit)×(List Int×Int×Int×Unit)×Unit):=
 let a0:=d.1
 let a1:=d.2.1
 ((F_q37q 0) ((a0,(a1,())))).bind fun r1=>
 let x2:=IntKind.wrap .i64 ((1:Int)+r1.1)
 (q42q_l0 N N ((r1.2.1,(((0:Int),(([]:List (Int×Int×Unit)),())),((x2,(([]:List (Int×Int×Unit)),())),((1:Int),())))))).bind fun o15=>match o15 with
 | .inl d16=>
  ((F_q50q 0) ((d16.1,((6:Int),())))).bind fun r17=>
  if (r17.1)=true then
   ((F_q15q 0) ((r17.2.1,(d16.2.2.1,())))).bind fun r18=>
   some ((r18.1,(r18.2.1,())))
  else
   some ((d16.2.2.1,(r17.2.1,())))
noncomputable def S_q42q:FSig:=⟨[(K_BPSu8iu64q,true),(I,false)],[K_PiSPiiqq],true,(pickF F_q42q P_someG)⟩
noncomputable def Γ_q76q:Ctx:={ tk:=assoc tks,ar:=assoc ars,fs:=assoc [] }
noncomputable def F_q76q (N:Nat) (d:Int×Int×Unit):Option (Int×Unit):=
 let a0:=d.1
 let a1:=d.2.1
 if (decide (a0<a1))=true then
  some (a0,())
 else
  some (a1,())
noncomputable def g_q76q (d:Int×Int×Unit):Int×Unit:=
 let a0:=d.1
 let a1:=d.2.1
 if (decide (a0<a1))=true then
  (a0,())
 else
  (a1,())
theorem F_q76q_tot (N:Nat) (d):F_q76q N d=some (g_q76q d):=by
 unfold F_q76q g_q76q
 first
  | rfl
  | (dsimp only; (repeat' split)<;>rfl)
noncomputable def S_q76q:FSig:=⟨[(I,false),(I,false)],[I],true,(fun d=>some (g_q76q d))⟩
noncomputable def Γ_q103q:Ctx:={ tk:=assoc tks,ar:=assoc ars,fs:=assoc [] }
abbrev q103q_l0_H:=Int×(Int×(List (Int×Int×Unit))×Unit)×(Int×(List (Int×Int×Unit))×Unit)×Int×Unit
abbrev q103q_l0_O:=((Int×(List (Int×Int×Unit))×Unit)×(Int×(List (Int×Int×Unit))×Unit)×Unit)⊕Empty
def q103q_l0_h:Form:=[(0,.v I),(2,.box K_PiSPiiqq 99),(3,.box K_PiSPiiqq 99),(4,.v I)]
def q103q_l0_o:Outs:=[(.normal,[(2,.box K_PiSPiiqq 99),(3,.box K_PiSPiiqq 99)])]
noncomputable def q103q_l0_r (N:Nat) (back:q103q_l0_H->Option q103q_l0_O) (d:q103q_l0_H):Option q103q_l0_O:=
 let s0:=d.1
 let s2:=d.2.1
 let s3:=d.2.2.1
 let s4:=d.2.2.2.1
 let x6:=IntKind.wrap .i64 (s4+(1:Int))
 if (decide (x6<s0))=true then
  let x7:=IntKind.wrap .i64 (s4+(1:Int))
  if (decide (List.length s3.2.1+List.length ([(s4,(x7,()))])<=lim))=true then
  let x8:=IntKind.wrap .i64 (s4+(1:Int))
  back ((s0,(s2,((s3.1,(s3.2.1++([(s4,(x7,()))]),s3.2.2)),(x8,())))))
  else none
 else
  some (.inl ((s2,(s3,()))))
noncomputable def q103q_l0 (N:Nat):Nat->q103q_l0_H->Option q103q_l0_O
 | 0,_=>none
 | k+1,d=>q103q_l0_r N (q103q_l0 N k) d
noncomputable def F_q103q (N:Nat) (d:Int×Unit):Option ((Int×(List (Int×Int×Unit))×Unit)×Unit):=
 let a0:=d.1
 (q103q_l0 N N ((a0,(((0:Int),(([]:List (Int×Int×Unit)),())),((a0,(([]:List (Int×Int×Unit)),())),((0:Int),())))))).bind fun o4=>match o4 with
 | .inl d5=>
  some (d5.2.1,())
noncomputable def S_q103q:FSig:=⟨[(I,false)],[K_PiSPiiqq],true,(pickF F_q103q P_path)⟩
noncomputable def Γ_q82q:Ctx:={ tk:=assoc tks,ar:=assoc ars,fs:=assoc [(134,S_spec_l2Put),(153,S_q103q)] }
noncomputable def F_q82q (N:Nat) (d:Int×Unit):Option ((Int×(List (Int×Int×Unit))×Unit)×Unit):=
 let a0:=d.1
 ((pickF F_q103q P_path) (a0,())).bind fun r1=>
 let x2:=IntKind.wrap .i64 (a0-(1:Int))
 (G_l2Put ((r1.1.2.1,(((0:Int),(x2,())),())))).bind fun r3=>
 some (((r1.1.1,(r3.1,r1.1.2.2)),()))
noncomputable def S_q82q:FSig:=⟨[(I,false)],[K_PiSPiiqq],true,(F_q82q 0)⟩
noncomputable def Γ_q36q:Ctx:={ tk:=assoc tks,ar:=assoc ars,fs:=assoc [] }
abbrev q36q_l2_H:=Int×(Int×(List (Int×Int×Unit))×Unit)×(Int×(List (Int×Int×Unit))×Unit)×Int×Int×Unit
abbrev q36q_l2_O:=(Int×(Int×(List (Int×Int×Unit))×Unit)×(Int×(List (Int×Int×Unit))×Unit)×Int×Unit)⊕Empty
def q36q_l2_h:Form:=[(0,.v I),(2,.box K_PiSPiiqq 99),(3,.box K_PiSPiiqq 99),(4,.v I),(5,.v I)]
def q36q_l2_o:Outs:=[(.normal,[(0,.v I),(2,.box K_PiSPiiqq 99),(3,.box K_PiSPiiqq 99),(4,.v I)])]
noncomputable def q36q_l2_r (N:Nat) (back:q36q_l2_H->Option q36q_l2_O) (d:q36q_l2_H):Option q36q_l2_O:=
 let s0:=d.1
 let s2:=d.2.1
 let s3:=d.2.2.1
 let s4:=d.2.2.2.1
 let s5:=d.2.2.2.2.1
 if (decide (s5<s0))=true then
  if (decide (List.length s3.2.1+List.length ([(s4,(s5,()))])<=lim))=true then
  let x13:=IntKind.wrap .i64 (s5+(1:Int))
  back ((s0,(s2,((s3.1,(s3.2.1++([(s4,(s5,()))]),s3.2.2)),(s4,(x13,()))))))
  else none
 else
  some (.inl ((s0,(s2,(s3,(s4,()))))))
noncomputable def q36q_l2 (N:Nat):Nat->q36q_l2_H->Option q36q_l2_O
 | 0,_=>none
 | k+1,d=>q36q_l2_r N (q36q_l2 N k) d
abbrev q36q_l0_H:=Int×(Int×(List (Int×Int×Unit))×Unit)×(Int×(List (Int×Int×Unit))×Unit)×Int×Unit
abbrev q36q_l0_O:=((Int×(List (Int×Int×Unit))×Unit)×(Int×(List (Int×Int×Unit))×Unit)×Unit)⊕Empty
def q36q_l0_h:Form:=[(0,.v I),(2,.box K_PiSPiiqq 99),(3,.box K_PiSPiiqq 99),(4,.v I)]
def q36q_l0_o:Outs:=[(.normal,[(2,.box K_PiSPiiqq 99),(3,.box K_PiSPiiqq 99)])]
noncomputable def q36q_l0_r (N:Nat) (back:q36q_l0_H->Option q36q_l0_O) (d:q36q_l0_H):Option q36q_l0_O:=
 let s0:=d.1
 let s2:=d.2.1
 let s3:=d.2.2.1
 let s4:=d.2.2.2.1
 if (decide (s4<s0))=true then
  let x8:=IntKind.wrap .i64 (s4+(1:Int))
  (q36q_l2 N N ((s0,(s2,(s3,(s4,(x8,()))))))).bind fun o10=>match o10 with
  | .inl d11=>
   let x12:=IntKind.wrap .i64 (d11.2.2.2.1+(1:Int))
   back ((d11.1,(d11.2.1,(d11.2.2.1,(x12,())))))
 else
  some (.inl ((s2,(s3,()))))
noncomputable def q36q_l0 (N:Nat):Nat->q36q_l0_H->Option q36q_l0_O
 | 0,_=>none
 | k+1,d=>q36q_l0_r N (q36q_l0 N k) d
noncomputable def F_q36q (N:Nat) (d:Int×Unit):Option ((Int×(List (Int×Int×Unit))×Unit)×Unit):=
 let a0:=d.1
 (q36q_l0 N N ((a0,(((0:Int),(([]:List (Int×Int×Unit)),())),((a0,(([]:List (Int×Int×Unit)),())),((0:Int),())))))).bind fun o6=>match o6 with
 | .inl d7=>
  some (d7.2.1,())
noncomputable def S_q36q:FSig:=⟨[(I,false)],[K_PiSPiiqq],true,(pickF F_q36q P_path)⟩
noncomputable def Γ_q87q:Ctx:={ tk:=assoc tks,ar:=assoc ars,fs:=assoc [] }
noncomputable def F_q87q (N:Nat) (d:Int×Int×Unit):Option (Int×Unit):=
 let a0:=d.1
 let a1:=d.2.1
 if (decide (a0>a1))=true then
  some (a0,())
 else
  some (a1,())
noncomputable def g_q87q (d:Int×Int×Unit):Int×Unit:=
 let a0:=d.1
 let a1:=d.2.1
 if (decide (a0>a1))=true then
  (a0,())
 else
  (a1,())
theorem F_q87q_tot (N:Nat) (d):F_q87q N d=some (g_q87q d):=by
 unfold F_q87q g_q87q
 first
  | rfl
  | (dsimp only; (repeat' split)<;>rfl)
noncomputable def S_q87q:FSig:=⟨[(I,false),(I,false)],[I],true,(fun d=>some (g_q87q d))⟩
noncomputable def Γ_q8q:Ctx:={ tk:=assoc tks,ar:=assoc ars,fs:=assoc [(62,S_q37q),(93,S_q50q),(98,S_q21q),(99,S_q87q),(100,S_q76q),(134,S_spec_l2Put),(153,S_q103q),(154,S_q82q),(155,S_q36q),(156,S_q100q)],lent:=fun t=>Nat.beq t 0,cs:=assoc [],gs:=assoc [(135,(S_q15q,{ gone:=[1],deep:=[] }))],eqt:=inL [],md:=md0 }
abbrev q8q_l3_H:=(List Int×Int×Int×Unit)×(Int×(List (Int×Int×Unit))×Unit)×Int×(Int×(List (Int×Int×Unit))×Unit)×Int×Bool×Int×Int×Unit
abbrev q8q_l3_O:=((List Int×Int×Int×Unit)×(Int×(List (Int×Int×Unit))×Unit)×Int×(Int×(List (Int×Int×Unit))×Unit)×Int×Bool×Int×Unit)⊕Empty
def q8q_l3_h:Form:=[(0,.box K_PSu8iu64q 0),(4,.box K_PiSPiiqq 99),(5,.v I),(6,.box K_PiSPiiqq 99),(7,.v I),(8,.v .bool),(9,.v I),(10,.v I)]
def q8q_l3_o:Outs:=[(.normal,[(0,.box K_PSu8iu64q 0),(4,.box K_PiSPiiqq 99),(5,.v I),(6,.box K_PiSPiiqq 99),(7,.v I),(8,.v .bool),(9,.v I)])]
noncomputable def q8q_l3_r (N:Nat) (back:q8q_l3_H->Option q8q_l3_O) (d:q8q_l3_H):Option q8q_l3_O:=
 let s0:=d.1
 let s4:=d.2.1
 let s5:=d.2.2.1
 let s6:=d.2.2.2.1
 let s7:=d.2.2.2.2.1
 let s8:=d.2.2.2.2.2.1
 let s9:=d.2.2.2.2.2.2.1
 let s10:=d.2.2.2.2.2.2.2.1
 if (decide (s10<s5))=true then
  ((F_q37q 0) ((s0,(s7,())))).bind fun r77=>
  if (r77.1==(0:Int))=true then
   (G_l2Put ((s6.2.1,((s9,(s10,())),())))).bind fun r78=>
   let x79:=IntKind.wrap .i64 (s10+(1:Int))
   back ((r77.2.1,(s4,(s5,((s6.1,(r78.1,s6.2.2)),(s7,(s8,(s9,(x79,())))))))))
  else
   let x80:=IntKind.wrap .i64 (s10+(1:Int))
   back ((r77.2.1,(s4,(s5,(s6,(s7,(s8,(s9,(x80,())))))))))
 else
  some (.inl ((s0,(s4,(s5,(s6,(s7,(s8,(s9,())))))))))
noncomputable def q8q_l3 (N:Nat):Nat->q8q_l3_H->Option q8q_l3_O
 | 0,_=>none
 | k+1,d=>q8q_l3_r N (q8q_l3 N k) d
abbrev q8q_l1_H:=(List Int×Int×Int×Unit)×(Int×(List (Int×Int×Unit))×Unit)×Int×(Int×(List (Int×Int×Unit))×Unit)×Int×Bool×Int×Unit
abbrev q8q_l1_O:=((List Int×Int×Int×Unit)×(Int×(List (Int×Int×Unit))×Unit)×(Int×(List (Int×Int×Unit))×Unit)×Unit)⊕Empty
def q8q_l1_h:Form:=[(0,.box K_PSu8iu64q 0),(4,.box K_PiSPiiqq 99),(5,.v I),(6,.box K_PiSPiiqq 99),(7,.v I),(8,.v .bool),(9,.v I)]
def q8q_l1_o:Outs:=[(.normal,[(0,.box K_PSu8iu64q 0),(4,.box K_PiSPiiqq 99),(6,.box K_PiSPiiqq 99)])]
noncomputable def q8q_l1_r (N:Nat) (back:q8q_l1_H->Option q8q_l1_O) (d:q8q_l1_H):Option q8q_l1_O:=
 let s0:=d.1
 let s4:=d.2.1
 let s5:=d.2.2.1
 let s6:=d.2.2.2.1
 let s7:=d.2.2.2.2.1
 let s8:=d.2.2.2.2.2.1
 let s9:=d.2.2.2.2.2.2.1
 if (decide (s9<s5))=true then
  let x62:=IntKind.wrap .i64 (s9+(1:Int))
  (q8q_l3 N N ((s0,(s4,(s5,(s6,(s7,(s8,(s9,(x62,())))))))))).bind fun o67=>match o67 with
  | .inl d68=>
   let r69:=g_q87q ((d68.2.2.2.2.2.2.1,((1:Int),())))
   ((F_q37q 0) ((d68.1,(r69.1,())))).bind fun r70=>
   if (decide (d68.2.2.2.2.2.2.1>(0:Int)))=true then
    if (!d68.2.2.2.2.2.1)=true then
     (G_l2Near ((d68.2.2.2.1,(d68.2.2.2.2.2.2.1,(r70.1,()))))).bind fun r71=>
     if (!r71.1)=true then
      (G_l2Put ((d68.2.2.2.1.2.1,((r70.1,(d68.2.2.2.2.2.2.1,())),())))).bind fun r72=>
      let x73:=IntKind.wrap .i64 (d68.2.2.2.2.2.2.1+(1:Int))
      back ((r70.2.1,(d68.2.1,(d68.2.2.1,((d68.2.2.2.1.1,(r72.1,d68.2.2.2.1.2.2)),(d68.2.2.2.2.1,(d68.2.2.2.2.2.1,(x73,()))))))))
     else
      let x74:=IntKind.wrap .i64 (d68.2.2.2.2.2.2.1+(1:Int))
      back ((r70.2.1,(d68.2.1,(d68.2.2.1,(d68.2.2.2.1,(d68.2.2.2.2.1,(d68.2.2.2.2.2.1,(x74,()))))))))
    else
     let x75:=IntKind.wrap .i64 (d68.2.2.2.2.2.2.1+(1:Int))
     back ((r70.2.1,(d68.2.1,(d68.2.2.1,(d68.2.2.2.1,(d68.2.2.2.2.1,(d68.2.2.2.2.2.1,(x75,()))))))))
   else
    let x76:=IntKind.wrap .i64 (d68.2.2.2.2.2.2.1+(1:Int))
    back ((r70.2.1,(d68.2.1,(d68.2.2.1,(d68.2.2.2.1,(d68.2.2.2.2.1,(d68.2.2.2.2.2.1,(x76,()))))))))
 else
  some (.inl ((s0,(s4,(s6,())))))
noncomputable def q8q_l1 (N:Nat):Nat->q8q_l1_H->Option q8q_l1_O
 | 0,_=>none
 | k+1,d=>q8q_l1_r N (q8q_l1 N k) d
noncomputable def F_q8q (N:Nat) (d:(List Int×Int×Int×Unit)×Int×Unit):Option ((Int×(List (Int×Int×Unit))×Unit)×(List Int×Int×Int×Unit)×Unit):=
 let a0:=d.1
 let a1:=d.2.1
 ((F_q21q 0) ((a0,([(4:Int),(5:Int),(3:Int),(6:Int),(2:Int),(1:Int),(0:Int)],())))).bind fun r1=>
 if (decide (a1>(6:Int)))=true then
  ((F_q50q 0) ((r1.2.1,((4:Int),())))).bind fun r2=>
  if (r2.1)=true then
   ((F_q37q 0) ((r2.2.1,((2:Int),())))).bind fun r3=>
   let x4:=IntKind.wrap .i64 ((7:Int)+r3.1)
   let r5:=g_q76q ((x4,(a1,())))
   ((F_q37q 0) ((r3.2.1,((8:Int),())))).bind fun r6=>
   if (r6.1==(0:Int))=true then
    ((pickF F_q103q P_path) (r5.1,())).bind fun r7=>
    ((F_q15q 0) ((r6.2.1,(r7.1,())))).bind fun r8=>
    some ((r8.1,(r8.2.1,())))
   else
    if (r6.1==(1:Int))=true then
     if (decide (r5.1>(2:Int)))=true then
      ((F_q82q 0) (r5.1,())).bind fun r9=>
      ((F_q15q 0) ((r6.2.1,(r9.1,())))).bind fun r10=>
      some ((r10.1,(r10.2.1,())))
     else
      ((F_q15q 0) ((r6.2.1,((r5.1,(([]:List (Int×Int×Unit)),())),())))).bind fun r11=>
      some ((r11.1,(r11.2.1,())))
    else
     if (r6.1==(2:Int))=true then
      ((pickF F_q36q P_path) (r5.1,())).bind fun r12=>
      ((F_q15q 0) ((r6.2.1,(r12.1,())))).bind fun r13=>
      some ((r13.1,(r13.2.1,())))
     else
      ((F_q21q 0) ((r6.2.1,([(3:Int),(4:Int),(6:Int)],())))).bind fun r14=>
      ((F_q50q 0) ((r14.2.1,((6:Int),())))).bind fun r15=>
      (q8q_l1 N N ((r15.2.1,(((0:Int),(([]:List (Int×Int×Unit)),())),(r5.1,((r5.1,(([]:List (Int×Int×Unit)),())),(r14.1,(r15.1,((0:Int),()))))))))).bind fun o31=>match o31 with
      | .inl d32=>
       ((F_q15q 0) ((d32.1,(d32.2.2.1,())))).bind fun r33=>
       some ((r33.1,(r33.2.1,())))
  else
   let r34:=g_q76q ((r1.1,(a1,())))
   ((F_q37q 0) ((r2.2.1,((8:Int),())))).bind fun r35=>
   if (r35.1==(0:Int))=true then
    ((pickF F_q103q P_path) (r34.1,())).bind fun r36=>
    ((F_q15q 0) ((r35.2.1,(r36.1,())))).bind fun r37=>
    some ((r37.1,(r37.2.1,())))
   else
    if (r35.1==(1:Int))=true then
     if (decide (r34.1>(2:Int)))=true then
      ((F_q82q 0) (r34.1,())).bind fun r38=>
      ((F_q15q 0) ((r35.2.1,(r38.1,())))).bind fun r39=>
      some ((r39.1,(r39.2.1,())))
     else
      ((F_q15q 0) ((r35.2.1,((r34.1,(([]:List (Int×Int×Unit)),())),())))).bind fun r40=>
      some ((r40.1,(r40.2.1,())))
    else
     if (r35.1==(2:Int))=true then
      ((pickF F_q36q P_path) (r34.1,())).bind fun r41=>
      ((F_q15q 0) ((r35.2.1,(r41.1,())))).bind fun r42=>
      some ((r42.1,(r42.2.1,())))
     else
      ((F_q21q 0) ((r35.2.1,([(3:Int),(4:Int),(6:Int)],())))).bind fun r43=>
      ((F_q50q 0) ((r43.2.1,((6:Int),())))).bind fun r44=>
      (q8q_l1 N N ((r44.2.1,(((0:Int),(([]:List (Int×Int×Unit)),())),(r34.1,((r34.1,(([]:List (Int×Int×Unit)),())),(r43.1,(r44.1,((0:Int),()))))))))).bind fun o45=>match o45 with
      | .inl d46=>
       ((F_q15q 0) ((d46.1,(d46.2.2.1,())))).bind fun r47=>
       some ((r47.1,(r47.2.1,())))
 else
  let r48:=g_q76q ((r1.1,(a1,())))
  ((F_q37q 0) ((r1.2.1,((8:Int),())))).bind fun r49=>
  if (r49.1==(0:Int))=true then
   ((pickF F_q103q P_path) (r48.1,())).bind fun r50=>
   ((F_q15q 0) ((r49.2.1,(r50.1,())))).bind fun r51=>
   some ((r51.1,(r51.2.1,())))
  else
   if (r49.1==(1:Int))=true then
    if (decide (r48.1>(2:Int)))=true then
     ((F_q82q 0) (r48.1,())).bind fun r52=>
     ((F_q15q 0) ((r49.2.1,(r52.1,())))).bind fun r53=>
     some ((r53.1,(r53.2.1,())))
    else
     ((F_q15q 0) ((r49.2.1,((r48.1,(([]:List (Int×Int×Unit)),())),())))).bind fun r54=>
     some ((r54.1,(r54.2.1,())))
   else
    if (r49.1==(2:Int))=true then
     ((pickF F_q36q P_path) (r48.1,())).bind fun r55=>
     ((F_q15q 0) ((r49.2.1,(r55.1,())))).bind fun r56=>
     some ((r56.1,(r56.2.1,())))
    else
     ((F_q21q 0) ((r49.2.1,([(3:Int),(4:Int),(6:Int)],())))).bind fun r57=>
     ((F_q50q 0) ((r57.2.1,((6:Int),())))).bind fun r58=>
     (q8q_l1 N N ((r58.2.1,(((0:Int),(([]:List (Int×Int×Unit)),())),(r48.1,((r48.1,(([]:List (Int×Int×Unit)),())),(r57.1,(r58.1,((0:Int),()))))))))).bind fun o59=>match o59 with
     | .inl d60=>
      ((F_q15q 0) ((d60.1,(d60.2.2.1,())))).bind fun r61=>
      some ((r61.1,(r61.2.1,())))
noncomputable def S_q8q:FSig:=⟨[(K_BPSu8iu64q,true),(I,false)],[K_PiSPiiqq],true,(pickF F_q8q P_someG)⟩
noncomputable def Γ_q27q:Ctx:={ tk:=assoc tks,ar:=assoc ars,fs:=assoc [(136,S_q8q)],lent:=fun t=>Nat.beq t 0 }
noncomputable def F_q27q (N:Nat) (d:(List Int×Int×Int×Unit)×Unit):Option ((Int×(List (Int×Int×Unit))×Unit)×(List Int×Int×Int×Unit)×Unit):=
 let a0:=d.1
 ((pickF F_q8q P_someG) ((a0,((6:Int),())))).bind fun r1=>
 some ((r1.1,(r1.2.1,())))
noncomputable def S_q27q:FSig:=⟨[(K_BPSu8iu64q,true)],[K_PiSPiiqq],true,(F_q27q 0)⟩
noncomputable def Γ_q17q:Ctx:={ tk:=assoc tks,ar:=assoc ars,fs:=assoc [(93,S_q50q),(94,S_q42q),(95,S_q27q)],lent:=fun t=>Nat.beq t 0 }
noncomputable def F_q17q (N:Nat) (d:(List Int×Int×Int×Unit)×Unit):Option ((Int×(List (Int×Int×Unit))×Unit)×(List Int×Int×Int×Unit)×Unit):=
 let a0:=d.1
 ((F_q50q 0) ((a0,((2:Int),())))).bind fun r1=>
 if (r1.1)=true then
  ((pickF F_q42q P_someG) ((r1.2.1,((6:Int),())))).bind fun r2=>
  some ((r2.1,(r2.2.1,())))
 else
  ((F_q27q 0) (r1.2.1,())).bind fun r3=>
  some ((r3.1,(r3.2.1,())))
noncomputable def S_q17q:FSig:=⟨[(K_BPSu8iu64q,true)],[K_PiSPiiqq],true,(F_q17q 0)⟩
noncomputable def Γ_q9q:Ctx:={ tk:=assoc tks,ar:=assoc ars,fs:=assoc [(57,S_q17q)] }
noncomputable def F_q9q (N:Nat) (d:List Int×Unit):Option ((Int×(List (Int×Int×Unit))×Unit)×Unit):=
 let a0:=d.1
 ((F_q17q 0) (((a0,((0:Int),((0:Int),()))),()))).bind fun r1=>
 some (r1.1,())
noncomputable def S_q9q:FSig:=⟨[(K_Su8,false)],[K_PiSPiiqq],true,(F_q9q 0)⟩
noncomputable def Γ_q92q:Ctx:={ tk:=assoc tks,ar:=assoc ars,fs:=assoc [] }
noncomputable def F_q92q (N:Nat) (d:Int×Int×Int×Unit):Option (Bool×Unit):=
 let a0:=d.1
 let a1:=d.2.1
 let a2:=d.2.2.1
 if (decide (a0>=a1))=true then
  some (decide (a0<=a2),())
 else
  some (false,())
noncomputable def g_q92q (d:Int×Int×Int×Unit):Bool×Unit:=
 let a0:=d.1
 let a1:=d.2.1
 let a2:=d.2.2.1
 if (decide (a0>=a1))=true then
  (decide (a0<=a2),())
 else
  (false,())
theorem F_q92q_tot (N:Nat) (d):F_q92q N d=some (g_q92q d):=by
 unfold F_q92q g_q92q
 first
  | rfl
  | (dsimp only; (repeat' split)<;>rfl)
noncomputable def S_q92q:FSig:=⟨[(I,false),(I,false),(I,false)],[.bool],true,(fun d=>some (g_q92q d))⟩
noncomputable def Γ_q59q:Ctx:={ tk:=assoc tks,ar:=assoc ars,fs:=assoc [] }
noncomputable def F_q59q (N:Nat) (d:Int×Unit):Option (Bool×Unit):=
 let a0:=d.1
 some (a0 != a0,())
noncomputable def g_q59q (d:Int×Unit):Bool×Unit:=
 let a0:=d.1
 (a0 != a0,())
theorem F_q59q_tot (N:Nat) (d):F_q59q N d=some (g_q59q d):=by
 unfold F_q59q g_q59q
 first
  | rfl
  | (dsimp only; (repeat' split)<;>rfl)
noncomputable def S_q59q:FSig:=⟨[(I,false)],[.bool],true,(fun d=>some (g_q59q d))⟩
noncomputable def Γ_q41q:Ctx:={ tk:=assoc tks,ar:=assoc ars,fs:=assoc [(157,S_q59q)] }
noncomputable def F_q41q (N:Nat) (d:Int×Int×Unit):Option (Int×Unit):=
 let a0:=d.1
 let a1:=d.2.1
 let r1:=g_q59q (a0,())
 let r2:=g_q59q (a1,())
 if (r1.1)=true then
  if (r2.1)=true then
   some ((0:Int),())
  else
   some ((-1:Int),())
 else
  if (r2.1)=true then
   some ((1:Int),())
  else
   if (decide (a0<a1))=true then
    some ((-1:Int),())
   else
    if (decide (a0>a1))=true then
     some ((1:Int),())
    else
     some ((0:Int),())
noncomputable def g_q41q (d:Int×Int×Unit):Int×Unit:=
 let a0:=d.1
 let a1:=d.2.1
 let r1:=g_q59q (a0,())
 let r2:=g_q59q (a1,())
 if (r1.1)=true then
  if (r2.1)=true then
   ((0:Int),())
  else
   ((-1:Int),())
 else
  if (r2.1)=true then
   ((1:Int),())
  else
   if (decide (a0<a1))=true then
    ((-1:Int),())
   else
    if (decide (a0>a1))=true then
     ((1:Int),())
    else
     ((0:Int),())
theorem F_q41q_tot (N:Nat) (d):F_q41q N d=some (g_q41q d):=by
 unfold F_q41q g_q41q
 first
  | rfl
  | (dsimp only; (repeat' split)<;>rfl)
noncomputable def S_q41q:FSig:=⟨[(I,false),(I,false)],[I],true,(fun d=>some (g_q41q d))⟩
noncomputable def Γ_q5q:Ctx:={ tk:=assoc tks,ar:=assoc ars,fs:=assoc [(137,S_q41q)] }
abbrev q5q_l0_H:=List Int×List Int×List Int×Int×Int×Unit
abbrev q5q_l0_O:=(Int×Unit)⊕(List Int×List Int×Unit)⊕Empty
def q5q_l0_h:Form:=[(0,.v K_Si),(1,.v K_Si),(9,.v K_Si),(10,.v I),(11,.v I)]
def q5q_l0_o:Outs:=[(.ret,[(4,.v I)]),(.normal,[(0,.v K_Si),(1,.v K_Si)])]
noncomputable def q5q_l0_r (N:Nat) (back:q5q_l0_H->Option q5q_l0_O) (d:q5q_l0_H):Option q5q_l0_O:=
 let s0:=d.1
 let s1:=d.2.1
 let s9:=d.2.2.1
 let s10:=d.2.2.2.1
 let s11:=d.2.2.2.2.1
 if (decide (s11<s10))=true then
  if (idxIn s11 (List.length s9))=true then
  if (decide (s11>=(List.length s1:Int)))=true then
   some (.inl ((1:Int),()))
  else
   if (idxIn s11 (List.length s1))=true then
   let r6:=g_q41q ((at_ I s9 s11.toNat,(at_ I s1 s11.toNat,())))
   if (r6.1 != (0:Int))=true then
    some (.inl (r6.1,()))
   else
    let x7:=IntKind.wrap .i64 (s11+(1:Int))
    back ((s0,(s1,(s9,(s10,(x7,()))))))
   else none
  else none
 else
  some (.inr (.inl ((s0,(s1,())))))
noncomputable def q5q_l0 (N:Nat):Nat->q5q_l0_H->Option q5q_l0_O
 | 0,_=>none
 | k+1,d=>q5q_l0_r N (q5q_l0 N k) d
noncomputable def F_q5q (N:Nat) (d:List Int×List Int×Unit):Option (Int×Unit):=
 let a0:=d.1
 let a1:=d.2.1
 (q5q_l0 N N ((a0,(a1,(a0,((List.length a0:Int),((0:Int),()))))))).bind fun o3=>match o3 with
 | .inl d4=>
  some (d4.1,())
 | .inr (.inl d5)=>
  if (decide ((List.length d5.1:Int)<(List.length d5.2.1:Int)))=true then
   some ((-1:Int),())
  else
   some ((0:Int),())
noncomputable def S_q5q:FSig:=⟨[(K_Si,false),(K_Si,false)],[I],true,(G_compare)⟩
noncomputable def Γ_q71q:Ctx:={ tk:=assoc tks,ar:=assoc ars,fs:=assoc [(64,S_q92q),(96,S_q5q)] }
abbrev q71q_l0_H:=(Int×(List (Int×Int×Unit))×Unit)×(List (Int×Int×Unit))×Int×Int×Unit
abbrev q71q_l0_O:=(Bool×Unit)⊕Unit⊕Empty
def q71q_l0_h:Form:=[(1,.box K_PiSPiiqq 0),(10,.v K_SPiiq),(11,.v I),(12,.v I)]
def q71q_l0_o:Outs:=[(.ret,[(2,.v .bool)]),(.normal,[])]
noncomputable def q71q_l0_r (N:Nat) (back:q71q_l0_H->Option q71q_l0_O) (d:q71q_l0_H):Option q71q_l0_O:=
 let s1:=d.1
 let s10:=d.2.1
 let s11:=d.2.2.1
 let s12:=d.2.2.2.1
 if (decide (s12<s11))=true then
  if (idxIn s12 (List.length s10))=true then
  if (decide ((at_ K_Piiq s10 s12.toNat).1<(0:Int)))=true then
   some (.inl (false,()))
  else
   if (decide ((at_ K_Piiq s10 s12.toNat).1>=(at_ K_Piiq s10 s12.toNat).2.1))=true then
    some (.inl (false,()))
   else
    if (decide ((at_ K_Piiq s10 s12.toNat).2.1>=s1.1))=true then
     some (.inl (false,()))
    else
     if (decide (s12>(0:Int)))=true then
      let x9:=IntKind.wrap .i64 (s12-(1:Int))
      if (idxIn x9 (List.length s1.2.1))=true then
      (G_compare (([(at_ K_Piiq s1.2.1 x9.toNat).1,(at_ K_Piiq s1.2.1 x9.toNat).2.1],([(at_ K_Piiq s10 s12.toNat).1,(at_ K_Piiq s10 s12.toNat).2.1],())))).bind fun r10=>
      if (decide (r10.1>=(0:Int)))=true then
       some (.inl (false,()))
      else
       let x11:=IntKind.wrap .i64 (s12+(1:Int))
       back ((s1,(s10,(s11,(x11,())))))
      else none
     else
      let x12:=IntKind.wrap .i64 (s12+(1:Int))
      back ((s1,(s10,(s11,(x12,())))))
  else none
 else
  some (.inr (.inl ()))
noncomputable def q71q_l0 (N:Nat):Nat->q71q_l0_H->Option q71q_l0_O
 | 0,_=>none
 | k+1,d=>q71q_l0_r N (q71q_l0 N k) d
noncomputable def F_q71q (N:Nat) (d:(Int×(List (Int×Int×Unit))×Unit)×Unit):Option (Bool×Unit):=
 let a0:=d.1
 let r1:=g_q92q ((a0.1,((0:Int),((8:Int),()))))
 if (!r1.1)=true then
  some (false,())
 else
  (q71q_l0 N N ((a0,(a0.2.1,((List.length a0.2.1:Int),((0:Int),())))))).bind fun o6=>match o6 with
  | .inl d7=>
   some (d7.1,())
  | .inr (.inl d8)=>
   some (true,())
noncomputable def S_q71q:FSig:=⟨[(K_PiSPiiqq,false)],[.bool],true,(G_graph)⟩
noncomputable def Γ_q4q:Ctx:={ tk:=assoc tks,ar:=assoc ars,fs:=assoc [] }
noncomputable def F_q4q (N:Nat) (d:(List (Int×Int×Unit))×Unit):Option ((List (Int×Int×Unit))×Unit):=
 let a0:=d.1
 if (decide (List.length a0=0))=true then
  both (
    some ((([]:List (Int×Int×Unit)),()))) (
    if (decide (List.length ([]:List (Int×Int×Unit))+List.length a0<=lim))=true then
    let x1:=([]:List (Int×Int×Unit))++a0
    some (x1,())
    else none)
 else
  if (decide (List.length ([]:List (Int×Int×Unit))+List.length a0<=lim))=true then
  let x2:=([]:List (Int×Int×Unit))++a0
  some (x2,())
  else none
noncomputable def S_q4q:FSig:=⟨[(K_SPiiq,false)],[K_SPiiq],true,(G_toIntA2S)⟩
noncomputable def Γ_q20q:Ctx:={ tk:=assoc tks,ar:=assoc ars,fs:=assoc [(58,S_q71q),(59,S_q4q)] }
noncomputable def F_q20q (N:Nat) (d:(Int×(List (Int×Int×Unit))×Unit)×Unit):Option (((Int×(List (Int×Int×Unit))×Unit)×Int×Int×List Int×Int×Unit)×Bool×Unit):=
 let a0:=d.1
 (G_graph (a0,())).bind fun r1=>
 if (!r1.1)=true then
  some (((((0:Int),(([]:List (Int×Int×Unit)),())),((0:Int),((0:Int),(([]:List Int),((0:Int),()))))),(false,())))
 else
  (G_toIntA2S (a0.2.1,())).bind fun r2=>
  some ((((a0.1,(r2.1,())),((-1:Int),((-1:Int),(([]:List Int),((0:Int),()))))),(true,())))
noncomputable def S_q20q:FSig:=⟨[(K_PiSPiiqq,false)],[K_PPiSPiiqqiiSiiq,.bool],true,(F_q20q 0)⟩
noncomputable def Γ_spec_l1In:Ctx:={ tk:=assoc tks,ar:=assoc ars,fs:=assoc [] }
noncomputable def F_spec_l1In (N:Nat) (d:Int×Int×Int×Unit):Option (Bool×Unit):=
 let a0:=d.1
 let a1:=d.2.1
 let a2:=d.2.2.1
 if (decide (a0>=a1))=true then
  some (decide (a0<=a2),())
 else
  some (false,())
noncomputable def g_spec_l1In (d:Int×Int×Int×Unit):Bool×Unit:=
 let a0:=d.1
 let a1:=d.2.1
 let a2:=d.2.2.1
 if (decide (a0>=a1))=true then
  (decide (a0<=a2),())
 else
  (false,())
theorem F_spec_l1In_tot (N:Nat) (d):F_spec_l1In N d=some (g_spec_l1In d):=by
 unfold F_spec_l1In g_spec_l1In
 first
  | rfl
  | (dsimp only; (repeat' split)<;>rfl)
noncomputable def S_spec_l1In:FSig:=⟨[(I,false),(I,false),(I,false)],[.bool],true,(fun d=>some (g_spec_l1In d))⟩
noncomputable def Γ_q94q:Ctx:={ tk:=assoc tks,ar:=assoc ars,fs:=assoc [(78,S_spec_l1In),(111,S_q53q)] }
abbrev q94q_l0_H:=(Int×(List (Int×Int×Unit))×Unit)×Int×Unit
abbrev q94q_l0_O:=(Bool×Unit)⊕((Int×(List (Int×Int×Unit))×Unit)×Unit)⊕Empty
def q94q_l0_h:Form:=[(1,.box K_PiSPiiqq 0),(3,.v I)]
def q94q_l0_o:Outs:=[(.ret,[(2,.v .bool)]),(.normal,[(1,.box K_PiSPiiqq 0)])]
noncomputable def q94q_l0_r (N:Nat) (back:q94q_l0_H->Option q94q_l0_O) (d:q94q_l0_H):Option q94q_l0_O:=
 let s1:=d.1
 let s3:=d.2.1
 if (decide (s3<(List.length s1.2.1:Int)))=true then
  if (idxIn s3 (List.length s1.2.1))=true then
  let x13:=IntKind.wrap .i64 (s1.1-(1:Int))
  let r14:=g_spec_l1In (((at_ K_Piiq s1.2.1 s3.toNat).1,((0:Int),(x13,()))))
  if (!r14.1)=true then
   some (.inl (false,()))
  else
   let x15:=IntKind.wrap .i64 (s1.1-(1:Int))
   let r16:=g_spec_l1In (((at_ K_Piiq s1.2.1 s3.toNat).2.1,((0:Int),(x15,()))))
   if (!r16.1)=true then
    some (.inl (false,()))
   else
    if (decide ((at_ K_Piiq s1.2.1 s3.toNat).1>=(at_ K_Piiq s1.2.1 s3.toNat).2.1))=true then
     some (.inl (false,()))
    else
     if (decide (s3>(0:Int)))=true then
      let x17:=IntKind.wrap .i64 (s3-(1:Int))
      if (idxIn x17 (List.length s1.2.1))=true then
      let r18:=g_q53q ((at_ K_Piiq s1.2.1 x17.toNat,(at_ K_Piiq s1.2.1 s3.toNat,())))
      if (!r18.1)=true then
       some (.inl (false,()))
      else
       let x19:=IntKind.wrap .i64 (s3+(1:Int))
       back ((s1,(x19,())))
      else none
     else
      let x20:=IntKind.wrap .i64 (s3+(1:Int))
      back ((s1,(x20,())))
  else none
 else
  some (.inr (.inl (s1,())))
noncomputable def q94q_l0 (N:Nat):Nat->q94q_l0_H->Option q94q_l0_O
 | 0,_=>none
 | k+1,d=>q94q_l0_r N (q94q_l0 N k) d
noncomputable def F_q94q (N:Nat) (d:(Int×(List (Int×Int×Unit))×Unit)×Unit):Option (Bool×Unit):=
 let a0:=d.1
 (q94q_l0 N N ((a0,((0:Int),())))).bind fun o9=>match o9 with
 | .inl d10=>
  some (d10.1,())
 | .inr (.inl d11)=>
  let r12:=g_spec_l1In ((d11.1.1,((0:Int),((8:Int),()))))
  some (r12.1,())
noncomputable def S_q94q:FSig:=⟨[(K_PiSPiiqq,false)],[.bool],true,(G_graph)⟩
noncomputable def Γ_q80q:Ctx:={ tk:=assoc tks,ar:=assoc ars,fs:=assoc [(78,S_spec_l1In)] }
noncomputable def F_q80q (N:Nat) (d:(Int×(List (Int×Int×Unit))×Unit)×Int×Unit):Option (Bool×Unit):=
 let a0:=d.1
 let a1:=d.2.1
 let x1:=IntKind.wrap .i64 (a0.1-(1:Int))
 let r2:=g_spec_l1In ((a1,((-1:Int),(x1,()))))
 some (r2.1,())
noncomputable def g_q80q (d:(Int×(List (Int×Int×Unit))×Unit)×Int×Unit):Bool×Unit:=
 let a0:=d.1
 let a1:=d.2.1
 let x1:=IntKind.wrap .i64 (a0.1-(1:Int))
 let r2:=g_spec_l1In ((a1,((-1:Int),(x1,()))))
 (r2.1,())
theorem F_q80q_tot (N:Nat) (d):F_q80q N d=some (g_q80q d):=by
 unfold F_q80q g_q80q
 first
  | rfl
  | (dsimp only; (repeat' split)<;>rfl)
noncomputable def S_q80q:FSig:=⟨[(K_PiSPiiqq,false),(I,false)],[.bool],true,(fun d=>some (g_q80q d))⟩
noncomputable def Γ_q58q:Ctx:={ tk:=assoc tks,ar:=assoc ars,fs:=assoc [(78,S_spec_l1In)] }
abbrev q58q_l0_H:=List Int×Int×Int×Int×Unit
abbrev q58q_l0_O:=(Bool×Unit)⊕Unit⊕Empty
def q58q_l0_h:Form:=[(0,.v K_Si),(1,.v I),(2,.v I),(7,.v I)]
def q58q_l0_o:Outs:=[(.ret,[(6,.v .bool)]),(.normal,[])]
noncomputable def q58q_l0_r (N:Nat) (back:q58q_l0_H->Option q58q_l0_O) (d:q58q_l0_H):Option q58q_l0_O:=
 let s0:=d.1
 let s1:=d.2.1
 let s2:=d.2.2.1
 let s7:=d.2.2.2.1
 if (decide (s7<(List.length s0:Int)))=true then
  if (idxIn s7 (List.length s0))=true then
  let r8:=g_spec_l1In ((at_ I s0 s7.toNat,(s1,(s2,()))))
  if (!r8.1)=true then
   some (.inl (false,()))
  else
   if (decide (s7>(0:Int)))=true then
    let x9:=IntKind.wrap .i64 (s7-(1:Int))
    if (idxIn x9 (List.length s0))=true then
    if (idxIn s7 (List.length s0))=true then
    if (decide (at_ I s0 x9.toNat>=at_ I s0 s7.toNat))=true then
     some (.inl (false,()))
    else
     let x10:=IntKind.wrap .i64 (s7+(1:Int))
     back ((s0,(s1,(s2,(x10,())))))
    else none
    else none
   else
    let x11:=IntKind.wrap .i64 (s7+(1:Int))
    back ((s0,(s1,(s2,(x11,())))))
  else none
 else
  some (.inr (.inl ()))
noncomputable def q58q_l0 (N:Nat):Nat->q58q_l0_H->Option q58q_l0_O
 | 0,_=>none
 | k+1,d=>q58q_l0_r N (q58q_l0 N k) d
noncomputable def F_q58q (N:Nat) (d:List Int×Int×Int×Unit):Option (Bool×Unit):=
 let a0:=d.1
 let a1:=d.2.1
 let a2:=d.2.2.1
 (q58q_l0 N N ((a0,(a1,(a2,((0:Int),())))))).bind fun o5=>match o5 with
 | .inl d6=>
  some (d6.1,())
 | .inr (.inl d7)=>
  some (true,())
noncomputable def S_q58q:FSig:=⟨[(K_Si,false),(I,false),(I,false)],[.bool],true,(G_l1Rising)⟩
noncomputable def Γ_spec_l2Set:Ctx:={ tk:=assoc tks,ar:=assoc ars,fs:=assoc [(112,S_q58q)] }
noncomputable def F_spec_l2Set (N:Nat) (d:(Int×(List (Int×Int×Unit))×Unit)×List Int×Unit):Option (Bool×Unit):=
 let a0:=d.1
 let a1:=d.2.1
 let x1:=IntKind.wrap .i64 (a0.1-(1:Int))
 (G_l1Rising ((a1,((0:Int),(x1,()))))).bind fun r2=>
 some (r2.1,())
noncomputable def S_spec_l2Set:FSig:=⟨[(K_PiSPiiqq,false),(K_Si,false)],[.bool],true,(F_spec_l2Set 0)⟩
noncomputable def Γ_q75q:Ctx:={ tk:=assoc tks,ar:=assoc ars,fs:=assoc [(75,S_q94q),(76,S_q80q),(77,S_spec_l2Set),(78,S_spec_l1In)] }
noncomputable def F_q75q (N:Nat) (d:((Int×(List (Int×Int×Unit))×Unit)×Int×Int×List Int×Int×Unit)×Unit):Option (Bool×Unit):=
 let a0:=d.1
 (G_graph (a0.1,())).bind fun r1=>
 if (r1.1)=true then
  let r2:=g_q80q ((a0.1,(a0.2.1,())))
  if (r2.1)=true then
   let r3:=g_q80q ((a0.1,(a0.2.2.1,())))
   if (r3.1)=true then
    ((F_spec_l2Set 0) ((a0.1,(a0.2.2.2.1,())))).bind fun r4=>
    if (r4.1)=true then
     let r5:=g_spec_l1In ((a0.2.2.2.2.1,((0:Int),((1000:Int),()))))
     some (r5.1,())
    else
     some (false,())
   else
    some (false,())
  else
   some (false,())
 else
  some (false,())
noncomputable def S_q75q:FSig:=⟨[(K_PPiSPiiqqiiSiiq,false)],[.bool],true,(F_q75q 0)⟩
noncomputable def Γ_spec_l1Own:Ctx:={ tk:=assoc tks,ar:=assoc ars,fs:=assoc [] }
noncomputable def F_spec_l1Own (N:Nat) (d:List Int×Unit):Option (List Int×Unit):=
 let a0:=d.1
 if (decide (List.length ([]:List Int)+List.length a0<=lim))=true then
 some (([]:List Int)++a0,())
 else none
noncomputable def S_spec_l1Own:FSig:=⟨[(K_Si,false)],[K_Si],true,(F_spec_l1Own 0)⟩
noncomputable def Γ_q88q:Ctx:={ tk:=assoc tks,ar:=assoc ars,fs:=assoc [(91,S_spec_l1Own)] }
noncomputable def F_q88q (N:Nat) (d:((Int×(List (Int×Int×Unit))×Unit)×Int×Int×List Int×Int×Unit)×Unit):Option (((Int×(List (Int×Int×Unit))×Unit)×Int×Int×List Int×Int×Unit)×Unit):=
 let a0:=d.1
 if (decide (List.length ([]:List (Int×Int×Unit))+List.length a0.1.2.1<=lim))=true then
 let x1:=([]:List (Int×Int×Unit))++a0.1.2.1
 ((F_spec_l1Own 0) (a0.2.2.2.1,())).bind fun r2=>
 some ((((a0.1.1,(x1,())),(a0.2.1,(a0.2.2.1,(r2.1,(a0.2.2.2.2.1,()))))),()))
 else none
noncomputable def S_q88q:FSig:=⟨[(K_PPiSPiiqqiiSiiq,false)],[K_PPiSPiiqqiiSiiq],true,(F_q88q 0)⟩
noncomputable def Γ_q26q:Ctx:={ tk:=assoc tks,ar:=assoc ars,fs:=assoc [(44,S_q75q),(55,S_q88q)] }
noncomputable def F_q26q (N:Nat) (d:(Int×(List (Int×Int×Unit))×Unit)×Unit):Option (((Int×(List (Int×Int×Unit))×Unit)×Int×Int×List Int×Int×Unit)×Bool×Unit):=
 let a0:=d.1
 ((F_q75q 0) (((a0,((-1:Int),((-1:Int),(([]:List Int),((0:Int),()))))),()))).bind fun r1=>
 if (!r1.1)=true then
  some (((((0:Int),(([]:List (Int×Int×Unit)),())),((0:Int),((0:Int),(([]:List Int),((0:Int),()))))),(false,())))
 else
  ((F_q88q 0) (((a0,((-1:Int),((-1:Int),(([]:List Int),((0:Int),()))))),()))).bind fun r2=>
  some ((r2.1,(true,())))
noncomputable def S_q26q:FSig:=⟨[(K_PiSPiiqq,false)],[K_PPiSPiiqqiiSiiq,.bool],true,(F_q26q 0)⟩
noncomputable def Γ_laws_vCut:Ctx:={ tk:=assoc tks,ar:=assoc ars,fs:=assoc [] }
noncomputable def F_laws_vCut (N:Nat) (d:List Int×Int×Unit):Option (List Int×Unit):=
 let a0:=d.1
 let a1:=d.2.1
 if (decide (a1>(List.length a0:Int)))=true then
  if ((decide (0<=(List.length a0:Int))&&decide ((List.length a0:Int)<=(List.length a0:Int))&&decide ((List.length a0:Int)<=(List.length a0:Int))))=true then
  let x1:=sub_ a0 (List.length a0:Int) (List.length a0:Int)
  if (decide (List.length ([]:List Int)+List.length x1<=lim))=true then
  let x2:=IntKind.wrap .u8 (List.length a0:Int)
  if (decide (List.length (([]:List Int)++x1)+List.length ([x2])<=lim))=true then
  let x3:=(([]:List Int)++x1)++([x2])
  some (x3,())
  else none
  else none
  else none
 else
  if ((decide (0<=a1)&&decide (a1<=(List.length a0:Int))&&decide ((List.length a0:Int)<=(List.length a0:Int))))=true then
  let x4:=sub_ a0 a1 (List.length a0:Int)
  if (decide (List.length ([]:List Int)+List.length x4<=lim))=true then
  if (decide (List.length (([]:List Int)++x4)+List.length ([IntKind.wrap .u8 a1])<=lim))=true then
  let x5:=(([]:List Int)++x4)++([IntKind.wrap .u8 a1])
  some (x5,())
  else none
  else none
  else none
noncomputable def S_laws_vCut:FSig:=⟨[(K_Su8,false),(I,false)],[K_Su8],true,(F_laws_vCut 0)⟩
noncomputable def Γ_q95q:Ctx:={ tk:=assoc tks,ar:=assoc ars,fs:=assoc [] }
abbrev q95q_l0_H:=Int×Int×List Int×Int×Unit
abbrev q95q_l0_O:=(List Int×Unit)⊕Empty
def q95q_l0_h:Form:=[(0,.v I),(1,.v I),(5,.own K_Si 99),(6,.v I)]
def q95q_l0_o:Outs:=[(.normal,[(5,.own K_Si 99)])]
noncomputable def q95q_l0_r (N:Nat) (back:q95q_l0_H->Option q95q_l0_O) (d:q95q_l0_H):Option q95q_l0_O:=
 let s0:=d.1
 let s1:=d.2.1
 let s5:=d.2.2.1
 let s6:=d.2.2.2.1
 if (decide (s6<s0))=true then
  if (decide (0<=s6))=true then
  let x6:=bits .and .i64 (shr .i64 s1 s6) (1:Int)
  if (x6==(1:Int))=true then
   if (decide (List.length s5+List.length ([s6])<=lim))=true then
   let x7:=IntKind.wrap .i64 (s6+(1:Int))
   back ((s0,(s1,(s5++([s6]),(x7,())))))
   else none
  else
   let x8:=IntKind.wrap .i64 (s6+(1:Int))
   back ((s0,(s1,(s5,(x8,())))))
  else none
 else
  some (.inl (s5,()))
noncomputable def q95q_l0 (N:Nat):Nat->q95q_l0_H->Option q95q_l0_O
 | 0,_=>none
 | k+1,d=>q95q_l0_r N (q95q_l0 N k) d
noncomputable def F_q95q (N:Nat) (d:Int×Int×Unit):Option (List Int×Unit):=
 let a0:=d.1
 let a1:=d.2.1
 (q95q_l0 N N ((a0,(a1,(([]:List Int),((0:Int),())))))).bind fun o4=>match o4 with
 | .inl d5=>
  some (d5.1,())
noncomputable def S_q95q:FSig:=⟨[(I,false),(I,false)],[K_Si],true,(G_l2Bits)⟩
noncomputable def Γ_q16q:Ctx:={ tk:=assoc tks,ar:=assoc ars,fs:=assoc [(62,S_q37q),(98,S_q21q),(99,S_q87q),(100,S_q76q)],lent:=fun t=>Nat.beq t 0 }
noncomputable def F_q16q (N:Nat) (d:(List Int×Int×Int×Unit)×(Int×(List (Int×Int×Unit))×Unit)×Unit):Option ((Int×Int×Int×Unit)×(List Int×Int×Int×Unit)×Unit):=
 let a0:=d.1
 let a1:=d.2.1
 let r1:=g_q76q ((a1.1,((8:Int),())))
 let r2:=g_q87q (((1:Int),(r1.1,())))
 ((F_q21q 0) ((a0,([(1:Int),(2:Int),(3:Int),(3:Int),(4:Int),(5:Int),(6:Int),(6:Int),(7:Int),(7:Int),(8:Int),(8:Int),(9:Int),(10:Int)],())))).bind fun r3=>
 if (r3.1 != (1:Int))=true then
  if (r3.1 != (7:Int))=true then
   if (decide (r3.1<(9:Int)))=true then
    ((F_q37q 0) ((r3.2.1,(r2.1,())))).bind fun r4=>
    if (r3.1==(3:Int))=true then
     ((F_q37q 0) ((r4.2.1,(r2.1,())))).bind fun r5=>
     ((F_q37q 0) ((r5.2.1,((32:Int),())))).bind fun r6=>
     if (r6.1==(0:Int))=true then
      ((F_q21q 0) ((r6.2.1,([(-1:Int),(8:Int),(4611686018427387904:Int)],())))).bind fun r7=>
      some (((r3.1,(r7.1,(r5.1,()))),(r7.2.1,())))
     else
      if (r6.1==(1:Int))=true then
       ((F_q21q 0) ((r6.2.1,([(-1:Int),(1:Int),(8:Int)],())))).bind fun r8=>
       some (((r3.1,(r4.1,(r8.1,()))),(r8.2.1,())))
      else
       if (r6.1==(2:Int))=true then
        ((F_q21q 0) ((r6.2.1,([(0:Int),(11:Int),(-1:Int)],())))).bind fun r9=>
        some (((r9.1,(r4.1,(r5.1,()))),(r9.2.1,())))
       else
        some (((r3.1,(r4.1,(r5.1,()))),(r6.2.1,())))
    else
     if (r3.1==(6:Int))=true then
      ((F_q37q 0) ((r4.2.1,(r2.1,())))).bind fun r10=>
      ((F_q37q 0) ((r10.2.1,((32:Int),())))).bind fun r11=>
      if (r11.1==(0:Int))=true then
       ((F_q21q 0) ((r11.2.1,([(-1:Int),(8:Int),(4611686018427387904:Int)],())))).bind fun r12=>
       some (((r3.1,(r12.1,(r10.1,()))),(r12.2.1,())))
      else
       if (r11.1==(1:Int))=true then
        ((F_q21q 0) ((r11.2.1,([(-1:Int),(1:Int),(8:Int)],())))).bind fun r13=>
        some (((r3.1,(r4.1,(r13.1,()))),(r13.2.1,())))
       else
        if (r11.1==(2:Int))=true then
         ((F_q21q 0) ((r11.2.1,([(0:Int),(11:Int),(-1:Int)],())))).bind fun r14=>
         some (((r14.1,(r4.1,(r10.1,()))),(r14.2.1,())))
        else
         some (((r3.1,(r4.1,(r10.1,()))),(r11.2.1,())))
     else
      ((F_q37q 0) ((r4.2.1,((32:Int),())))).bind fun r15=>
      if (r15.1==(0:Int))=true then
       ((F_q21q 0) ((r15.2.1,([(-1:Int),(8:Int),(4611686018427387904:Int)],())))).bind fun r16=>
       some (((r3.1,(r16.1,((0:Int),()))),(r16.2.1,())))
      else
       if (r15.1==(1:Int))=true then
        ((F_q21q 0) ((r15.2.1,([(-1:Int),(1:Int),(8:Int)],())))).bind fun r17=>
        some (((r3.1,(r4.1,(r17.1,()))),(r17.2.1,())))
       else
        if (r15.1==(2:Int))=true then
         ((F_q21q 0) ((r15.2.1,([(0:Int),(11:Int),(-1:Int)],())))).bind fun r18=>
         some (((r18.1,(r4.1,((0:Int),()))),(r18.2.1,())))
        else
         some (((r3.1,(r4.1,((0:Int),()))),(r15.2.1,())))
   else
    if (r3.1==(3:Int))=true then
     ((F_q37q 0) ((r3.2.1,(r2.1,())))).bind fun r19=>
     ((F_q37q 0) ((r19.2.1,((32:Int),())))).bind fun r20=>
     if (r20.1==(0:Int))=true then
      ((F_q21q 0) ((r20.2.1,([(-1:Int),(8:Int),(4611686018427387904:Int)],())))).bind fun r21=>
      some (((r3.1,(r21.1,(r19.1,()))),(r21.2.1,())))
     else
      if (r20.1==(1:Int))=true then
       ((F_q21q 0) ((r20.2.1,([(-1:Int),(1:Int),(8:Int)],())))).bind fun r22=>
       some (((r3.1,((0:Int),(r22.1,()))),(r22.2.1,())))
      else
       if (r20.1==(2:Int))=true then
        ((F_q21q 0) ((r20.2.1,([(0:Int),(11:Int),(-1:Int)],())))).bind fun r23=>
        some (((r23.1,((0:Int),(r19.1,()))),(r23.2.1,())))
       else
        some (((r3.1,((0:Int),(r19.1,()))),(r20.2.1,())))
    else
     if (r3.1==(6:Int))=true then
      ((F_q37q 0) ((r3.2.1,(r2.1,())))).bind fun r24=>
      ((F_q37q 0) ((r24.2.1,((32:Int),())))).bind fun r25=>
      if (r25.1==(0:Int))=true then
       ((F_q21q 0) ((r25.2.1,([(-1:Int),(8:Int),(4611686018427387904:Int)],())))).bind fun r26=>
       some (((r3.1,(r26.1,(r24.1,()))),(r26.2.1,())))
      else
       if (r25.1==(1:Int))=true then
        ((F_q21q 0) ((r25.2.1,([(-1:Int),(1:Int),(8:Int)],())))).bind fun r27=>
        some (((r3.1,((0:Int),(r27.1,()))),(r27.2.1,())))
       else
        if (r25.1==(2:Int))=true then
         ((F_q21q 0) ((r25.2.1,([(0:Int),(11:Int),(-1:Int)],())))).bind fun r28=>
         some (((r28.1,((0:Int),(r24.1,()))),(r28.2.1,())))
        else
         some (((r3.1,((0:Int),(r24.1,()))),(r25.2.1,())))
     else
      ((F_q37q 0) ((r3.2.1,((32:Int),())))).bind fun r29=>
      if (r29.1==(0:Int))=true then
       ((F_q21q 0) ((r29.2.1,([(-1:Int),(8:Int),(4611686018427387904:Int)],())))).bind fun r30=>
       some (((r3.1,(r30.1,((0:Int),()))),(r30.2.1,())))
      else
       if (r29.1==(1:Int))=true then
        ((F_q21q 0) ((r29.2.1,([(-1:Int),(1:Int),(8:Int)],())))).bind fun r31=>
        some (((r3.1,((0:Int),(r31.1,()))),(r31.2.1,())))
       else
        if (r29.1==(2:Int))=true then
         ((F_q21q 0) ((r29.2.1,([(0:Int),(11:Int),(-1:Int)],())))).bind fun r32=>
         some (((r32.1,((0:Int),((0:Int),()))),(r32.2.1,())))
        else
         some (((r3.1,((0:Int),((0:Int),()))),(r29.2.1,())))
  else
   if (r3.1==(3:Int))=true then
    ((F_q37q 0) ((r3.2.1,(r2.1,())))).bind fun r33=>
    ((F_q37q 0) ((r33.2.1,((32:Int),())))).bind fun r34=>
    if (r34.1==(0:Int))=true then
     ((F_q21q 0) ((r34.2.1,([(-1:Int),(8:Int),(4611686018427387904:Int)],())))).bind fun r35=>
     some (((r3.1,(r35.1,(r33.1,()))),(r35.2.1,())))
    else
     if (r34.1==(1:Int))=true then
      ((F_q21q 0) ((r34.2.1,([(-1:Int),(1:Int),(8:Int)],())))).bind fun r36=>
      some (((r3.1,((0:Int),(r36.1,()))),(r36.2.1,())))
     else
      if (r34.1==(2:Int))=true then
       ((F_q21q 0) ((r34.2.1,([(0:Int),(11:Int),(-1:Int)],())))).bind fun r37=>
       some (((r37.1,((0:Int),(r33.1,()))),(r37.2.1,())))
      else
       some (((r3.1,((0:Int),(r33.1,()))),(r34.2.1,())))
   else
    if (r3.1==(6:Int))=true then
     ((F_q37q 0) ((r3.2.1,(r2.1,())))).bind fun r38=>
     ((F_q37q 0) ((r38.2.1,((32:Int),())))).bind fun r39=>
     if (r39.1==(0:Int))=true then
      ((F_q21q 0) ((r39.2.1,([(-1:Int),(8:Int),(4611686018427387904:Int)],())))).bind fun r40=>
      some (((r3.1,(r40.1,(r38.1,()))),(r40.2.1,())))
     else
      if (r39.1==(1:Int))=true then
       ((F_q21q 0) ((r39.2.1,([(-1:Int),(1:Int),(8:Int)],())))).bind fun r41=>
       some (((r3.1,((0:Int),(r41.1,()))),(r41.2.1,())))
      else
       if (r39.1==(2:Int))=true then
        ((F_q21q 0) ((r39.2.1,([(0:Int),(11:Int),(-1:Int)],())))).bind fun r42=>
        some (((r42.1,((0:Int),(r38.1,()))),(r42.2.1,())))
       else
        some (((r3.1,((0:Int),(r38.1,()))),(r39.2.1,())))
    else
     ((F_q37q 0) ((r3.2.1,((32:Int),())))).bind fun r43=>
     if (r43.1==(0:Int))=true then
      ((F_q21q 0) ((r43.2.1,([(-1:Int),(8:Int),(4611686018427387904:Int)],())))).bind fun r44=>
      some (((r3.1,(r44.1,((0:Int),()))),(r44.2.1,())))
     else
      if (r43.1==(1:Int))=true then
       ((F_q21q 0) ((r43.2.1,([(-1:Int),(1:Int),(8:Int)],())))).bind fun r45=>
       some (((r3.1,((0:Int),(r45.1,()))),(r45.2.1,())))
      else
       if (r43.1==(2:Int))=true then
        ((F_q21q 0) ((r43.2.1,([(0:Int),(11:Int),(-1:Int)],())))).bind fun r46=>
        some (((r46.1,((0:Int),((0:Int),()))),(r46.2.1,())))
       else
        some (((r3.1,((0:Int),((0:Int),()))),(r43.2.1,())))
 else
  if (r3.1==(3:Int))=true then
   ((F_q37q 0) ((r3.2.1,(r2.1,())))).bind fun r47=>
   ((F_q37q 0) ((r47.2.1,((32:Int),())))).bind fun r48=>
   if (r48.1==(0:Int))=true then
    ((F_q21q 0) ((r48.2.1,([(-1:Int),(8:Int),(4611686018427387904:Int)],())))).bind fun r49=>
    some (((r3.1,(r49.1,(r47.1,()))),(r49.2.1,())))
   else
    if (r48.1==(1:Int))=true then
     ((F_q21q 0) ((r48.2.1,([(-1:Int),(1:Int),(8:Int)],())))).bind fun r50=>
     some (((r3.1,((0:Int),(r50.1,()))),(r50.2.1,())))
    else
     if (r48.1==(2:Int))=true then
      ((F_q21q 0) ((r48.2.1,([(0:Int),(11:Int),(-1:Int)],())))).bind fun r51=>
      some (((r51.1,((0:Int),(r47.1,()))),(r51.2.1,())))
     else
      some (((r3.1,((0:Int),(r47.1,()))),(r48.2.1,())))
  else
   if (r3.1==(6:Int))=true then
    ((F_q37q 0) ((r3.2.1,(r2.1,())))).bind fun r52=>
    ((F_q37q 0) ((r52.2.1,((32:Int),())))).bind fun r53=>
    if (r53.1==(0:Int))=true then
     ((F_q21q 0) ((r53.2.1,([(-1:Int),(8:Int),(4611686018427387904:Int)],())))).bind fun r54=>
     some (((r3.1,(r54.1,(r52.1,()))),(r54.2.1,())))
    else
     if (r53.1==(1:Int))=true then
      ((F_q21q 0) ((r53.2.1,([(-1:Int),(1:Int),(8:Int)],())))).bind fun r55=>
      some (((r3.1,((0:Int),(r55.1,()))),(r55.2.1,())))
     else
      if (r53.1==(2:Int))=true then
       ((F_q21q 0) ((r53.2.1,([(0:Int),(11:Int),(-1:Int)],())))).bind fun r56=>
       some (((r56.1,((0:Int),(r52.1,()))),(r56.2.1,())))
      else
       some (((r3.1,((0:Int),(r52.1,()))),(r53.2.1,())))
   else
    ((F_q37q 0) ((r3.2.1,((32:Int),())))).bind fun r57=>
    if (r57.1==(0:Int))=true then
     ((F_q21q 0) ((r57.2.1,([(-1:Int),(8:Int),(4611686018427387904:Int)],())))).bind fun r58=>
     some (((r3.1,(r58.1,((0:Int),()))),(r58.2.1,())))
    else
     if (r57.1==(1:Int))=true then
      ((F_q21q 0) ((r57.2.1,([(-1:Int),(1:Int),(8:Int)],())))).bind fun r59=>
      some (((r3.1,((0:Int),(r59.1,()))),(r59.2.1,())))
     else
      if (r57.1==(2:Int))=true then
       ((F_q21q 0) ((r57.2.1,([(0:Int),(11:Int),(-1:Int)],())))).bind fun r60=>
       some (((r60.1,((0:Int),((0:Int),()))),(r60.2.1,())))
      else
       some (((r3.1,((0:Int),((0:Int),()))),(r57.2.1,())))
noncomputable def S_q16q:FSig:=⟨[(K_BPSu8iu64q,true),(K_PiSPiiqq,false)],[K_Piiiq],true,(F_q16q 0)⟩
noncomputable def Γ_q105q:Ctx:={ tk:=assoc tks,ar:=assoc ars,fs:=assoc [(78,S_spec_l1In)] }
noncomputable def F_q105q (N:Nat) (d:(Int×(List (Int×Int×Unit))×Unit)×Int×Unit):Option (Bool×Unit):=
 let a0:=d.1
 let a1:=d.2.1
 let x1:=IntKind.wrap .i64 (a0.1-(1:Int))
 let r2:=g_spec_l1In ((a1,((0:Int),(x1,()))))
 some (r2.1,())
noncomputable def g_q105q (d:(Int×(List (Int×Int×Unit))×Unit)×Int×Unit):Bool×Unit:=
 let a0:=d.1
 let a1:=d.2.1
 let x1:=IntKind.wrap .i64 (a0.1-(1:Int))
 let r2:=g_spec_l1In ((a1,((0:Int),(x1,()))))
 (r2.1,())
theorem F_q105q_tot (N:Nat) (d):F_q105q N d=some (g_q105q d):=by
 unfold F_q105q g_q105q
 first
  | rfl
  | (dsimp only; (repeat' split)<;>rfl)
noncomputable def S_q105q:FSig:=⟨[(K_PiSPiiqq,false),(I,false)],[.bool],true,(fun d=>some (g_q105q d))⟩
noncomputable def Γ_spec_l3Two:Ctx:={ tk:=assoc tks,ar:=assoc ars,fs:=assoc [(75,S_q94q),(113,S_q105q)] }
noncomputable def F_spec_l3Two (N:Nat) (d:(Int×(List (Int×Int×Unit))×Unit)×Int×Int×Unit):Option (Bool×Unit):=
 let a0:=d.1
 let a1:=d.2.1
 let a2:=d.2.2.1
 (G_graph (a0,())).bind fun r1=>
 if (r1.1)=true then
  let r2:=g_q105q ((a0,(a1,())))
  if (r2.1)=true then
   let r3:=g_q105q ((a0,(a2,())))
   some (r3.1,())
  else
   some (false,())
 else
  some (false,())
noncomputable def S_spec_l3Two:FSig:=⟨[(K_PiSPiiqq,false),(I,false),(I,false)],[.bool],true,(F_spec_l3Two 0)⟩
noncomputable def Γ_q55q:Ctx:={ tk:=assoc tks,ar:=assoc ars,fs:=assoc [] }
noncomputable def F_q55q (N:Nat) (d:((Int×(List (Int×Int×Unit))×Unit)×Int×Int×List Int×Int×Unit)×Unit):Option (Bool×Unit):=
 let a0:=d.1
 if (decide (a0.2.1>=(0:Int)))=true then
  if (decide (a0.2.2.1>=(0:Int)))=true then
   some (a0.2.1 != a0.2.2.1,())
  else
   some (false,())
 else
  some (false,())
noncomputable def g_q55q (d:((Int×(List (Int×Int×Unit))×Unit)×Int×Int×List Int×Int×Unit)×Unit):Bool×Unit:=
 let a0:=d.1
 if (decide (a0.2.1>=(0:Int)))=true then
  if (decide (a0.2.2.1>=(0:Int)))=true then
   (a0.2.1 != a0.2.2.1,())
  else
   (false,())
 else
  (false,())
theorem F_q55q_tot (N:Nat) (d):F_q55q N d=some (g_q55q d):=by
 unfold F_q55q g_q55q
 first
  | rfl
  | (dsimp only; (repeat' split)<;>rfl)
noncomputable def S_q55q:FSig:=⟨[(K_PPiSPiiqqiiSiiq,false)],[.bool],true,(fun d=>some (g_q55q d))⟩
noncomputable def Γ_spec_l1Has:Ctx:={ tk:=assoc tks,ar:=assoc ars,fs:=assoc [] }
abbrev spec_l1Has_l0_H:=List Int×Int×Int×Unit
abbrev spec_l1Has_l0_O:=(Bool×Unit)⊕Unit⊕Empty
def spec_l1Has_l0_h:Form:=[(0,.v K_Si),(1,.v I),(5,.v I)]
def spec_l1Has_l0_o:Outs:=[(.ret,[(4,.v .bool)]),(.normal,[])]
noncomputable def spec_l1Has_l0_r (N:Nat) (back:spec_l1Has_l0_H->Option spec_l1Has_l0_O) (d:spec_l1Has_l0_H):Option spec_l1Has_l0_O:=
 let s0:=d.1
 let s1:=d.2.1
 let s5:=d.2.2.1
 if (decide (s5<(List.length s0:Int)))=true then
  if (idxIn s5 (List.length s0))=true then
  if (at_ I s0 s5.toNat==s1)=true then
   some (.inl (true,()))
  else
   let x5:=IntKind.wrap .i64 (s5+(1:Int))
   back ((s0,(s1,(x5,()))))
  else none
 else
  some (.inr (.inl ()))
noncomputable def spec_l1Has_l0 (N:Nat):Nat->spec_l1Has_l0_H->Option spec_l1Has_l0_O
 | 0,_=>none
 | k+1,d=>spec_l1Has_l0_r N (spec_l1Has_l0 N k) d
noncomputable def F_spec_l1Has (N:Nat) (d:List Int×Int×Unit):Option (Bool×Unit):=
 let a0:=d.1
 let a1:=d.2.1
 (spec_l1Has_l0 N N ((a0,(a1,((0:Int),()))))).bind fun o2=>match o2 with
 | .inl d3=>
  some (d3.1,())
 | .inr (.inl d4)=>
  some (false,())
noncomputable def S_spec_l1Has:FSig:=⟨[(K_Si,false),(I,false)],[.bool],true,(G_l1Has)⟩
noncomputable def Γ_q51q:Ctx:={ tk:=assoc tks,ar:=assoc ars,fs:=assoc [(116,S_q55q),(120,S_spec_l1Has),(133,S_q86q)] }
noncomputable def F_q51q (N:Nat) (d:((Int×(List (Int×Int×Unit))×Unit)×Int×Int×List Int×Int×Unit)×Int×Int×Unit):Option (Bool×Unit):=
 let a0:=d.1
 let a1:=d.2.1
 let a2:=d.2.2.1
 let r1:=g_q55q (a0,())
 if (r1.1)=true then
  ((F_q86q 0) ((a0.1,(a0.2.1,())))).bind fun r2=>
  (G_l1Has ((r2.1,(a1,())))).bind fun r3=>
  if (r3.1)=true then
   ((F_q86q 0) ((a0.1,(a0.2.2.1,())))).bind fun r4=>
   (G_l1Has ((r4.1,(a2,())))).bind fun r5=>
   if (r5.1)=true then
    if (a1 != a0.2.2.1)=true then
     some (true,())
    else
     some (a2==a1,())
   else
    some (false,())
  else
   some (false,())
 else
  some (false,())
noncomputable def S_q51q:FSig:=⟨[(K_PPiSPiiqqiiSiiq,false),(I,false),(I,false)],[.bool],true,(F_q51q 0)⟩
noncomputable def Γ_q101q:Ctx:={ tk:=assoc tks,ar:=assoc ars,fs:=assoc [(76,S_q80q),(113,S_q105q),(114,S_spec_l3Two),(115,S_q51q),(116,S_q55q)] }
noncomputable def F_q101q (N:Nat) (d:((Int×(List (Int×Int×Unit))×Unit)×Int×Int×List Int×Int×Unit)×(Int×Int×Int×Unit)×Unit):Option (Bool×Unit):=
 let a0:=d.1
 let a1:=d.2.1
 if (a1.1==(2:Int))=true then
  if (a1.2.2.1==(0:Int))=true then
   let r1:=g_q105q ((a0.1,(a1.2.1,())))
   if (r1.1)=true then
    if (a0.2.1 != a1.2.1)=true then
     some (a0.2.2.1 != a1.2.1,())
    else
     some (false,())
   else
    some (false,())
  else
   some (false,())
 else
  if (a1.1==(3:Int))=true then
   ((F_spec_l3Two 0) ((a0.1,(a1.2.1,(a1.2.2.1,()))))).bind fun r2=>
   if (r2.1)=true then
    some (a1.2.1 != a1.2.2.1,())
   else
    some (false,())
  else
   if (a1.1==(4:Int))=true then
    if (a1.2.2.1==(0:Int))=true then
     let r3:=g_q80q ((a0.1,(a1.2.1,())))
     some (r3.1,())
    else
     some (false,())
   else
    if (a1.1==(5:Int))=true then
     if (a1.2.2.1==(0:Int))=true then
      let r4:=g_q80q ((a0.1,(a1.2.1,())))
      some (r4.1,())
     else
      some (false,())
    else
     if (a1.1==(6:Int))=true then
      ((F_q51q 0) ((a0,(a1.2.1,(a1.2.2.1,()))))).bind fun r5=>
      some (r5.1,())
     else
      if (a1.1==(7:Int))=true then
       if (a1.2.1==(0:Int))=true then
        if (a1.2.2.1==(0:Int))=true then
         let r6:=g_q55q (a0,())
         some (r6.1,())
        else
         some (false,())
       else
        some (false,())
      else
       if (a1.1==(8:Int))=true then
        if (a1.2.2.1==(0:Int))=true then
         let r7:=g_q105q ((a0.1,(a1.2.1,())))
         some (r7.1,())
        else
         some (false,())
       else
        if (a1.2.1==(0:Int))=true then
         if (a1.2.2.1==(0:Int))=true then
          if (a1.1==(1:Int))=true then
           some (true,())
          else
           if (a1.1==(9:Int))=true then
            some (true,())
           else
            some (a1.1==(10:Int),())
         else
          some (false,())
        else
         some (false,())
noncomputable def S_q101q:FSig:=⟨[(K_PPiSPiiqqiiSiiq,false),(K_Piiiq,false)],[.bool],true,(F_q101q 0)⟩
noncomputable def Γ_spec_l2All:Ctx:={ tk:=assoc tks,ar:=assoc ars,fs:=assoc [(97,S_q95q)] }
noncomputable def F_spec_l2All (N:Nat) (d:(Int×(List (Int×Int×Unit))×Unit)×Unit):Option (List Int×Unit):=
 let a0:=d.1
 if (decide (0<=a0.1))=true then
 let x1:=IntKind.wrap .i64 (shl .i64 (1:Int) a0.1-(1:Int))
 (G_l2Bits ((a0.1,(x1,())))).bind fun r2=>
 some (r2.1,())
 else none
noncomputable def S_spec_l2All:FSig:=⟨[(K_PiSPiiqq,false)],[K_Si],true,(F_spec_l2All 0)⟩
noncomputable def Γ_q48q:Ctx:={ tk:=assoc tks,ar:=assoc ars,fs:=assoc [] }
abbrev q48q_l0_H:=List Int×Int×List Int×Int×Unit
abbrev q48q_l0_O:=(List Int×Unit)⊕Empty
def q48q_l0_h:Form:=[(0,.v K_Si),(1,.v I),(5,.own K_Si 99),(6,.v I)]
def q48q_l0_o:Outs:=[(.normal,[(5,.own K_Si 99)])]
noncomputable def q48q_l0_r (N:Nat) (back:q48q_l0_H->Option q48q_l0_O) (d:q48q_l0_H):Option q48q_l0_O:=
 let s0:=d.1
 let s1:=d.2.1
 let s5:=d.2.2.1
 let s6:=d.2.2.2.1
 if (decide (s6<(List.length s0:Int)))=true then
  if (idxIn s6 (List.length s0))=true then
  if (at_ I s0 s6.toNat != s1)=true then
   if (idxIn s6 (List.length s0))=true then
   if (decide (List.length s5+List.length ([at_ I s0 s6.toNat])<=lim))=true then
   let x5:=IntKind.wrap .i64 (s6+(1:Int))
   back ((s0,(s1,(s5++([at_ I s0 s6.toNat]),(x5,())))))
   else none
   else none
  else
   let x6:=IntKind.wrap .i64 (s6+(1:Int))
   back ((s0,(s1,(s5,(x6,())))))
  else none
 else
  some (.inl (s5,()))
noncomputable def q48q_l0 (N:Nat):Nat->q48q_l0_H->Option q48q_l0_O
 | 0,_=>none
 | k+1,d=>q48q_l0_r N (q48q_l0 N k) d
noncomputable def F_q48q (N:Nat) (d:List Int×Int×Unit):Option (List Int×Unit):=
 let a0:=d.1
 let a1:=d.2.1
 (q48q_l0 N N ((a0,(a1,(([]:List Int),((0:Int),())))))).bind fun o3=>match o3 with
 | .inl d4=>
  some (d4.1,())
noncomputable def S_q48q:FSig:=⟨[(K_Si,false),(I,false)],[K_Si],true,(G_l2Without)⟩
noncomputable def Γ_q46q:Ctx:={ tk:=assoc tks,ar:=assoc ars,fs:=assoc [(156,S_q100q)] }
abbrev q46q_l2_H:=List Int×(Int×(List (Int×Int×Unit))×Unit)×(Int×(List (Int×Int×Unit))×Unit)×(Int×(List (Int×Int×Unit))×Unit)×Int×Int×Unit
abbrev q46q_l2_O:=(List Int×(Int×(List (Int×Int×Unit))×Unit)×(Int×(List (Int×Int×Unit))×Unit)×(Int×(List (Int×Int×Unit))×Unit)×Int×Unit)⊕Empty
def q46q_l2_h:Form:=[(1,.v K_Si),(2,.box K_PiSPiiqq 0),(4,.box K_PiSPiiqq 99),(5,.box K_PiSPiiqq 99),(6,.v I),(7,.v I)]
def q46q_l2_o:Outs:=[(.normal,[(1,.v K_Si),(2,.box K_PiSPiiqq 0),(4,.box K_PiSPiiqq 99),(5,.box K_PiSPiiqq 99),(6,.v I)])]
noncomputable def q46q_l2_r (N:Nat) (back:q46q_l2_H->Option q46q_l2_O) (d:q46q_l2_H):Option q46q_l2_O:=
 let s1:=d.1
 let s2:=d.2.1
 let s4:=d.2.2.1
 let s5:=d.2.2.2.1
 let s6:=d.2.2.2.2.1
 let s7:=d.2.2.2.2.2.1
 if (decide (s7<(List.length s1:Int)))=true then
  if (idxIn s6 (List.length s1))=true then
  if (idxIn s7 (List.length s1))=true then
  (G_l2Near ((s2,(at_ I s1 s6.toNat,(at_ I s1 s7.toNat,()))))).bind fun r17=>
  if (r17.1)=true then
   if (decide (List.length s5.2.1+List.length ([(s6,(s7,()))])<=lim))=true then
   let x18:=IntKind.wrap .i64 (s7+(1:Int))
   back ((s1,(s2,(s4,((s5.1,(s5.2.1++([(s6,(s7,()))]),s5.2.2)),(s6,(x18,())))))))
   else none
  else
   let x19:=IntKind.wrap .i64 (s7+(1:Int))
   back ((s1,(s2,(s4,(s5,(s6,(x19,())))))))
  else none
  else none
 else
  some (.inl ((s1,(s2,(s4,(s5,(s6,())))))))
noncomputable def q46q_l2 (N:Nat):Nat->q46q_l2_H->Option q46q_l2_O
 | 0,_=>none
 | k+1,d=>q46q_l2_r N (q46q_l2 N k) d
abbrev q46q_l0_H:=List Int×(Int×(List (Int×Int×Unit))×Unit)×(Int×(List (Int×Int×Unit))×Unit)×(Int×(List (Int×Int×Unit))×Unit)×Int×Unit
abbrev q46q_l0_O:=((Int×(List (Int×Int×Unit))×Unit)×(Int×(List (Int×Int×Unit))×Unit)×Unit)⊕Empty
def q46q_l0_h:Form:=[(1,.v K_Si),(2,.box K_PiSPiiqq 0),(4,.box K_PiSPiiqq 99),(5,.box K_PiSPiiqq 99),(6,.v I)]
def q46q_l0_o:Outs:=[(.normal,[(4,.box K_PiSPiiqq 99),(5,.box K_PiSPiiqq 99)])]
noncomputable def q46q_l0_r (N:Nat) (back:q46q_l0_H->Option q46q_l0_O) (d:q46q_l0_H):Option q46q_l0_O:=
 let s1:=d.1
 let s2:=d.2.1
 let s4:=d.2.2.1
 let s5:=d.2.2.2.1
 let s6:=d.2.2.2.2.1
 if (decide (s6<(List.length s1:Int)))=true then
  let x10:=IntKind.wrap .i64 (s6+(1:Int))
  (q46q_l2 N N ((s1,(s2,(s4,(s5,(s6,(x10,())))))))).bind fun o14=>match o14 with
  | .inl d15=>
   let x16:=IntKind.wrap .i64 (d15.2.2.2.2.1+(1:Int))
   back ((d15.1,(d15.2.1,(d15.2.2.1,(d15.2.2.2.1,(x16,()))))))
 else
  some (.inl ((s4,(s5,()))))
noncomputable def q46q_l0 (N:Nat):Nat->q46q_l0_H->Option q46q_l0_O
 | 0,_=>none
 | k+1,d=>q46q_l0_r N (q46q_l0 N k) d
noncomputable def F_q46q (N:Nat) (d:(Int×(List (Int×Int×Unit))×Unit)×List Int×Unit):Option ((Int×(List (Int×Int×Unit))×Unit)×Unit):=
 let a0:=d.1
 let a1:=d.2.1
 (q46q_l0 N N ((a1,(a0,(((0:Int),(([]:List (Int×Int×Unit)),())),(((List.length a1:Int),(([]:List (Int×Int×Unit)),())),((0:Int),()))))))).bind fun o8=>match o8 with
 | .inl d9=>
  some (d9.2.1,())
noncomputable def S_q46q:FSig:=⟨[(K_PiSPiiqq,false),(K_Si,false)],[K_PiSPiiqq],true,(G_l2Induced)⟩
noncomputable def Γ_q69q:Ctx:={ tk:=assoc tks,ar:=assoc ars,fs:=assoc [] }
noncomputable def F_q69q (N:Nat) (d:Int×Int×Unit):Option (Int×Unit):=
 let a0:=d.1
 let a1:=d.2.1
 if (decide (a0>a1))=true then
  let x1:=IntKind.wrap .i64 (a0-(1:Int))
  some (x1,())
 else
  some (a0,())
noncomputable def g_q69q (d:Int×Int×Unit):Int×Unit:=
 let a0:=d.1
 let a1:=d.2.1
 if (decide (a0>a1))=true then
  let x1:=IntKind.wrap .i64 (a0-(1:Int))
  (x1,())
 else
  (a0,())
theorem F_q69q_tot (N:Nat) (d):F_q69q N d=some (g_q69q d):=by
 unfold F_q69q g_q69q
 first
  | rfl
  | (dsimp only; (repeat' split)<;>rfl)
noncomputable def S_q69q:FSig:=⟨[(I,false),(I,false)],[I],true,(fun d=>some (g_q69q d))⟩
noncomputable def Γ_q65q:Ctx:={ tk:=assoc tks,ar:=assoc ars,fs:=assoc [(55,S_q88q),(121,S_q48q),(143,S_q46q),(144,S_spec_l2All),(145,S_q69q)] }
abbrev q65q_l0_H:=Int×((Int×(List (Int×Int×Unit))×Unit)×Int×Int×List Int×Int×Unit)×((Int×(List (Int×Int×Unit))×Unit)×Int×Int×List Int×Int×Unit)×((Int×(List (Int×Int×Unit))×Unit)×Int×Int×List Int×Int×Unit)×Int×Unit
abbrev q65q_l0_O:=(((Int×(List (Int×Int×Unit))×Unit)×Int×Int×List Int×Int×Unit)×((Int×(List (Int×Int×Unit))×Unit)×Int×Int×List Int×Int×Unit)×Unit)⊕Empty
def q65q_l0_h:Form:=[(1,.v I),(2,.box K_PPiSPiiqqiiSiiq 0),(4,.box K_PPiSPiiqqiiSiiq 99),(5,.box K_PPiSPiiqqiiSiiq 99),(6,.v I)]
def q65q_l0_o:Outs:=[(.normal,[(4,.box K_PPiSPiiqqiiSiiq 99),(5,.box K_PPiSPiiqqiiSiiq 99)])]
noncomputable def q65q_l0_r (N:Nat) (back:q65q_l0_H->Option q65q_l0_O) (d:q65q_l0_H):Option q65q_l0_O:=
 let s1:=d.1
 let s2:=d.2.1
 let s4:=d.2.2.1
 let s5:=d.2.2.2.1
 let s6:=d.2.2.2.2.1
 if (decide (s6<(List.length s2.2.2.2.1:Int)))=true then
  if (idxIn s6 (List.length s2.2.2.2.1))=true then
  if (at_ I s2.2.2.2.1 s6.toNat != s1)=true then
   if (idxIn s6 (List.length s2.2.2.2.1))=true then
   let r12:=g_q69q ((at_ I s2.2.2.2.1 s6.toNat,(s1,())))
   if (decide (List.length s5.2.2.2.1+List.length ([r12.1])<=lim))=true then
   let x13:=IntKind.wrap .i64 (s6+(1:Int))
   back ((s1,(s2,(s4,((s5.1,(s5.2.1,(s5.2.2.1,(s5.2.2.2.1++([r12.1]),s5.2.2.2.2)))),(x13,()))))))
   else none
   else none
  else
   let x14:=IntKind.wrap .i64 (s6+(1:Int))
   back ((s1,(s2,(s4,(s5,(x14,()))))))
  else none
 else
  some (.inl ((s4,(s5,()))))
noncomputable def q65q_l0 (N:Nat):Nat->q65q_l0_H->Option q65q_l0_O
 | 0,_=>none
 | k+1,d=>q65q_l0_r N (q65q_l0 N k) d
noncomputable def F_q65q (N:Nat) (d:((Int×(List (Int×Int×Unit))×Unit)×Int×Int×List Int×Int×Unit)×Int×Unit):Option (((Int×(List (Int×Int×Unit))×Unit)×Int×Int×List Int×Int×Unit)×Unit):=
 let a0:=d.1
 let a1:=d.2.1
 ((F_q88q 0) (a0,())).bind fun r1=>
 ((F_spec_l2All 0) (a0.1,())).bind fun r2=>
 (G_l2Without ((r2.1,(a1,())))).bind fun r3=>
 (G_l2Induced ((a0.1,(r3.1,())))).bind fun r4=>
 let r5:=g_q69q ((a0.2.1,(a1,())))
 let r6:=g_q69q ((a0.2.2.1,(a1,())))
 (q65q_l0 N N ((a1,(a0,((((0:Int),(([]:List (Int×Int×Unit)),())),((0:Int),((0:Int),(([]:List Int),((0:Int),()))))),((r4.1,(r5.1,(r6.1,(([]:List Int),r1.1.2.2.2.2)))),((0:Int),()))))))).bind fun o10=>match o10 with
 | .inl d11=>
  some (d11.2.1,())
noncomputable def S_q65q:FSig:=⟨[(K_PPiSPiiqqiiSiiq,false),(I,false)],[K_PPiSPiiqqiiSiiq],true,(G_l12Drop)⟩
noncomputable def Γ_q39q:Ctx:={ tk:=assoc tks,ar:=assoc ars,fs:=assoc [(75,S_q94q),(99,S_q87q),(100,S_q76q),(113,S_q105q),(134,S_spec_l2Put)],cs:=assoc [],gs:=assoc [],eqt:=inL [67],md:=md0 }
abbrev q39q_l0_H:=(Int×(List (Int×Int×Unit))×Unit)×(Int×(List (Int×Int×Unit))×Unit)×(Int×Int×Unit)×(Int×(List (Int×Int×Unit))×Unit)×Int×Unit
abbrev q39q_l0_O:=((Int×(List (Int×Int×Unit))×Unit)×(Int×(List (Int×Int×Unit))×Unit)×(Int×Int×Unit)×(Int×(List (Int×Int×Unit))×Unit)×Unit)⊕Empty
def q39q_l0_h:Form:=[(3,.box K_PiSPiiqq 0),(6,.box K_PiSPiiqq 99),(8,.box K_Piiq 99),(9,.box K_PiSPiiqq 99),(10,.v I)]
def q39q_l0_o:Outs:=[(.normal,[(3,.box K_PiSPiiqq 0),(6,.box K_PiSPiiqq 99),(8,.box K_Piiq 99),(9,.box K_PiSPiiqq 99)])]
noncomputable def q39q_l0_r (N:Nat) (back:q39q_l0_H->Option q39q_l0_O) (d:q39q_l0_H):Option q39q_l0_O:=
 let s3:=d.1
 let s6:=d.2.1
 let s8:=d.2.2.1
 let s9:=d.2.2.2.1
 let s10:=d.2.2.2.2.1
 if (decide (s10<(List.length s3.2.1:Int)))=true then
  if (idxIn s10 (List.length s3.2.1))=true then
  if (!eqB K_Piiq (at_ K_Piiq s3.2.1 s10.toNat) s8)=true then
   if (idxIn s10 (List.length s3.2.1))=true then
   if (decide (List.length s9.2.1+List.length ([at_ K_Piiq s3.2.1 s10.toNat])<=lim))=true then
   let x12:=s9.2.1++([at_ K_Piiq s3.2.1 s10.toNat])
   let x13:=IntKind.wrap .i64 (s10+(1:Int))
   back ((s3,(s6,(s8,((s9.1,(x12,s9.2.2)),(x13,()))))))
   else none
   else none
  else
   let x14:=IntKind.wrap .i64 (s10+(1:Int))
   back ((s3,(s6,(s8,(s9,(x14,()))))))
  else none
 else
  some (.inl ((s3,(s6,(s8,(s9,()))))))
noncomputable def q39q_l0 (N:Nat):Nat->q39q_l0_H->Option q39q_l0_O
 | 0,_=>none
 | k+1,d=>q39q_l0_r N (q39q_l0 N k) d
noncomputable def F_q39q (N:Nat) (d:(Int×(List (Int×Int×Unit))×Unit)×Int×Int×Unit):Option ((Int×(List (Int×Int×Unit))×Unit)×Bool×Unit):=
 let a0:=d.1
 let a1:=d.2.1
 let a2:=d.2.2.1
 (G_graph (a0,())).bind fun r1=>
 if (!r1.1)=true then
  some ((((0:Int),(([]:List (Int×Int×Unit)),())),(false,())))
 else
  let r2:=g_q105q ((a0,(a1,())))
  if (!r2.1)=true then
   some ((((0:Int),(([]:List (Int×Int×Unit)),())),(false,())))
  else
   let r3:=g_q105q ((a0,(a2,())))
   if (!r3.1)=true then
    some ((((0:Int),(([]:List (Int×Int×Unit)),())),(false,())))
   else
    if (a1==a2)=true then
     some ((((0:Int),(([]:List (Int×Int×Unit)),())),(false,())))
    else
     let r4:=g_q76q ((a1,(a2,())))
     let r5:=g_q87q ((a1,(a2,())))
     (q39q_l0 N N ((a0,(((0:Int),(([]:List (Int×Int×Unit)),())),((r4.1,(r5.1,())),((a0.1,(([]:List (Int×Int×Unit)),())),((0:Int),()))))))).bind fun o9=>match o9 with
     | .inl d10=>
      if ((List.length d10.2.2.2.1.2.1:Int)==(List.length d10.1.2.1:Int))=true then
       (G_l2Put ((d10.2.2.2.1.2.1,(d10.2.2.1,())))).bind fun r11=>
       some (((d10.2.2.2.1.1,(r11.1,d10.2.2.2.1.2.2)),(true,())))
      else
       some ((d10.2.2.2.1,(true,())))
noncomputable def S_q39q:FSig:=⟨[(K_PiSPiiqq,false),(I,false),(I,false)],[K_PiSPiiqq,.bool],true,(G_ToggleEdge)⟩
noncomputable def Γ_q85q:Ctx:={ tk:=assoc tks,ar:=assoc ars,fs:=assoc [] }
noncomputable def F_q85q (N:Nat) (d:Bool×Unit):Option (Int×Unit):=
 let a0:=d.1
 if (a0)=true then
  some ((0:Int),())
 else
  some ((-1:Int),())
noncomputable def g_q85q (d:Bool×Unit):Int×Unit:=
 let a0:=d.1
 if (a0)=true then
  ((0:Int),())
 else
  ((-1:Int),())
theorem F_q85q_tot (N:Nat) (d):F_q85q N d=some (g_q85q d):=by
 unfold F_q85q g_q85q
 first
  | rfl
  | (dsimp only; (repeat' split)<;>rfl)
noncomputable def S_q85q:FSig:=⟨[(.bool,false)],[I],true,(fun d=>some (g_q85q d))⟩
noncomputable def Γ_q74q:Ctx:={ tk:=assoc tks,ar:=assoc ars,fs:=assoc [(99,S_q87q),(133,S_q86q)] }
abbrev q74q_l0_H:=List (List Int)×Int×Int×List Int×Int×Unit
abbrev q74q_l0_O:=(Int×Unit)⊕(Int×Unit)⊕Empty
def q74q_l0_h:Form:=[(1,.v K_SSi),(2,.v I),(9,.v I),(10,.own K_Si 99),(11,.v I)]
def q74q_l0_o:Outs:=[(.ret,[(8,.v I)]),(.normal,[(9,.v I)])]
noncomputable def q74q_l0_r (N:Nat) (back:q74q_l0_H->Option q74q_l0_O) (d:q74q_l0_H):Option q74q_l0_O:=
 let s1:=d.1
 let s2:=d.2.1
 let s9:=d.2.2.1
 let s10:=d.2.2.2.1
 let s11:=d.2.2.2.2.1
 if (decide (s11<(List.length s10:Int)))=true then
  if (idxIn s2 (List.length s1))=true then
  if (idxIn s11 (List.length s10))=true then
  if (idxIn (at_ I s10 s11.toNat) (List.length (at_ K_Si s1 s2.toNat)))=true then
  if (decide (at_ I (at_ K_Si s1 s2.toNat) (at_ I s10 s11.toNat).toNat<(0:Int)))=true then
   some (.inl ((-1:Int),()))
  else
   if (idxIn s2 (List.length s1))=true then
   if (idxIn s11 (List.length s10))=true then
   if (idxIn (at_ I s10 s11.toNat) (List.length (at_ K_Si s1 s2.toNat)))=true then
   let r7:=g_q87q ((s9,(at_ I (at_ K_Si s1 s2.toNat) (at_ I s10 s11.toNat).toNat,())))
   let x8:=IntKind.wrap .i64 (s11+(1:Int))
   back ((s1,(s2,(r7.1,(s10,(x8,()))))))
   else none
   else none
   else none
  else none
  else none
  else none
 else
  some (.inr (.inl (s9,())))
noncomputable def q74q_l0 (N:Nat):Nat->q74q_l0_H->Option q74q_l0_O
 | 0,_=>none
 | k+1,d=>q74q_l0_r N (q74q_l0 N k) d
noncomputable def F_q74q (N:Nat) (d:(Int×(List (Int×Int×Unit))×Unit)×List (List Int)×Int×Int×Unit):Option (Int×Unit):=
 let a0:=d.1
 let a1:=d.2.1
 let a2:=d.2.2.1
 let a3:=d.2.2.2.1
 ((F_q86q 0) ((a0,(a3,())))).bind fun r1=>
 (q74q_l0 N N ((a1,(a2,((0:Int),(r1.1,((0:Int),()))))))).bind fun o4=>match o4 with
 | .inl d5=>
  some (d5.1,())
 | .inr (.inl d6)=>
  some (d6.1,())
noncomputable def S_q74q:FSig:=⟨[(K_PiSPiiqq,false),(K_SSi,false),(I,false),(I,false)],[I],true,(G_l3Worst)⟩
noncomputable def Γ_q70q:Ctx:={ tk:=assoc tks,ar:=assoc ars,fs:=assoc [(166,S_q74q)] }
noncomputable def F_q70q (N:Nat) (d:(Int×(List (Int×Int×Unit))×Unit)×List (List Int)×Int×Int×Unit):Option (Int×Unit):=
 let a0:=d.1
 let a1:=d.2.1
 let a2:=d.2.2.1
 let a3:=d.2.2.2.1
 if (a2==a3)=true then
  some ((0:Int),())
 else
  (G_l3Worst ((a0,(a1,(a2,(a3,())))))).bind fun r1=>
  some (r1.1,())
noncomputable def S_q70q:FSig:=⟨[(K_PiSPiiqq,false),(K_SSi,false),(I,false),(I,false)],[I],true,(F_q70q 0)⟩
noncomputable def Γ_q89q:Ctx:={ tk:=assoc tks,ar:=assoc ars,fs:=assoc [(133,S_q86q),(161,S_q70q)] }
abbrev q89q_l0_H:=List (List Int)×Int×(Int×(List (Int×Int×Unit))×Unit)×Int×List Int×Int×Unit
abbrev q89q_l0_O:=(Int×Unit)⊕Empty
def q89q_l0_h:Form:=[(1,.v K_SSi),(3,.v I),(4,.box K_PiSPiiqq 0),(9,.v I),(10,.own K_Si 99),(11,.v I)]
def q89q_l0_o:Outs:=[(.normal,[(9,.v I)])]
noncomputable def q89q_l0_r (N:Nat) (back:q89q_l0_H->Option q89q_l0_O) (d:q89q_l0_H):Option q89q_l0_O:=
 let s1:=d.1
 let s3:=d.2.1
 let s4:=d.2.2.1
 let s9:=d.2.2.2.1
 let s10:=d.2.2.2.2.1
 let s11:=d.2.2.2.2.2.1
 if (decide (s11<(List.length s10:Int)))=true then
  if (idxIn s11 (List.length s10))=true then
  ((F_q70q 0) ((s4,(s1,(at_ I s10 s11.toNat,(s3,())))))).bind fun r9=>
  if (decide (r9.1>=(0:Int)))=true then
   if (decide (s9<(0:Int)))=true then
    let x10:=IntKind.wrap .i64 (s11+(1:Int))
    back ((s1,(s3,(s4,(r9.1,(s10,(x10,())))))))
   else
    if (decide (r9.1<s9))=true then
     let x11:=IntKind.wrap .i64 (s11+(1:Int))
     back ((s1,(s3,(s4,(r9.1,(s10,(x11,())))))))
    else
     let x12:=IntKind.wrap .i64 (s11+(1:Int))
     back ((s1,(s3,(s4,(s9,(s10,(x12,())))))))
  else
   let x13:=IntKind.wrap .i64 (s11+(1:Int))
   back ((s1,(s3,(s4,(s9,(s10,(x13,())))))))
  else none
 else
  some (.inl (s9,()))
noncomputable def q89q_l0 (N:Nat):Nat->q89q_l0_H->Option q89q_l0_O
 | 0,_=>none
 | k+1,d=>q89q_l0_r N (q89q_l0 N k) d
noncomputable def F_q89q (N:Nat) (d:(Int×(List (Int×Int×Unit))×Unit)×List (List Int)×Int×Int×Unit):Option (Int×Unit):=
 let a0:=d.1
 let a1:=d.2.1
 let a2:=d.2.2.1
 let a3:=d.2.2.2.1
 ((F_q86q 0) ((a0,(a2,())))).bind fun r1=>
 (q89q_l0 N N ((a1,(a3,(a0,((-1:Int),(r1.1,((0:Int),())))))))).bind fun o7=>match o7 with
 | .inl d8=>
  some (d8.1,())
noncomputable def S_q89q:FSig:=⟨[(K_PiSPiiqq,false),(K_SSi,false),(I,false),(I,false)],[I],true,(G_l3Best)⟩
noncomputable def Γ_q62q:Ctx:={ tk:=assoc tks,ar:=assoc ars,fs:=assoc [(91,S_spec_l1Own),(141,S_q85q),(142,S_q89q)] }
abbrev q62q_l2_H:=(Int×(List (Int×Int×Unit))×Unit)×List (List Int)×Int×List Int×Int×Unit
abbrev q62q_l2_O:=((Int×(List (Int×Int×Unit))×Unit)×List (List Int)×Int×List Int×Unit)⊕Empty
def q62q_l2_h:Form:=[(1,.box K_PiSPiiqq 0),(3,.own K_SSi 100),(4,.v I),(5,.own K_Si 99),(6,.v I)]
def q62q_l2_o:Outs:=[(.normal,[(1,.box K_PiSPiiqq 0),(3,.own K_SSi 100),(4,.v I),(5,.own K_Si 99)])]
noncomputable def q62q_l2_r (N:Nat) (back:q62q_l2_H->Option q62q_l2_O) (d:q62q_l2_H):Option q62q_l2_O:=
 let s1:=d.1
 let s3:=d.2.1
 let s4:=d.2.2.1
 let s5:=d.2.2.2.1
 let s6:=d.2.2.2.2.1
 if (decide (s6<s1.1))=true then
  let r27:=g_q85q (s4==s6,())
  if (decide (List.length s5+List.length ([r27.1])<=lim))=true then
  let x28:=IntKind.wrap .i64 (s6+(1:Int))
  back ((s1,(s3,(s4,(s5++([r27.1]),(x28,()))))))
  else none
 else
  some (.inl ((s1,(s3,(s4,(s5,()))))))
noncomputable def q62q_l2 (N:Nat):Nat->q62q_l2_H->Option q62q_l2_O
 | 0,_=>none
 | k+1,d=>q62q_l2_r N (q62q_l2 N k) d
abbrev q62q_l0_H:=(Int×(List (Int×Int×Unit))×Unit)×List (List Int)×Int×Unit
abbrev q62q_l0_O:=((Int×(List (Int×Int×Unit))×Unit)×List (List Int)×Unit)⊕Empty
def q62q_l0_h:Form:=[(1,.box K_PiSPiiqq 0),(3,.own K_SSi 100),(4,.v I)]
def q62q_l0_o:Outs:=[(.normal,[(1,.box K_PiSPiiqq 0),(3,.own K_SSi 100)])]
noncomputable def q62q_l0_r (N:Nat) (back:q62q_l0_H->Option q62q_l0_O) (d:q62q_l0_H):Option q62q_l0_O:=
 let s1:=d.1
 let s3:=d.2.1
 let s4:=d.2.2.1
 if (decide (s4<s1.1))=true then
  (q62q_l2 N N ((s1,(s3,(s4,(([]:List Int),((0:Int),()))))))).bind fun o24=>match o24 with
  | .inl d25=>
   if (decide (List.length d25.2.1+List.length ([d25.2.2.2.1])<=lim))=true then
   let x26:=IntKind.wrap .i64 (d25.2.2.1+(1:Int))
   back ((d25.1,(d25.2.1++([d25.2.2.2.1]),(x26,()))))
   else none
 else
  some (.inl ((s1,(s3,()))))
noncomputable def q62q_l0 (N:Nat):Nat->q62q_l0_H->Option q62q_l0_O
 | 0,_=>none
 | k+1,d=>q62q_l0_r N (q62q_l0 N k) d
abbrev q62q_l8_H:=(Int×(List (Int×Int×Unit))×Unit)×List (List Int)×Bool×List (List Int)×Int×List Int×Int×Unit
abbrev q62q_l8_O:=((Int×(List (Int×Int×Unit))×Unit)×List (List Int)×Bool×List (List Int)×Int×List Int×Unit)⊕Empty
def q62q_l8_h:Form:=[(1,.box K_PiSPiiqq 0),(3,.own K_SSi 100),(7,.v .bool),(8,.own K_SSi 100),(9,.v I),(10,.own K_Si 99),(11,.v I)]
def q62q_l8_o:Outs:=[(.normal,[(1,.box K_PiSPiiqq 0),(3,.own K_SSi 100),(7,.v .bool),(8,.own K_SSi 100),(9,.v I),(10,.own K_Si 99)])]
noncomputable def q62q_l8_r (N:Nat) (back:q62q_l8_H->Option q62q_l8_O) (d:q62q_l8_H):Option q62q_l8_O:=
 let s1:=d.1
 let s3:=d.2.1
 let s7:=d.2.2.1
 let s8:=d.2.2.2.1
 let s9:=d.2.2.2.2.1
 let s10:=d.2.2.2.2.2.1
 let s11:=d.2.2.2.2.2.2.1
 if (decide (s11<s1.1))=true then
  (G_l3Best ((s1,(s3,(s9,(s11,())))))).bind fun r51=>
  if (idxIn s11 (List.length s10))=true then
  if (decide (at_ I s10 s11.toNat<(0:Int)))=true then
   if (decide (r51.1>=(0:Int)))=true then
    let x52:=IntKind.wrap .i64 (r51.1+(1:Int))
    if (idxIn s11 (List.length s10))=true then
    let x53:=IntKind.wrap .i64 (s11+(1:Int))
    back ((s1,(s3,(true,(s8,(s9,(List.set s10 s11.toNat x52,(x53,()))))))))
    else none
   else
    let x54:=IntKind.wrap .i64 (s11+(1:Int))
    back ((s1,(s3,(s7,(s8,(s9,(s10,(x54,()))))))))
  else
   let x55:=IntKind.wrap .i64 (s11+(1:Int))
   back ((s1,(s3,(s7,(s8,(s9,(s10,(x55,()))))))))
  else none
 else
  some (.inl ((s1,(s3,(s7,(s8,(s9,(s10,()))))))))
noncomputable def q62q_l8 (N:Nat):Nat->q62q_l8_H->Option q62q_l8_O
 | 0,_=>none
 | k+1,d=>q62q_l8_r N (q62q_l8 N k) d
abbrev q62q_l6_H:=(Int×(List (Int×Int×Unit))×Unit)×List (List Int)×Bool×List (List Int)×Int×Unit
abbrev q62q_l6_O:=((Int×(List (Int×Int×Unit))×Unit)×Bool×List (List Int)×Unit)⊕Empty
def q62q_l6_h:Form:=[(1,.box K_PiSPiiqq 0),(3,.own K_SSi 100),(7,.v .bool),(8,.own K_SSi 100),(9,.v I)]
def q62q_l6_o:Outs:=[(.normal,[(1,.box K_PiSPiiqq 0),(7,.v .bool),(8,.own K_SSi 100)])]
noncomputable def q62q_l6_r (N:Nat) (back:q62q_l6_H->Option q62q_l6_O) (d:q62q_l6_H):Option q62q_l6_O:=
 let s1:=d.1
 let s3:=d.2.1
 let s7:=d.2.2.1
 let s8:=d.2.2.2.1
 let s9:=d.2.2.2.2.1
 if (decide (s9<s1.1))=true then
  if (idxIn s9 (List.length s3))=true then
  ((F_spec_l1Own 0) (at_ K_Si s3 s9.toNat,())).bind fun r41=>
  (q62q_l8 N N ((s1,(s3,(s7,(s8,(s9,(r41.1,((0:Int),()))))))))).bind fun o47=>match o47 with
  | .inl d48=>
   if (decide (List.length d48.2.2.2.1+List.length ([d48.2.2.2.2.2.1])<=lim))=true then
   let x49:=d48.2.2.2.1++([d48.2.2.2.2.2.1])
   let x50:=IntKind.wrap .i64 (d48.2.2.2.2.1+(1:Int))
   back ((d48.1,(d48.2.1,(d48.2.2.1,(x49,(x50,()))))))
   else none
  else none
 else
  some (.inl ((s1,(s7,(s8,())))))
noncomputable def q62q_l6 (N:Nat):Nat->q62q_l6_H->Option q62q_l6_O
 | 0,_=>none
 | k+1,d=>q62q_l6_r N (q62q_l6 N k) d
abbrev q62q_l4_H:=(Int×(List (Int×Int×Unit))×Unit)×List (List Int)×Bool×Unit
abbrev q62q_l4_O:=(List (List Int)×Unit)⊕Empty
def q62q_l4_h:Form:=[(1,.box K_PiSPiiqq 0),(3,.own K_SSi 100),(7,.v .bool)]
def q62q_l4_o:Outs:=[(.normal,[(3,.own K_SSi 100)])]
noncomputable def q62q_l4_r (N:Nat) (back:q62q_l4_H->Option q62q_l4_O) (d:q62q_l4_H):Option q62q_l4_O:=
 let s1:=d.1
 let s3:=d.2.1
 let s7:=d.2.2.1
 if (s7)=true then
  (q62q_l6 N N ((s1,(s3,(false,(([]:List (List Int)),((0:Int),()))))))).bind fun o39=>match o39 with
  | .inl d40=>
   back ((d40.1,(d40.2.2.1,(d40.2.1,()))))
 else
  some (.inl (s3,()))
noncomputable def q62q_l4 (N:Nat):Nat->q62q_l4_H->Option q62q_l4_O
 | 0,_=>none
 | k+1,d=>q62q_l4_r N (q62q_l4 N k) d
noncomputable def F_q62q (N:Nat) (d:(Int×(List (Int×Int×Unit))×Unit)×Unit):Option (List (List Int)×Unit):=
 let a0:=d.1
 (q62q_l0 N N ((a0,(([]:List (List Int)),((0:Int),()))))).bind fun o6=>match o6 with
 | .inl d7=>
  (q62q_l4 N N ((d7.1,(d7.2.1,(true,()))))).bind fun o20=>match o20 with
  | .inl d21=>
   some (d21.1,())
noncomputable def S_q62q:FSig:=⟨[(K_PiSPiiqq,false)],[K_SSi],true,(G_l3Times)⟩
noncomputable def Γ_q78q:Ctx:={ tk:=assoc tks,ar:=assoc ars,fs:=assoc [(133,S_q86q),(161,S_q70q)] }
abbrev q78q_l0_H:=List (List Int)×Int×Int×(Int×(List (Int×Int×Unit))×Unit)×List Int×Int×Unit
abbrev q78q_l0_O:=(List Int×Int×Unit)⊕Empty
def q78q_l0_h:Form:=[(1,.v K_SSi),(2,.v I),(3,.v I),(4,.box K_PiSPiiqq 0),(9,.own K_Si 99),(10,.v I)]
def q78q_l0_o:Outs:=[(.normal,[(9,.own K_Si 99),(10,.v I)])]
noncomputable def q78q_l0_r (N:Nat) (back:q78q_l0_H->Option q78q_l0_O) (d:q78q_l0_H):Option q78q_l0_O:=
 let s1:=d.1
 let s2:=d.2.1
 let s3:=d.2.2.1
 let s4:=d.2.2.2.1
 let s9:=d.2.2.2.2.1
 let s10:=d.2.2.2.2.2.1
 if (idxIn s10 (List.length s9))=true then
 ((F_q70q 0) ((s4,(s1,(at_ I s9 s10.toNat,(s3,())))))).bind fun r7=>
 if (idxIn s2 (List.length s1))=true then
 if (idxIn s3 (List.length (at_ K_Si s1 s2.toNat)))=true then
 let x8:=IntKind.wrap .i64 (at_ I (at_ K_Si s1 s2.toNat) s3.toNat-(1:Int))
 if (r7.1 != x8)=true then
  let x9:=IntKind.wrap .i64 (s10+(1:Int))
  back ((s1,(s2,(s3,(s4,(s9,(x9,())))))))
 else
  some (.inl ((s9,(s10,()))))
 else none
 else none
 else none
noncomputable def q78q_l0 (N:Nat):Nat->q78q_l0_H->Option q78q_l0_O
 | 0,_=>none
 | k+1,d=>q78q_l0_r N (q78q_l0 N k) d
noncomputable def F_q78q (N:Nat) (d:(Int×(List (Int×Int×Unit))×Unit)×List (List Int)×Int×Int×Unit):Option (Int×Unit):=
 let a0:=d.1
 let a1:=d.2.1
 let a2:=d.2.2.1
 let a3:=d.2.2.2.1
 ((F_q86q 0) ((a0,(a2,())))).bind fun r1=>
 (q78q_l0 N N ((a1,(a2,(a3,(a0,(r1.1,((0:Int),())))))))).bind fun o5=>match o5 with
 | .inl d6=>
  if (idxIn d6.2.1 (List.length d6.1))=true then
  some (at_ I d6.1 d6.2.1.toNat,())
  else none
noncomputable def S_q78q:FSig:=⟨[(K_PiSPiiqq,false),(K_SSi,false),(I,false),(I,false)],[I],true,(G_l3Chase)⟩
noncomputable def Γ_q83q:Ctx:={ tk:=assoc tks,ar:=assoc ars,fs:=assoc [(106,S_q62q),(114,S_spec_l3Two),(162,S_q78q)] }
noncomputable def F_q83q (N:Nat) (d:(Int×(List (Int×Int×Unit))×Unit)×Int×Int×Unit):Option (Int×Bool×Unit):=
 let a0:=d.1
 let a1:=d.2.1
 let a2:=d.2.2.1
 ((F_spec_l3Two 0) ((a0,(a1,(a2,()))))).bind fun r1=>
 if (!r1.1)=true then
  some (((0:Int),(false,())))
 else
  (G_l3Times (a0,())).bind fun r2=>
  if (idxIn a1 (List.length r2.1))=true then
  if (idxIn a2 (List.length (at_ K_Si r2.1 a1.toNat)))=true then
  if (decide (at_ I (at_ K_Si r2.1 a1.toNat) a2.toNat<(1:Int)))=true then
   some (((0:Int),(false,())))
  else
   (G_l3Chase ((a0,(r2.1,(a1,(a2,())))))).bind fun r3=>
   some ((r3.1,(true,())))
  else none
  else none
noncomputable def S_q83q:FSig:=⟨[(K_PiSPiiqq,false),(I,false),(I,false)],[I,.bool],true,(F_q83q 0)⟩
noncomputable def Γ_q98q:Ctx:={ tk:=assoc tks,ar:=assoc ars,fs:=assoc [(133,S_q86q)] }
abbrev q98q_l0_H:=List (List Int)×Int×List Int×Int×Int×Unit
abbrev q98q_l0_O:=(Int×Unit)⊕(Int×Unit)⊕Empty
def q98q_l0_h:Form:=[(1,.v K_SSi),(2,.v I),(9,.own K_Si 99),(10,.v I),(11,.v I)]
def q98q_l0_o:Outs:=[(.ret,[(8,.v I)]),(.normal,[(10,.v I)])]
noncomputable def q98q_l0_r (N:Nat) (back:q98q_l0_H->Option q98q_l0_O) (d:q98q_l0_H):Option q98q_l0_O:=
 let s1:=d.1
 let s2:=d.2.1
 let s9:=d.2.2.1
 let s10:=d.2.2.2.1
 let s11:=d.2.2.2.2.1
 if (decide (s11<(List.length s9:Int)))=true then
  if (idxIn s2 (List.length s1))=true then
  if (idxIn s11 (List.length s9))=true then
  if (idxIn (at_ I s9 s11.toNat) (List.length (at_ K_Si s1 s2.toNat)))=true then
  if (decide (at_ I (at_ K_Si s1 s2.toNat) (at_ I s9 s11.toNat).toNat<(0:Int)))=true then
   if (idxIn s11 (List.length s9))=true then
   some (.inl (at_ I s9 s11.toNat,()))
   else none
  else
   if (idxIn s2 (List.length s1))=true then
   if (idxIn s11 (List.length s9))=true then
   if (idxIn (at_ I s9 s11.toNat) (List.length (at_ K_Si s1 s2.toNat)))=true then
   if (idxIn s2 (List.length s1))=true then
   if (idxIn s10 (List.length (at_ K_Si s1 s2.toNat)))=true then
   if (decide (at_ I (at_ K_Si s1 s2.toNat) (at_ I s9 s11.toNat).toNat>at_ I (at_ K_Si s1 s2.toNat) s10.toNat))=true then
    if (idxIn s11 (List.length s9))=true then
    let x7:=IntKind.wrap .i64 (s11+(1:Int))
    back ((s1,(s2,(s9,(at_ I s9 s11.toNat,(x7,()))))))
    else none
   else
    let x8:=IntKind.wrap .i64 (s11+(1:Int))
    back ((s1,(s2,(s9,(s10,(x8,()))))))
   else none
   else none
   else none
   else none
   else none
  else none
  else none
  else none
 else
  some (.inr (.inl (s10,())))
noncomputable def q98q_l0 (N:Nat):Nat->q98q_l0_H->Option q98q_l0_O
 | 0,_=>none
 | k+1,d=>q98q_l0_r N (q98q_l0 N k) d
noncomputable def F_q98q (N:Nat) (d:(Int×(List (Int×Int×Unit))×Unit)×List (List Int)×Int×Int×Unit):Option (Int×Unit):=
 let a0:=d.1
 let a1:=d.2.1
 let a2:=d.2.2.1
 let a3:=d.2.2.2.1
 ((F_q86q 0) ((a0,(a3,())))).bind fun r1=>
 if (idxIn (0:Int) (List.length r1.1))=true then
 (q98q_l0 N N ((a1,(a2,(r1.1,(at_ I r1.1 (0:Int).toNat,((0:Int),()))))))).bind fun o4=>match o4 with
 | .inl d5=>
  some (d5.1,())
 | .inr (.inl d6)=>
  some (d6.1,())
 else none
noncomputable def S_q98q:FSig:=⟨[(K_PiSPiiqq,false),(K_SSi,false),(I,false),(I,false)],[I],true,(G_l3Flee)⟩
noncomputable def Γ_q35q:Ctx:={ tk:=assoc tks,ar:=assoc ars,fs:=assoc [(106,S_q62q),(114,S_spec_l3Two),(163,S_q98q)] }
noncomputable def F_q35q (N:Nat) (d:(Int×(List (Int×Int×Unit))×Unit)×Int×Int×Unit):Option (Int×Bool×Unit):=
 let a0:=d.1
 let a1:=d.2.1
 let a2:=d.2.2.1
 ((F_spec_l3Two 0) ((a0,(a1,(a2,()))))).bind fun r1=>
 if (!r1.1)=true then
  some (((0:Int),(false,())))
 else
  if (a1==a2)=true then
   some (((0:Int),(false,())))
  else
   (G_l3Times (a0,())).bind fun r2=>
   (G_l3Flee ((a0,(r2.1,(a1,(a2,())))))).bind fun r3=>
   some ((r3.1,(true,())))
noncomputable def S_q35q:FSig:=⟨[(K_PiSPiiqq,false),(I,false),(I,false)],[I,.bool],true,(F_q35q 0)⟩
noncomputable def Γ_q68q:Ctx:={ tk:=assoc tks,ar:=assoc ars,fs:=assoc [(55,S_q88q),(146,S_q83q),(147,S_q35q)] }
noncomputable def F_q68q (N:Nat) (d:((Int×(List (Int×Int×Unit))×Unit)×Int×Int×List Int×Int×Unit)×Unit):Option (((Int×(List (Int×Int×Unit))×Unit)×Int×Int×List Int×Int×Unit)×Unit):=
 let a0:=d.1
 ((F_q88q 0) (a0,())).bind fun r1=>
 ((F_q83q 0) ((a0.1,(a0.2.1,(a0.2.2.1,()))))).bind fun r2=>
 if (r2.2.1)=true then
  ((F_q35q 0) ((a0.1,(r2.1,(a0.2.2.1,()))))).bind fun r3=>
  if (r3.2.1)=true then
   some (((r1.1.1,(r2.1,(r3.1,r1.1.2.2.2))),()))
  else
   some (((r1.1.1,(r2.1,r1.1.2.2)),()))
 else
  ((F_q35q 0) ((a0.1,(r1.1.2.1,(a0.2.2.1,()))))).bind fun r4=>
  if (r4.2.1)=true then
   some (((r1.1.1,(r1.1.2.1,(r4.1,r1.1.2.2.2))),()))
  else
   some (r1.1,())
noncomputable def S_q68q:FSig:=⟨[(K_PPiSPiiqqiiSiiq,false)],[K_PPiSPiiqqiiSiiq],true,(F_q68q 0)⟩
noncomputable def Γ_q72q:Ctx:={ tk:=assoc tks,ar:=assoc ars,fs:=assoc [(120,S_spec_l1Has),(152,S_q23q)] }
abbrev q72q_l0_H:=List Int×List Int×List Int×Int×Unit
abbrev q72q_l0_O:=(List Int×Unit)⊕Empty
def q72q_l0_h:Form:=[(1,.v K_Si),(7,.own K_Si 99),(8,.own K_Si 99),(9,.v I)]
def q72q_l0_o:Outs:=[(.normal,[(7,.own K_Si 99)])]
noncomputable def q72q_l0_r (N:Nat) (back:q72q_l0_H->Option q72q_l0_O) (d:q72q_l0_H):Option q72q_l0_O:=
 let s1:=d.1
 let s7:=d.2.1
 let s8:=d.2.2.1
 let s9:=d.2.2.2.1
 if (decide (s9<(List.length s8:Int)))=true then
  if (idxIn s9 (List.length s8))=true then
  (G_l1Has ((s1,(at_ I s8 s9.toNat,())))).bind fun r7=>
  if (!r7.1)=true then
   if (idxIn s9 (List.length s8))=true then
   if (decide (List.length s7+List.length ([at_ I s8 s9.toNat])<=lim))=true then
   let x8:=IntKind.wrap .i64 (s9+(1:Int))
   back ((s1,(s7++([at_ I s8 s9.toNat]),(s8,(x8,())))))
   else none
   else none
  else
   let x9:=IntKind.wrap .i64 (s9+(1:Int))
   back ((s1,(s7,(s8,(x9,())))))
  else none
 else
  some (.inl (s7,()))
noncomputable def q72q_l0 (N:Nat):Nat->q72q_l0_H->Option q72q_l0_O
 | 0,_=>none
 | k+1,d=>q72q_l0_r N (q72q_l0 N k) d
noncomputable def F_q72q (N:Nat) (d:(Int×(List (Int×Int×Unit))×Unit)×List Int×Int×Unit):Option (List Int×Unit):=
 let a0:=d.1
 let a1:=d.2.1
 let a2:=d.2.2.1
 (G_l2Neighbors ((a0,(a2,())))).bind fun r1=>
 (q72q_l0 N N ((a1,(([]:List Int),(r1.1,((0:Int),())))))).bind fun o5=>match o5 with
 | .inl d6=>
  some (d6.1,())
noncomputable def S_q72q:FSig:=⟨[(K_PiSPiiqq,false),(K_Si,false),(I,false)],[K_Si],true,(G_l5Among)⟩
noncomputable def Γ_q93q:Ctx:={ tk:=assoc tks,ar:=assoc ars,fs:=assoc [(164,S_q72q)] }
noncomputable def F_q93q (N:Nat) (d:(Int×(List (Int×Int×Unit))×Unit)×List Int×Int×Unit):Option (List Int×Unit):=
 let a0:=d.1
 let a1:=d.2.1
 let a2:=d.2.2.1
 (G_l5Among ((a0,(a1,(a2,()))))).bind fun r1=>
 some (r1.1,())
noncomputable def S_q93q:FSig:=⟨[(K_PiSPiiqq,false),(K_Si,false),(I,false)],[K_Si],true,(F_q93q 0)⟩
noncomputable def Γ_q104q:Ctx:={ tk:=assoc tks,ar:=assoc ars,fs:=assoc [(91,S_spec_l1Own),(120,S_spec_l1Has),(148,S_q93q)],cs:=assoc [],gs:=assoc [(122,(S_q79q,{ gone:=[0],deep:=[] }))],eqt:=inL [],md:=md0 }
abbrev q104q_l0_H:=List Int×Bool×(Int×(List (Int×Int×Unit))×Unit)×List Int×Int×Unit
abbrev q104q_l0_O:=(List Int×Unit)⊕Empty
def q104q_l0_h:Form:=[(1,.v K_Si),(2,.v .bool),(3,.box K_PiSPiiqq 0),(7,.own K_Si 99),(8,.v I)]
def q104q_l0_o:Outs:=[(.normal,[(7,.own K_Si 99)])]
noncomputable def q104q_l0_r (N:Nat) (back:q104q_l0_H->Option q104q_l0_O) (d:q104q_l0_H):Option q104q_l0_O:=
 let s1:=d.1
 let s2:=d.2.1
 let s3:=d.2.2.1
 let s7:=d.2.2.2.1
 let s8:=d.2.2.2.2.1
 if (decide (s8<s3.1))=true then
  ((F_q93q 0) ((s3,(s1,(s8,()))))).bind fun r12=>
  if ((List.length r12.1:Int)==(1:Int))=true then
   if (s2)=true then
    if (idxIn (0:Int) (List.length r12.1))=true then
    (G_l1PutW ((s7,(at_ I r12.1 (0:Int).toNat,())))).bind fun r13=>
    let x14:=IntKind.wrap .i64 (s8+(1:Int))
    back ((s1,(s2,(s3,(r13.1,(x14,()))))))
    else none
   else
    (G_l1Has ((s1,(s8,())))).bind fun r15=>
    if (r15.1)=true then
     if (idxIn (0:Int) (List.length r12.1))=true then
     (G_l1PutW ((s7,(at_ I r12.1 (0:Int).toNat,())))).bind fun r16=>
     let x17:=IntKind.wrap .i64 (s8+(1:Int))
     back ((s1,(s2,(s3,(r16.1,(x17,()))))))
     else none
    else
     let x18:=IntKind.wrap .i64 (s8+(1:Int))
     back ((s1,(s2,(s3,(s7,(x18,()))))))
  else
   let x19:=IntKind.wrap .i64 (s8+(1:Int))
   back ((s1,(s2,(s3,(s7,(x19,()))))))
 else
  some (.inl (s7,()))
noncomputable def q104q_l0 (N:Nat):Nat->q104q_l0_H->Option q104q_l0_O
 | 0,_=>none
 | k+1,d=>q104q_l0_r N (q104q_l0 N k) d
noncomputable def F_q104q (N:Nat) (d:(Int×(List (Int×Int×Unit))×Unit)×List Int×Bool×Unit):Option (List Int×Unit):=
 let a0:=d.1
 let a1:=d.2.1
 let a2:=d.2.2.1
 ((F_spec_l1Own 0) (a1,())).bind fun r1=>
 (q104q_l0 N N ((a1,(a2,(a0,(r1.1,((0:Int),()))))))).bind fun o10=>match o10 with
 | .inl d11=>
  some (d11.1,())
noncomputable def S_q104q:FSig:=⟨[(K_PiSPiiqq,false),(K_Si,false),(.bool,false)],[K_Si],true,(G_l9Once)⟩
noncomputable def Γ_q90q:Ctx:={ tk:=assoc tks,ar:=assoc ars,fs:=assoc [(120,S_spec_l1Has)] }
abbrev q90q_l0_H:=List Int×(Int×(List (Int×Int×Unit))×Unit)×List Int×Int×Unit
abbrev q90q_l0_O:=(List Int×Unit)⊕Empty
def q90q_l0_h:Form:=[(1,.v K_Si),(2,.box K_PiSPiiqq 0),(5,.own K_Si 99),(6,.v I)]
def q90q_l0_o:Outs:=[(.normal,[(5,.own K_Si 99)])]
noncomputable def q90q_l0_r (N:Nat) (back:q90q_l0_H->Option q90q_l0_O) (d:q90q_l0_H):Option q90q_l0_O:=
 let s1:=d.1
 let s2:=d.2.1
 let s5:=d.2.2.1
 let s6:=d.2.2.2.1
 if (decide (s6<s2.1))=true then
  (G_l1Has ((s1,(s6,())))).bind fun r6=>
  if (!r6.1)=true then
   if (decide (List.length s5+List.length ([s6])<=lim))=true then
   let x7:=IntKind.wrap .i64 (s6+(1:Int))
   back ((s1,(s2,(s5++([s6]),(x7,())))))
   else none
  else
   let x8:=IntKind.wrap .i64 (s6+(1:Int))
   back ((s1,(s2,(s5,(x8,())))))
 else
  some (.inl (s5,()))
noncomputable def q90q_l0 (N:Nat):Nat->q90q_l0_H->Option q90q_l0_O
 | 0,_=>none
 | k+1,d=>q90q_l0_r N (q90q_l0 N k) d
noncomputable def F_q90q (N:Nat) (d:(Int×(List (Int×Int×Unit))×Unit)×List Int×Unit):Option (List Int×Unit):=
 let a0:=d.1
 let a1:=d.2.1
 (q90q_l0 N N ((a1,(a0,(([]:List Int),((0:Int),())))))).bind fun o4=>match o4 with
 | .inl d5=>
  some (d5.1,())
noncomputable def S_q90q:FSig:=⟨[(K_PiSPiiqq,false),(K_Si,false)],[K_Si],true,(G_l5Rest)⟩
noncomputable def Γ_q67q:Ctx:={ tk:=assoc tks,ar:=assoc ars,fs:=assoc [] }
abbrev q67q_l0_H:=List Int×Int×Int×Unit
abbrev q67q_l0_O:=(List Int×Int×Int×Unit)⊕Empty
def q67q_l0_h:Form:=[(0,.v K_Si),(1,.v I),(5,.v I)]
def q67q_l0_o:Outs:=[(.normal,[(0,.v K_Si),(1,.v I),(5,.v I)])]
noncomputable def q67q_l0_r (N:Nat) (back:q67q_l0_H->Option q67q_l0_O) (d:q67q_l0_H):Option q67q_l0_O:=
 let s0:=d.1
 let s1:=d.2.1
 let s5:=d.2.2.1
 if (decide (s5<(List.length s0:Int)))=true then
  if (idxIn s5 (List.length s0))=true then
  if (decide (at_ I s0 s5.toNat<s1))=true then
   let x8:=IntKind.wrap .i64 (s5+(1:Int))
   back ((s0,(s1,(x8,()))))
  else
   some (.inl ((s0,(s1,(s5,())))))
  else none
 else
  some (.inl ((s0,(s1,(s5,())))))
noncomputable def q67q_l0 (N:Nat):Nat->q67q_l0_H->Option q67q_l0_O
 | 0,_=>none
 | k+1,d=>q67q_l0_r N (q67q_l0 N k) d
noncomputable def F_q67q (N:Nat) (d:List Int×Int×Unit):Option (List Int×Unit):=
 let a0:=d.1
 let a1:=d.2.1
 (q67q_l0 N N ((a0,(a1,((0:Int),()))))).bind fun o2=>match o2 with
 | .inl d3=>
  if (decide (d3.2.2.1<(List.length d3.1:Int)))=true then
   if (idxIn d3.2.2.1 (List.length d3.1))=true then
   if (at_ I d3.1 d3.2.2.1.toNat==d3.2.1)=true then
    none
   else
    if ((decide (0<=(0:Int))&&decide ((0:Int)<=d3.2.2.1)&&decide (d3.2.2.1<=(List.length d3.1:Int))))=true then
    if (decide (List.length ([]:List Int)+List.length (sub_ d3.1 (0:Int) d3.2.2.1)<=lim))=true then
    let x4:=([]:List Int)++(sub_ d3.1 (0:Int) d3.2.2.1)
    if (decide (List.length x4+List.length ([d3.2.1])<=lim))=true then
    if ((decide (0<=d3.2.2.1)&&decide (d3.2.2.1<=(List.length d3.1:Int))&&decide ((List.length d3.1:Int)<=(List.length d3.1:Int))))=true then
    let x5:=sub_ d3.1 d3.2.2.1 (List.length d3.1:Int)
    if (decide (List.length (x4++([d3.2.1]))+List.length x5<=lim))=true then
    some (((x4++([d3.2.1]))++x5,()))
    else none
    else none
    else none
    else none
    else none
   else none
  else
   if ((decide (0<=(0:Int))&&decide ((0:Int)<=d3.2.2.1)&&decide (d3.2.2.1<=(List.length d3.1:Int))))=true then
   if (decide (List.length ([]:List Int)+List.length (sub_ d3.1 (0:Int) d3.2.2.1)<=lim))=true then
   let x6:=([]:List Int)++(sub_ d3.1 (0:Int) d3.2.2.1)
   if (decide (List.length x6+List.length ([d3.2.1])<=lim))=true then
   if ((decide (0<=d3.2.2.1)&&decide (d3.2.2.1<=(List.length d3.1:Int))&&decide ((List.length d3.1:Int)<=(List.length d3.1:Int))))=true then
   let x7:=sub_ d3.1 d3.2.2.1 (List.length d3.1:Int)
   if (decide (List.length (x6++([d3.2.1]))+List.length x7<=lim))=true then
   some (((x6++([d3.2.1]))++x7,()))
   else none
   else none
   else none
   else none
   else none
noncomputable def S_q67q:FSig:=⟨[(K_Si,false),(I,false)],[K_Si],true,(G_l1PutN)⟩
noncomputable def Γ_q73q:Ctx:={ tk:=assoc tks,ar:=assoc ars,fs:=assoc [(55,S_q88q),(117,S_q65q),(118,S_q39q),(119,S_q68q),(120,S_spec_l1Has),(121,S_q48q),(122,S_q67q),(123,S_q104q),(124,S_q90q)] }
noncomputable def F_q73q (N:Nat) (d:((Int×(List (Int×Int×Unit))×Unit)×Int×Int×List Int×Int×Unit)×(Int×Int×Int×Unit)×Unit):Option (((Int×(List (Int×Int×Unit))×Unit)×Int×Int×List Int×Int×Unit)×Unit):=
 let a0:=d.1
 let a1:=d.2.1
 ((F_q88q 0) (a0,())).bind fun r1=>
 if (a1.1==(1:Int))=true then
  let x2:=IntKind.wrap .i64 (r1.1.1.1+(1:Int))
  some ((((x2,r1.1.1.2),r1.1.2),()))
 else
  if (a1.1==(2:Int))=true then
   (G_l12Drop ((a0,(a1.2.1,())))).bind fun r3=>
   some (r3.1,())
  else
   if (a1.1==(3:Int))=true then
    (G_ToggleEdge ((a0.1,(a1.2.1,(a1.2.2.1,()))))).bind fun r4=>
    some ((r4.1,r1.1.2),())
   else
    if (a1.1==(4:Int))=true then
     some (((r1.1.1,(a1.2.1,r1.1.2.2)),()))
    else
     if (a1.1==(5:Int))=true then
      some (((r1.1.1,(r1.1.2.1,(a1.2.1,r1.1.2.2.2))),()))
     else
      if (a1.1==(6:Int))=true then
       some (((r1.1.1,(a1.2.1,(a1.2.2.1,r1.1.2.2.2))),()))
      else
       if (a1.1==(7:Int))=true then
        ((F_q68q 0) (a0,())).bind fun r5=>
        some (r5.1,())
       else
        if (a1.1==(8:Int))=true then
         (G_l1Has ((a0.2.2.2.1,(a1.2.1,())))).bind fun r6=>
         if (r6.1)=true then
          (G_l2Without ((a0.2.2.2.1,(a1.2.1,())))).bind fun r7=>
          some (((r1.1.1,(r1.1.2.1,(r1.1.2.2.1,(r7.1,r1.1.2.2.2.2)))),()))
         else
          (G_l1PutN ((a0.2.2.2.1,(a1.2.1,())))).bind fun r8=>
          some (((r1.1.1,(r1.1.2.1,(r1.1.2.2.1,(r8.1,r1.1.2.2.2.2)))),()))
        else
         if (a1.1==(9:Int))=true then
          (G_l9Once ((a0.1,(a0.2.2.2.1,(false,()))))).bind fun r9=>
          some (((r1.1.1,(r1.1.2.1,(r1.1.2.2.1,(r9.1,r1.1.2.2.2.2)))),()))
         else
          if (a1.1==(10:Int))=true then
           (G_l5Rest ((a0.1,(a0.2.2.2.1,())))).bind fun r10=>
           some (((r1.1.1,(r1.1.2.1,(r1.1.2.2.1,(r10.1,r1.1.2.2.2.2)))),()))
          else
           some (r1.1,())
noncomputable def S_q73q:FSig:=⟨[(K_PPiSPiiqqiiSiiq,false),(K_Piiiq,false)],[K_PPiSPiiqqiiSiiq],true,(F_q73q 0)⟩
noncomputable def Γ_spec_l12Do:Ctx:={ tk:=assoc tks,ar:=assoc ars,fs:=assoc [(44,S_q75q),(79,S_q101q),(80,S_q73q)] }
noncomputable def F_spec_l12Do (N:Nat) (d:((Int×(List (Int×Int×Unit))×Unit)×Int×Int×List Int×Int×Unit)×(Int×Int×Int×Unit)×Unit):Option (((Int×(List (Int×Int×Unit))×Unit)×Int×Int×List Int×Int×Unit)×Bool×Unit):=
 let a0:=d.1
 let a1:=d.2.1
 ((F_q101q 0) ((a0,(a1,())))).bind fun r1=>
 if (!r1.1)=true then
  some (((((0:Int),(([]:List (Int×Int×Unit)),())),((0:Int),((0:Int),(([]:List Int),((0:Int),()))))),(false,())))
 else
  ((F_q73q 0) ((a0,(a1,())))).bind fun r2=>
  let x3:=IntKind.wrap .i64 (a0.2.2.2.2.1+(1:Int))
  ((F_q75q 0) (((r2.1.1,(r2.1.2.1,(r2.1.2.2.1,(r2.1.2.2.2.1,(x3,r2.1.2.2.2.2.2))))),()))).bind fun r4=>
  if (!r4.1)=true then
   some (((((0:Int),(([]:List (Int×Int×Unit)),())),((0:Int),((0:Int),(([]:List Int),((0:Int),()))))),(false,())))
  else
   some (((r2.1.1,(r2.1.2.1,(r2.1.2.2.1,(r2.1.2.2.2.1,(x3,r2.1.2.2.2.2.2))))),(true,())))
noncomputable def S_spec_l12Do:FSig:=⟨[(K_PPiSPiiqqiiSiiq,false),(K_Piiiq,false)],[K_PPiSPiiqqiiSiiq,.bool],true,(G_do)⟩
noncomputable def S_q45q:FSig:=⟨[(K_PPiZPiiqqiiSiiq,false)],[.bool],true,(F_q75q 0)⟩
noncomputable def S_q81q:FSig:=⟨[(K_PPiZPiiqqiiSiiq,false),(K_Piiiq,false)],[K_PPiZPiiqqiiSiiq,.bool],true,G_do⟩
def tksLz:List (Nat×Kd):=[(3,I),(4,.bool),(5,(.int .u8)),(22,K_SPiiq),(25,K_Si),(31,K_PiSPiiqq),(33,K_PPiZPiiqqiiSiiq),(37,K_Piiiq),(44,K_Su8),(62,K_SSi),(67,K_Piiq),(81,(.int .u64)),(83,K_PSu8iu64q),(138,(.int .u64))]
def arsLz:List (Nat×Nat):=[(67,3)]
noncomputable def Γ_q11q:Ctx:={ tk:=assoc tksLz,ar:=assoc arsLz,fs:=assoc [(44,S_q45q),(57,S_q17q),(61,S_q16q),(62,S_q37q),(75,S_q94q),(93,S_q50q),(97,S_q95q),(98,S_q21q)],lent:=fun t=>Nat.beq t 0,cs:=assoc [],gs:=assoc [(45,(S_q81q,{ fr:=true }))],eqt:=inL [],md:=md0,mv:=fun t=>Nat.beq t 64 }
abbrev q11q_l0_H:=(List Int×Int×Int×Unit)×((Int×(List (Int×Int×Unit))×Unit)×Int×Int×List Int×Int×Unit)×((Int×(List (Int×Int×Unit))×Unit)×Int×Int×List Int×Int×Unit)×Int×Unit
abbrev q11q_l0_O:=((List Int×Int×Int×Unit)×((Int×(List (Int×Int×Unit))×Unit)×Int×Int×List Int×Int×Unit)×((Int×(List (Int×Int×Unit))×Unit)×Int×Int×List Int×Int×Unit)×Unit)⊕Empty
def q11q_l0_h:Form:=[(0,.box K_PSu8iu64q 0),(2,.box K_PPiZPiiqqiiSiiq 99),(4,.box K_PPiZPiiqqiiSiiq 99),(5,.v I)]
def q11q_l0_o:Outs:=[(.normal,[(0,.box K_PSu8iu64q 0),(2,.box K_PPiZPiiqqiiSiiq 99),(4,.box K_PPiZPiiqqiiSiiq 99)])]
noncomputable def q11q_l0_r (N:Nat) (back:q11q_l0_H->Option q11q_l0_O) (d:q11q_l0_H):Option q11q_l0_O:=
 let s0:=d.1
 let s2:=d.2.1
 let s4:=d.2.2.1
 let s5:=d.2.2.2.1
 if (decide (s5>(0:Int)))=true then
  ((F_q75q 0) (s4,())).bind fun r49=>
  if (r49.1)=true then
   ((F_q16q 0) ((s0,(s4.1,())))).bind fun r50=>
   (G_do ((s4,(r50.1,())))).bind fun r51=>
   if (r51.2.1)=true then
    let x52:=IntKind.wrap .i64 (s5-(1:Int))
    back ((r50.2.1,(s2,(r51.1,(x52,())))))
   else
    let x53:=IntKind.wrap .i64 (s5-(1:Int))
    back ((r50.2.1,(s2,(s4,(x53,())))))
  else
   some (.inl ((s0,(s2,(s4,())))))
 else
  some (.inl ((s0,(s2,(s4,())))))
noncomputable def q11q_l0 (N:Nat):Nat->q11q_l0_H->Option q11q_l0_O
 | 0,_=>none
 | k+1,d=>q11q_l0_r N (q11q_l0 N k) d
noncomputable def F_q11q (N:Nat) (d:(List Int×Int×Int×Unit)×Unit):Option (((Int×(List (Int×Int×Unit))×Unit)×Int×Int×List Int×Int×Unit)×(List Int×Int×Int×Unit)×Unit):=
 let a0:=d.1
 ((F_q17q 0) (a0,())).bind fun r1=>
 (G_graph (r1.1,())).bind fun r2=>
 if (r2.1)=true then
  if (decide (r1.1.1>(0:Int)))=true then
   ((F_q50q 0) ((r1.2.1,((4:Int),())))).bind fun r3=>
   if (!r3.1)=true then
    ((F_q37q 0) ((r3.2.1,(r1.1.1,())))).bind fun r4=>
    ((F_q37q 0) ((r4.2.1,(r1.1.1,())))).bind fun r5=>
    if (decide (0<=r1.1.1))=true then
    ((F_q37q 0) ((r5.2.1,(shl .i64 (1:Int) r1.1.1,())))).bind fun r6=>
    (G_l2Bits ((r1.1.1,(r6.1,())))).bind fun r7=>
    ((F_q37q 0) ((r6.2.1,((4:Int),())))).bind fun r8=>
    (q11q_l0 N N ((r8.2.1,((((0:Int),(([]:List (Int×Int×Unit)),())),((0:Int),((0:Int),(([]:List Int),((0:Int),()))))),((r1.1,(r4.1,(r5.1,(r7.1,((0:Int),()))))),(r8.1,())))))).bind fun o14=>match o14 with
    | .inl d15=>
     ((F_q37q 0) ((d15.1,((48:Int),())))).bind fun r16=>
     if (r16.1==(0:Int))=true then
      ((F_q21q 0) ((r16.2.1,([(-1:Int),(1000:Int),(1001:Int)],())))).bind fun r17=>
      some (((d15.2.2.1.1,(d15.2.2.1.2.1,(d15.2.2.1.2.2.1,(d15.2.2.1.2.2.2.1,(r17.1,d15.2.2.1.2.2.2.2.2))))),(r17.2.1,())))
     else
      if (r16.1==(1:Int))=true then
       ((F_q21q 0) ((r16.2.1,([(-2:Int),(8:Int)],())))).bind fun r18=>
       some (((d15.2.2.1.1,(r18.1,d15.2.2.1.2.2)),(r18.2.1,())))
      else
       if (r16.1==(2:Int))=true then
        ((F_q21q 0) ((r16.2.1,([(-2:Int),(8:Int)],())))).bind fun r19=>
        some (((d15.2.2.1.1,(d15.2.2.1.2.1,(r19.1,d15.2.2.1.2.2.2))),(r19.2.1,())))
       else
        if (r16.1==(3:Int))=true then
         ((F_q21q 0) ((r16.2.1,([(0:Int),(-1:Int),(8:Int)],())))).bind fun r20=>
         if (decide (List.length d15.2.2.1.2.2.2.1+List.length ([r20.1])<=lim))=true then
         let x21:=d15.2.2.1.2.2.2.1++([r20.1])
         some (((d15.2.2.1.1,(d15.2.2.1.2.1,(d15.2.2.1.2.2.1,(x21,d15.2.2.1.2.2.2.2)))),(r20.2.1,())))
         else none
        else
         some ((d15.2.2.1,(r16.2.1,())))
    else none
   else
    ((F_q37q 0) ((r3.2.1,((4:Int),())))).bind fun r22=>
    (q11q_l0 N N ((r22.2.1,((((0:Int),(([]:List (Int×Int×Unit)),())),((0:Int),((0:Int),(([]:List Int),((0:Int),()))))),((r1.1,((-1:Int),((-1:Int),(([]:List Int),((0:Int),()))))),(r22.1,())))))).bind fun o23=>match o23 with
    | .inl d24=>
     ((F_q37q 0) ((d24.1,((48:Int),())))).bind fun r25=>
     if (r25.1==(0:Int))=true then
      ((F_q21q 0) ((r25.2.1,([(-1:Int),(1000:Int),(1001:Int)],())))).bind fun r26=>
      some (((d24.2.2.1.1,(d24.2.2.1.2.1,(d24.2.2.1.2.2.1,(d24.2.2.1.2.2.2.1,(r26.1,d24.2.2.1.2.2.2.2.2))))),(r26.2.1,())))
     else
      if (r25.1==(1:Int))=true then
       ((F_q21q 0) ((r25.2.1,([(-2:Int),(8:Int)],())))).bind fun r27=>
       some (((d24.2.2.1.1,(r27.1,d24.2.2.1.2.2)),(r27.2.1,())))
      else
       if (r25.1==(2:Int))=true then
        ((F_q21q 0) ((r25.2.1,([(-2:Int),(8:Int)],())))).bind fun r28=>
        some (((d24.2.2.1.1,(d24.2.2.1.2.1,(r28.1,d24.2.2.1.2.2.2))),(r28.2.1,())))
       else
        if (r25.1==(3:Int))=true then
         ((F_q21q 0) ((r25.2.1,([(0:Int),(-1:Int),(8:Int)],())))).bind fun r29=>
         if (decide (List.length d24.2.2.1.2.2.2.1+List.length ([r29.1])<=lim))=true then
         let x30:=d24.2.2.1.2.2.2.1++([r29.1])
         some (((d24.2.2.1.1,(d24.2.2.1.2.1,(d24.2.2.1.2.2.1,(x30,d24.2.2.1.2.2.2.2)))),(r29.2.1,())))
         else none
        else
         some ((d24.2.2.1,(r25.2.1,())))
  else
   ((F_q37q 0) ((r1.2.1,((4:Int),())))).bind fun r31=>
   (q11q_l0 N N ((r31.2.1,((((0:Int),(([]:List (Int×Int×Unit)),())),((0:Int),((0:Int),(([]:List Int),((0:Int),()))))),((r1.1,((-1:Int),((-1:Int),(([]:List Int),((0:Int),()))))),(r31.1,())))))).bind fun o32=>match o32 with
   | .inl d33=>
    ((F_q37q 0) ((d33.1,((48:Int),())))).bind fun r34=>
    if (r34.1==(0:Int))=true then
     ((F_q21q 0) ((r34.2.1,([(-1:Int),(1000:Int),(1001:Int)],())))).bind fun r35=>
     some (((d33.2.2.1.1,(d33.2.2.1.2.1,(d33.2.2.1.2.2.1,(d33.2.2.1.2.2.2.1,(r35.1,d33.2.2.1.2.2.2.2.2))))),(r35.2.1,())))
    else
     if (r34.1==(1:Int))=true then
      ((F_q21q 0) ((r34.2.1,([(-2:Int),(8:Int)],())))).bind fun r36=>
      some (((d33.2.2.1.1,(r36.1,d33.2.2.1.2.2)),(r36.2.1,())))
     else
      if (r34.1==(2:Int))=true then
       ((F_q21q 0) ((r34.2.1,([(-2:Int),(8:Int)],())))).bind fun r37=>
       some (((d33.2.2.1.1,(d33.2.2.1.2.1,(r37.1,d33.2.2.1.2.2.2))),(r37.2.1,())))
      else
       if (r34.1==(3:Int))=true then
        ((F_q21q 0) ((r34.2.1,([(0:Int),(-1:Int),(8:Int)],())))).bind fun r38=>
        if (decide (List.length d33.2.2.1.2.2.2.1+List.length ([r38.1])<=lim))=true then
        let x39:=d33.2.2.1.2.2.2.1++([r38.1])
        some (((d33.2.2.1.1,(d33.2.2.1.2.1,(d33.2.2.1.2.2.1,(x39,d33.2.2.1.2.2.2.2)))),(r38.2.1,())))
        else none
       else
        some ((d33.2.2.1,(r34.2.1,())))
 else
  ((F_q37q 0) ((r1.2.1,((4:Int),())))).bind fun r40=>
  (q11q_l0 N N ((r40.2.1,((((0:Int),(([]:List (Int×Int×Unit)),())),((0:Int),((0:Int),(([]:List Int),((0:Int),()))))),((r1.1,((-1:Int),((-1:Int),(([]:List Int),((0:Int),()))))),(r40.1,())))))).bind fun o41=>match o41 with
  | .inl d42=>
   ((F_q37q 0) ((d42.1,((48:Int),())))).bind fun r43=>
   if (r43.1==(0:Int))=true then
    ((F_q21q 0) ((r43.2.1,([(-1:Int),(1000:Int),(1001:Int)],())))).bind fun r44=>
    some (((d42.2.2.1.1,(d42.2.2.1.2.1,(d42.2.2.1.2.2.1,(d42.2.2.1.2.2.2.1,(r44.1,d42.2.2.1.2.2.2.2.2))))),(r44.2.1,())))
   else
    if (r43.1==(1:Int))=true then
     ((F_q21q 0) ((r43.2.1,([(-2:Int),(8:Int)],())))).bind fun r45=>
     some (((d42.2.2.1.1,(r45.1,d42.2.2.1.2.2)),(r45.2.1,())))
    else
     if (r43.1==(2:Int))=true then
      ((F_q21q 0) ((r43.2.1,([(-2:Int),(8:Int)],())))).bind fun r46=>
      some (((d42.2.2.1.1,(d42.2.2.1.2.1,(r46.1,d42.2.2.1.2.2.2))),(r46.2.1,())))
     else
      if (r43.1==(3:Int))=true then
       ((F_q21q 0) ((r43.2.1,([(0:Int),(-1:Int),(8:Int)],())))).bind fun r47=>
       if (decide (List.length d42.2.2.1.2.2.2.1+List.length ([r47.1])<=lim))=true then
       let x48:=d42.2.2.1.2.2.2.1++([r47.1])
       some (((d42.2.2.1.1,(d42.2.2.1.2.1,(d42.2.2.1.2.2.1,(x48,d42.2.2.1.2.2.2.2)))),(r47.2.1,())))
       else none
      else
       some ((d42.2.2.1,(r43.2.1,())))
noncomputable def S_q11q:FSig:=⟨[(K_BPSu8iu64q,true)],[K_PPiSPiiqqiiSiiq],false,(pickF F_q11q P_shop)⟩
noncomputable def Γ_q40q:Ctx:={ tk:=assoc tks,ar:=assoc ars,fs:=assoc [(60,S_q11q),(61,S_q16q)] }
noncomputable def F_q40q (N:Nat) (d:List Int×Unit):Option (((Int×(List (Int×Int×Unit))×Unit)×Int×Int×List Int×Int×Unit)×(Int×Int×Int×Unit)×Unit):=
 let a0:=d.1
 ((pickF F_q11q P_shop) (((a0,((0:Int),((0:Int),()))),()))).bind fun r3=>
 ((F_q16q 0) ((r3.2.1,(r3.1.1,())))).bind fun r4=>
 some ((r3.1,(r4.1,())))
noncomputable def S_q40q:FSig:=⟨[(K_Su8,false)],[K_PPiSPiiqqiiSiiq,K_Piiiq],false,(F_q40q 0)⟩
noncomputable def Γ_q49q:Ctx:={ tk:=assoc tks,ar:=assoc ars,fs:=assoc [(64,S_q92q)] }
abbrev q49q_l0_H:=Int×Int×List Int×Int×Int×Unit
abbrev q49q_l0_O:=(Bool×Unit)⊕Unit⊕Empty
def q49q_l0_h:Form:=[(1,.v I),(2,.v I),(9,.v K_Si),(10,.v I),(11,.v I)]
def q49q_l0_o:Outs:=[(.ret,[(6,.v .bool)]),(.normal,[])]
noncomputable def q49q_l0_r (N:Nat) (back:q49q_l0_H->Option q49q_l0_O) (d:q49q_l0_H):Option q49q_l0_O:=
 let s1:=d.1
 let s2:=d.2.1
 let s9:=d.2.2.1
 let s10:=d.2.2.2.1
 let s11:=d.2.2.2.2.1
 if (decide (s11<s10))=true then
  if (idxIn s11 (List.length s9))=true then
  let r6:=g_q92q ((at_ I s9 s11.toNat,(s1,(s2,()))))
  if (!r6.1)=true then
   some (.inl (false,()))
  else
   let x7:=IntKind.wrap .i64 (s11+(1:Int))
   back ((s1,(s2,(s9,(s10,(x7,()))))))
  else none
 else
  some (.inr (.inl ()))
noncomputable def q49q_l0 (N:Nat):Nat->q49q_l0_H->Option q49q_l0_O
 | 0,_=>none
 | k+1,d=>q49q_l0_r N (q49q_l0 N k) d
noncomputable def F_q49q (N:Nat) (d:List Int×Int×Int×Unit):Option (Bool×Unit):=
 let a0:=d.1
 let a1:=d.2.1
 let a2:=d.2.2.1
 (q49q_l0 N N ((a1,(a2,(a0,((List.length a0:Int),((0:Int),()))))))).bind fun o3=>match o3 with
 | .inl d4=>
  some (d4.1,())
 | .inr (.inl d5)=>
  some (true,())
noncomputable def S_q49q:FSig:=⟨[(K_Si,false),(I,false),(I,false)],[.bool],true,(G_allWithin)⟩
noncomputable def Γ_q61q:Ctx:={ tk:=assoc tks,ar:=assoc ars,fs:=assoc [(58,S_q71q),(107,S_q49q)] }
noncomputable def F_q61q (N:Nat) (d:(Int×(List (Int×Int×Unit))×Unit)×List Int×Unit):Option (Bool×Unit):=
 let a0:=d.1
 let a1:=d.2.1
 (G_graph (a0,())).bind fun r1=>
 if (r1.1)=true then
  let x2:=IntKind.wrap .i64 (a0.1-(1:Int))
  (G_allWithin ((a1,((0:Int),(x2,()))))).bind fun r3=>
  some (r3.1,())
 else
  some (false,())
noncomputable def S_q61q:FSig:=⟨[(K_PiSPiiqq,false),(K_Si,false)],[.bool],true,(F_q61q 0)⟩
noncomputable def Γ_q33q:Ctx:={ tk:=assoc tks,ar:=assoc ars,fs:=assoc [] }
abbrev q33q_l0_H:=List Int×Int×Unit
abbrev q33q_l0_O:=(Bool×Unit)⊕Unit⊕Empty
def q33q_l0_h:Form:=[(0,.v K_Si),(3,.v I)]
def q33q_l0_o:Outs:=[(.ret,[(2,.v .bool)]),(.normal,[])]
noncomputable def q33q_l0_r (N:Nat) (back:q33q_l0_H->Option q33q_l0_O) (d:q33q_l0_H):Option q33q_l0_O:=
 let s0:=d.1
 let s3:=d.2.1
 if (decide (s3<(List.length s0:Int)))=true then
  let x6:=IntKind.wrap .i64 (s3-(1:Int))
  if (idxIn x6 (List.length s0))=true then
  if (idxIn s3 (List.length s0))=true then
  if (decide (at_ I s0 x6.toNat>=at_ I s0 s3.toNat))=true then
   some (.inl (false,()))
  else
   let x7:=IntKind.wrap .i64 (s3+(1:Int))
   back ((s0,(x7,())))
  else none
  else none
 else
  some (.inr (.inl ()))
noncomputable def q33q_l0 (N:Nat):Nat->q33q_l0_H->Option q33q_l0_O
 | 0,_=>none
 | k+1,d=>q33q_l0_r N (q33q_l0 N k) d
noncomputable def F_q33q (N:Nat) (d:List Int×Unit):Option (Bool×Unit):=
 let a0:=d.1
 (q33q_l0 N N ((a0,((1:Int),())))).bind fun o3=>match o3 with
 | .inl d4=>
  some (d4.1,())
 | .inr (.inl d5)=>
  some (true,())
noncomputable def S_q33q:FSig:=⟨[(K_Si,false)],[.bool],true,(G_increasing)⟩
noncomputable def Γ_impl_isSet:Ctx:={ tk:=assoc tks,ar:=assoc ars,fs:=assoc [(70,S_q61q),(102,S_q33q)] }
noncomputable def F_impl_isSet (N:Nat) (d:(Int×(List (Int×Int×Unit))×Unit)×List Int×Unit):Option (Bool×Unit):=
 let a0:=d.1
 let a1:=d.2.1
 ((F_q61q 0) ((a0,(a1,())))).bind fun r1=>
 if (r1.1)=true then
  (G_increasing (a1,())).bind fun r2=>
  some (r2.1,())
 else
  some (false,())
noncomputable def S_impl_isSet:FSig:=⟨[(K_PiSPiiqq,false),(K_Si,false)],[.bool],true,(F_impl_isSet 0)⟩
noncomputable def Γ_q38q:Ctx:={ tk:=assoc tks,ar:=assoc ars,fs:=assoc [(63,S_impl_isSet),(64,S_q92q)] }
noncomputable def F_q38q (N:Nat) (d:((Int×(List (Int×Int×Unit))×Unit)×Int×Int×List Int×Int×Unit)×Unit):Option (Bool×Unit):=
 let a0:=d.1
 ((F_impl_isSet 0) ((a0.1,(a0.2.2.2.1,())))).bind fun r1=>
 if (r1.1)=true then
  let x2:=IntKind.wrap .i64 (a0.1.1-(1:Int))
  let r3:=g_q92q ((a0.2.1,((-1:Int),(x2,()))))
  if (r3.1)=true then
   let x4:=IntKind.wrap .i64 (a0.1.1-(1:Int))
   let r5:=g_q92q ((a0.2.2.1,((-1:Int),(x4,()))))
   if (r5.1)=true then
    let r6:=g_q92q ((a0.2.2.2.2.1,((0:Int),((1000:Int),()))))
    some (r6.1,())
   else
    some (false,())
  else
   some (false,())
 else
  some (false,())
noncomputable def S_q38q:FSig:=⟨[(K_PPiSPiiqqiiSiiq,false)],[.bool],true,(F_q38q 0)⟩
noncomputable def Γ_q66q:Ctx:={ tk:=assoc tks,ar:=assoc ars,fs:=assoc [] }
noncomputable def F_q66q (N:Nat) (d:(Int×Int×Int×Unit)×Unit):Option (Bool×Unit):=
 let a0:=d.1
 if (a0.1==(3:Int))=true then
  some (true,())
 else
  if (a0.1==(6:Int))=true then
   some (true,())
  else
   if (a0.1==(2:Int))=true then
    some (a0.2.2.1==(0:Int),())
   else
    if (a0.1==(4:Int))=true then
     some (a0.2.2.1==(0:Int),())
    else
     if (a0.1==(5:Int))=true then
      some (a0.2.2.1==(0:Int),())
     else
      if (a0.1==(8:Int))=true then
       some (a0.2.2.1==(0:Int),())
      else
       if (a0.2.1==(0:Int))=true then
        some (a0.2.2.1==(0:Int),())
       else
        some (false,())
noncomputable def g_q66q (d:(Int×Int×Int×Unit)×Unit):Bool×Unit:=
 let a0:=d.1
 if (a0.1==(3:Int))=true then
  (true,())
 else
  if (a0.1==(6:Int))=true then
   (true,())
  else
   if (a0.1==(2:Int))=true then
    (a0.2.2.1==(0:Int),())
   else
    if (a0.1==(4:Int))=true then
     (a0.2.2.1==(0:Int),())
    else
     if (a0.1==(5:Int))=true then
      (a0.2.2.1==(0:Int),())
     else
      if (a0.1==(8:Int))=true then
       (a0.2.2.1==(0:Int),())
      else
       if (a0.2.1==(0:Int))=true then
        (a0.2.2.1==(0:Int),())
       else
        (false,())
theorem F_q66q_tot (N:Nat) (d):F_q66q N d=some (g_q66q d):=by
 unfold F_q66q g_q66q
 first
  | rfl
  | (dsimp only; (repeat' split)<;>rfl)
noncomputable def S_q66q:FSig:=⟨[(K_Piiiq,false)],[.bool],true,(fun d=>some (g_q66q d))⟩
noncomputable def Γ_q7q:Ctx:={ tk:=assoc tks,ar:=assoc ars,fs:=assoc [] }
noncomputable def F_q7q (N:Nat) (d:List Int×Unit):Option (List Int×Unit):=
 let a0:=d.1
 if (decide (List.length a0=0))=true then
  both (
    some (([]:List Int),())) (
    if (decide (List.length ([]:List Int)+List.length a0<=lim))=true then
    some (([]:List Int)++a0,())
    else none)
 else
  if (decide (List.length ([]:List Int)+List.length a0<=lim))=true then
  some (([]:List Int)++a0,())
  else none
noncomputable def S_q7q:FSig:=⟨[(K_Si,false)],[K_Si],true,(G_toIntS)⟩
def S_q12q:FSig:=⟨[(K_PPiSPiiqqiiSiiq,false)],[K_PPiSPiiqqiiSiiq],true,G_cloneWs⟩
noncomputable def Γ_impl_netOf:Ctx:={ tk:=assoc tks,ar:=assoc ars,fs:=assoc [] }
abbrev impl_netOf_l0_H:=(List Int×Unit)×(List Int×Unit)×(List (Int×Int×Unit))×Int×Int×Unit
abbrev impl_netOf_l0_O:=((List Int×Unit)×(List Int×Unit)×Unit)⊕Empty
def impl_netOf_l0_h:Form:=[(2,.box K_PSiq 99),(3,.box K_PSiq 99),(11,.v K_SPiiq),(12,.v I),(13,.v I)]
def impl_netOf_l0_o:Outs:=[(.normal,[(2,.box K_PSiq 99),(3,.box K_PSiq 99)])]
noncomputable def impl_netOf_l0_r (N:Nat) (back:impl_netOf_l0_H->Option impl_netOf_l0_O) (d:impl_netOf_l0_H):Option impl_netOf_l0_O:=
 let s2:=d.1
 let s3:=d.2.1
 let s11:=d.2.2.1
 let s12:=d.2.2.2.1
 let s13:=d.2.2.2.2.1
 if (decide (s13<s12))=true then
  if (idxIn s13 (List.length s11))=true then
  if (idxIn (at_ K_Piiq s11 s13.toNat).1 (List.length s3.1))=true then
  if (decide (0<=(at_ K_Piiq s11 s13.toNat).2.1))=true then
  let x9:=shl .i64 (1:Int) (at_ K_Piiq s11 s13.toNat).2.1
  let x10:=bits .or .i64 (at_ I s3.1 (at_ K_Piiq s11 s13.toNat).1.toNat) x9
  if (idxIn (at_ K_Piiq s11 s13.toNat).1 (List.length s3.1))=true then
  if (idxIn (at_ K_Piiq s11 s13.toNat).2.1 (List.length (List.set s3.1 (at_ K_Piiq s11 s13.toNat).1.toNat x10)))=true then
  if (decide (0<=(at_ K_Piiq s11 s13.toNat).1))=true then
  let x11:=shl .i64 (1:Int) (at_ K_Piiq s11 s13.toNat).1
  let x12:=bits .or .i64 (at_ I (List.set s3.1 (at_ K_Piiq s11 s13.toNat).1.toNat x10) (at_ K_Piiq s11 s13.toNat).2.1.toNat) x11
  if (idxIn (at_ K_Piiq s11 s13.toNat).2.1 (List.length (List.set s3.1 (at_ K_Piiq s11 s13.toNat).1.toNat x10)))=true then
  let x13:=IntKind.wrap .i64 (s13+(1:Int))
  back ((s2,((List.set (List.set s3.1 (at_ K_Piiq s11 s13.toNat).1.toNat x10) (at_ K_Piiq s11 s13.toNat).2.1.toNat x12,s3.2),(s11,(s12,(x13,()))))))
  else none
  else none
  else none
  else none
  else none
  else none
  else none
 else
  some (.inl ((s2,(s3,()))))
noncomputable def impl_netOf_l0 (N:Nat):Nat->impl_netOf_l0_H->Option impl_netOf_l0_O
 | 0,_=>none
 | k+1,d=>impl_netOf_l0_r N (impl_netOf_l0 N k) d
noncomputable def F_impl_netOf (N:Nat) (d:(Int×(List (Int×Int×Unit))×Unit)×Unit):Option ((List Int×Unit)×Unit):=
 let a0:=d.1
 if ((decide (0<=a0.1)&&decide (a0.1<=a0.1)&&decide (a0.1<=(lim:Int))))=true then
 let x1:=List.replicate a0.1.toNat (0:Int)
 (impl_netOf_l0 N N (((([]:List Int),()),((x1,()),(a0.2.1,((List.length a0.2.1:Int),((0:Int),()))))))).bind fun o7=>match o7 with
 | .inl d8=>
  some (d8.2.1,())
 else none
noncomputable def S_impl_netOf:FSig:=⟨[(K_PiSPiiqq,false)],[K_PSiq],true,(G_netOf)⟩
noncomputable def Γ_q64q:Ctx:={ tk:=assoc tks,ar:=assoc ars,fs:=assoc [] }
noncomputable def F_q64q (N:Nat) (d:(List Int×Unit)×Unit):Option (Int×Unit):=
 let a0:=d.1
 if (decide (0<=(List.length a0.1:Int)))=true then
 let x1:=shl .i64 (1:Int) (List.length a0.1:Int)
 let x2:=IntKind.wrap .i64 (x1-(1:Int))
 some (x2,())
 else none
noncomputable def S_q64q:FSig:=⟨[(K_PSiq,false)],[I],true,(F_q64q 0)⟩
noncomputable def Γ_impl_setOf:Ctx:={ tk:=assoc tks,ar:=assoc ars,fs:=assoc [] }
abbrev impl_setOf_l0_H:=Int×List Int×Int×Unit
abbrev impl_setOf_l0_O:=(List Int×Unit)⊕Empty
def impl_setOf_l0_h:Form:=[(0,.v I),(3,.own K_Si 99),(4,.v I)]
def impl_setOf_l0_o:Outs:=[(.normal,[(3,.own K_Si 99)])]
noncomputable def impl_setOf_l0_r (N:Nat) (back:impl_setOf_l0_H->Option impl_setOf_l0_O) (d:impl_setOf_l0_H):Option impl_setOf_l0_O:=
 let s0:=d.1
 let s3:=d.2.1
 let s4:=d.2.2.1
 if (decide (0<=s4))=true then
 if (shr .i64 s0 s4 != (0:Int))=true then
  if (decide (0<=s4))=true then
  let x6:=bits .and .i64 (shr .i64 s0 s4) (1:Int)
  if (x6==(1:Int))=true then
   if (decide (List.length s3+List.length ([s4])<=lim))=true then
   let x7:=IntKind.wrap .i64 (s4+(1:Int))
   back ((s0,(s3++([s4]),(x7,()))))
   else none
  else
   let x8:=IntKind.wrap .i64 (s4+(1:Int))
   back ((s0,(s3,(x8,()))))
  else none
 else
  some (.inl (s3,()))
 else none
noncomputable def impl_setOf_l0 (N:Nat):Nat->impl_setOf_l0_H->Option impl_setOf_l0_O
 | 0,_=>none
 | k+1,d=>impl_setOf_l0_r N (impl_setOf_l0 N k) d
noncomputable def F_impl_setOf (N:Nat) (d:Int×Unit):Option (List Int×Unit):=
 let a0:=d.1
 (impl_setOf_l0 N N ((a0,(([]:List Int),((0:Int),()))))).bind fun o4=>match o4 with
 | .inl d5=>
  some (d5.1,())
noncomputable def S_impl_setOf:FSig:=⟨[(I,false)],[K_Si],true,(G_setOf)⟩
noncomputable def Γ_q63q:Ctx:={ tk:=assoc tks,ar:=assoc ars,fs:=assoc [] }
noncomputable def F_q63q (N:Nat) (d:(List Int×Unit)×Int×Int×Unit):Option (Bool×Unit):=
 let a0:=d.1
 let a1:=d.2.1
 let a2:=d.2.2.1
 if (idxIn a1 (List.length a0.1))=true then
 if (decide (0<=a2))=true then
 let x1:=shr .i64 (at_ I a0.1 a1.toNat) a2
 some (bits .and .i64 x1 (1:Int)==(1:Int),())
 else none
 else none
noncomputable def S_q63q:FSig:=⟨[(K_PSiq,false),(I,false),(I,false)],[.bool],true,(F_q63q 0)⟩
noncomputable def Γ_q14q:Ctx:={ tk:=assoc tks,ar:=assoc ars,fs:=assoc [(151,S_q63q)] }
noncomputable def F_q14q (N:Nat) (d:Int×Int×(List Int×Unit)×List Int×Unit):Option (Bool×Unit):=
 let a0:=d.1
 let a1:=d.2.1
 let a2:=d.2.2.1
 let a3:=d.2.2.2.1
 if (idxIn a0 (List.length a3))=true then
 if (idxIn a1 (List.length a3))=true then
 ((F_q63q 0) ((a2,(at_ I a3 a0.toNat,(at_ I a3 a1.toNat,()))))).bind fun r1=>
 some (r1.1,())
 else none
 else none
noncomputable def S_q14q:FSig:=⟨[(I,false),(I,false),(K_BPSiq,false),(K_BSi,false)],[.bool],true,(F_q14q 0)⟩
noncomputable def FV_q14q (d:Int×Int×(Unit×(List Int×Unit)×List Int×Unit)×Unit):Option (Bool×Unit):=(F_q14q 0) (d.1,d.2.1,d.2.2.1.2)
noncomputable def SV_q14q:FSig:=⟨[(I,false),(I,false),(K_F_q14q_qPBPSiqBSiq,false)],[.bool],true,FV_q14q⟩
noncomputable def Γ_q2q:Ctx:={ tk:=assoc tks,ar:=assoc ars,fs:=assoc [],cs:=assoc [(165,SV_q14q)] }
abbrev q2q_l2_H:=Int×(Unit×(List Int×Unit)×List Int×Unit)×(Int×(List (Int×Int×Unit))×Unit)×(Int×(List (Int×Int×Unit))×Unit)×Int×Int×Int×Int×Unit
abbrev q2q_l2_O:=(Int×(Unit×(List Int×Unit)×List Int×Unit)×(Int×(List (Int×Int×Unit))×Unit)×(Int×(List (Int×Int×Unit))×Unit)×Int×Int×Unit)⊕Empty
def q2q_l2_h:Form:=[(0,.v I),(1,.v K_F_q14q_qPBPSiqBSiq),(4,.box K_PiSPiiqq 99),(5,.box K_PiSPiiqq 99),(6,.v I),(7,.v I),(10,.v I),(11,.v I)]
def q2q_l2_o:Outs:=[(.normal,[(0,.v I),(1,.v K_F_q14q_qPBPSiqBSiq),(4,.box K_PiSPiiqq 99),(5,.box K_PiSPiiqq 99),(10,.v I),(11,.v I)])]
noncomputable def q2q_l2_r (N:Nat) (back:q2q_l2_H->Option q2q_l2_O) (d:q2q_l2_H):Option q2q_l2_O:=
 let s0:=d.1
 let s1:=d.2.1
 let s4:=d.2.2.1
 let s5:=d.2.2.2.1
 let s6:=d.2.2.2.2.1
 let s7:=d.2.2.2.2.2.1
 let s10:=d.2.2.2.2.2.2.1
 let s11:=d.2.2.2.2.2.2.2.1
 if (decide (s7<s0))=true then
  (FV_q14q ((s6,(s7,(s1,()))))).bind fun r17=>
  if (r17.1)=true then
   if (decide (List.length s5.2.1+List.length ([(s6,(s7,()))])<=lim))=true then
   let x18:=IntKind.wrap .i64 (s7+(1:Int))
   back ((s0,(s1,(s4,((s5.1,(s5.2.1++([(s6,(s7,()))]),s5.2.2)),(s6,(x18,(s10,(s11,())))))))))
   else none
  else
   let x19:=IntKind.wrap .i64 (s7+(1:Int))
   back ((s0,(s1,(s4,(s5,(s6,(x19,(s10,(s11,())))))))))
 else
  some (.inl ((s0,(s1,(s4,(s5,(s10,(s11,()))))))))
noncomputable def q2q_l2 (N:Nat):Nat->q2q_l2_H->Option q2q_l2_O
 | 0,_=>none
 | k+1,d=>q2q_l2_r N (q2q_l2 N k) d
abbrev q2q_l0_H:=Int×(Unit×(List Int×Unit)×List Int×Unit)×(Int×(List (Int×Int×Unit))×Unit)×(Int×(List (Int×Int×Unit))×Unit)×Int×Int×Unit
abbrev q2q_l0_O:=((Int×(List (Int×Int×Unit))×Unit)×(Int×(List (Int×Int×Unit))×Unit)×Unit)⊕Empty
def q2q_l0_h:Form:=[(0,.v I),(1,.v K_F_q14q_qPBPSiqBSiq),(4,.box K_PiSPiiqq 99),(5,.box K_PiSPiiqq 99),(10,.v I),(11,.v I)]
def q2q_l0_o:Outs:=[(.normal,[(4,.box K_PiSPiiqq 99),(5,.box K_PiSPiiqq 99)])]
noncomputable def q2q_l0_r (N:Nat) (back:q2q_l0_H->Option q2q_l0_O) (d:q2q_l0_H):Option q2q_l0_O:=
 let s0:=d.1
 let s1:=d.2.1
 let s4:=d.2.2.1
 let s5:=d.2.2.2.1
 let s10:=d.2.2.2.2.1
 let s11:=d.2.2.2.2.2.1
 if (decide (s11<s10))=true then
  let x10:=IntKind.wrap .i64 (s11+(1:Int))
  (q2q_l2 N N ((s0,(s1,(s4,(s5,(s11,(x10,(s10,(s11,())))))))))).bind fun o14=>match o14 with
  | .inl d15=>
   let x16:=IntKind.wrap .i64 (d15.2.2.2.2.2.1+(1:Int))
   back ((d15.1,(d15.2.1,(d15.2.2.1,(d15.2.2.2.1,(d15.2.2.2.2.1,(x16,())))))))
 else
  some (.inl ((s4,(s5,()))))
noncomputable def q2q_l0 (N:Nat):Nat->q2q_l0_H->Option q2q_l0_O
 | 0,_=>none
 | k+1,d=>q2q_l0_r N (q2q_l0 N k) d
noncomputable def F_q2q (N:Nat) (d:Int×(Unit×(List Int×Unit)×List Int×Unit)×Unit):Option ((Int×(List (Int×Int×Unit))×Unit)×Unit):=
 let a0:=d.1
 let a1:=d.2.1
 (q2q_l0 N N ((a0,(a1,(((0:Int),(([]:List (Int×Int×Unit)),())),((a0,(([]:List (Int×Int×Unit)),())),(a0,((0:Int),())))))))).bind fun o8=>match o8 with
 | .inl d9=>
  some (d9.2.1,())
noncomputable def S_q2q:FSig:=⟨[(I,false),(K_F_q14q_qPBPSiqBSiq,false)],[K_PiSPiiqq],true,(G_graphByInd)⟩
noncomputable def Γ_q24q:Ctx:={ tk:=assoc tks,ar:=assoc ars,fs:=assoc [(150,S_q2q)],cs:=assoc [],fz:=fun t=>Nat.beq t 2||Nat.beq t 3 }
noncomputable def F_q24q (N:Nat) (d:(List Int×Unit)×List Int×Unit):Option ((Int×(List (Int×Int×Unit))×Unit)×Unit):=
 let a0:=d.1
 let a1:=d.2.1
 (G_graphByInd (((List.length a1:Int),(((),(a0,(a1,()))),())))).bind fun r1=>
 some (r1.1,())
noncomputable def S_q24q:FSig:=⟨[(K_PSiq,false),(K_Si,false)],[K_PiSPiiqq],true,(F_q24q 0)⟩
noncomputable def Γ_q28q:Ctx:={ tk:=assoc tks,ar:=assoc ars,fs:=assoc [(67,S_impl_netOf),(70,S_q61q),(108,S_impl_setOf),(131,S_q64q),(149,S_q24q)] }
noncomputable def F_q28q (N:Nat) (d:(Int×(List (Int×Int×Unit))×Unit)×Int×Unit):Option ((Int×(List (Int×Int×Unit))×Unit)×Bool×Unit):=
 let a0:=d.1
 let a1:=d.2.1
 ((F_q61q 0) ((a0,([a1],())))).bind fun r1=>
 if (!r1.1)=true then
  some ((((0:Int),(([]:List (Int×Int×Unit)),())),(false,())))
 else
  (G_netOf (a0,())).bind fun r2=>
  ((F_q64q 0) (r2.1,())).bind fun r3=>
  if (decide (0<=a1))=true then
  let x4:=bits .andNot .i64 r3.1 (shl .i64 (1:Int) a1)
  (G_setOf (x4,())).bind fun r5=>
  ((F_q24q 0) ((r2.1,(r5.1,())))).bind fun r6=>
  some ((r6.1,(true,())))
  else none
noncomputable def S_q28q:FSig:=⟨[(K_PiSPiiqq,false),(I,false)],[K_PiSPiiqq,.bool],true,(F_q28q 0)⟩
noncomputable def Γ_q56q:Ctx:={ tk:=assoc tks,ar:=assoc ars,fs:=assoc [(126,S_q28q)],lent:=fun t=>Nat.beq t 0,cs:=assoc [],gs:=assoc [],eqt:=inL [],md:={ gone:=[],deep:=[0] } }
abbrev q56q_l0_H:=((Int×(List (Int×Int×Unit))×Unit)×Int×Int×List Int×Int×Unit)×Int×List Int×Int×Int×Unit×Unit
abbrev q56q_l0_O:=(((Int×(List (Int×Int×Unit))×Unit)×Int×Int×List Int×Int×Unit)×List Int×Unit)⊕Empty
def q56q_l0_h:Form:=[(0,.box K_PPiSPiiqqiiSiiq 1),(1,.v I),(7,.own K_Si 99),(71,.v I),(72,.v I),(70,.same 0 [.r,.r,.r,.l])]
def q56q_l0_o:Outs:=[(.normal,[(0,.box K_PPiSPiiqqiiSiiq 1),(7,.own K_Si 99)])]
noncomputable def q56q_l0_r (N:Nat) (back:q56q_l0_H->Option q56q_l0_O) (d:q56q_l0_H):Option q56q_l0_O:=
 let s0:=d.1
 let s1:=d.2.1
 let s7:=d.2.2.1
 let s71:=d.2.2.2.1
 let s72:=d.2.2.2.2.1
 let s70:=d.2.2.2.2.2.1
 if (decide (s72<s71))=true then
  if (idxIn s72 (List.length s0.2.2.2.1))=true then
  if (decide (at_ I s0.2.2.2.1 s72.toNat<s1))=true then
   if (decide (List.length s7+List.length ([at_ I s0.2.2.2.1 s72.toNat])<=lim))=true then
   let x18:=s7++([at_ I s0.2.2.2.1 s72.toNat])
   let x19:=IntKind.wrap .i64 (s72+(1:Int))
   back ((s0,(s1,(x18,(s71,(x19,((),())))))))
   else none
  else
   if (decide (at_ I s0.2.2.2.1 s72.toNat>s1))=true then
    let x20:=IntKind.wrap .i64 (at_ I s0.2.2.2.1 s72.toNat-(1:Int))
    if (decide (List.length s7+List.length ([x20])<=lim))=true then
    let x21:=IntKind.wrap .i64 (s72+(1:Int))
    back ((s0,(s1,(s7++([x20]),(s71,(x21,((),())))))))
    else none
   else
    let x22:=IntKind.wrap .i64 (s72+(1:Int))
    back ((s0,(s1,(s7,(s71,(x22,((),())))))))
  else none
 else
  some (.inl ((s0,(s7,()))))
noncomputable def q56q_l0 (N:Nat):Nat->q56q_l0_H->Option q56q_l0_O
 | 0,_=>none
 | k+1,d=>q56q_l0_r N (q56q_l0 N k) d
noncomputable def F_q56q (N:Nat) (d:((Int×(List (Int×Int×Unit))×Unit)×Int×Int×List Int×Int×Unit)×Int×Unit):Option (Bool×((Int×(List (Int×Int×Unit))×Unit)×Int×Int×List Int×Int×Unit)×Unit):=
 let a0:=d.1
 let a1:=d.2.1
 ((F_q28q 0) ((a0.1,(a1,())))).bind fun r1=>
 if (!r1.2.1)=true then
  some ((false,(a0,())))
 else
  if (a0.2.1==a1)=true then
   some ((false,(a0,())))
  else
   if (a0.2.2.1==a1)=true then
    some ((false,(a0,())))
   else
    if (decide (a0.2.1>a1))=true then
     let x2:=IntKind.wrap .i64 (a0.2.1-(1:Int))
     if (decide (a0.2.2.1>a1))=true then
      let x3:=IntKind.wrap .i64 (a0.2.2.1-(1:Int))
      (q56q_l0 N N (((r1.1,(x2,(x3,a0.2.2.2))),(a1,(([]:List Int),((List.length a0.2.2.2.1:Int),((0:Int),((),())))))))).bind fun o9=>match o9 with
      | .inl d10=>
       some ((true,((d10.1.1,(d10.1.2.1,(d10.1.2.2.1,(d10.2.1,d10.1.2.2.2.2)))),())))
     else
      (q56q_l0 N N (((r1.1,(x2,a0.2.2)),(a1,(([]:List Int),((List.length a0.2.2.2.1:Int),((0:Int),((),())))))))).bind fun o11=>match o11 with
      | .inl d12=>
       some ((true,((d12.1.1,(d12.1.2.1,(d12.1.2.2.1,(d12.2.1,d12.1.2.2.2.2)))),())))
    else
     if (decide (a0.2.2.1>a1))=true then
      let x13:=IntKind.wrap .i64 (a0.2.2.1-(1:Int))
      (q56q_l0 N N (((r1.1,(a0.2.1,(x13,a0.2.2.2))),(a1,(([]:List Int),((List.length a0.2.2.2.1:Int),((0:Int),((),())))))))).bind fun o14=>match o14 with
      | .inl d15=>
       some ((true,((d15.1.1,(d15.1.2.1,(d15.1.2.2.1,(d15.2.1,d15.1.2.2.2.2)))),())))
     else
      (q56q_l0 N N (((r1.1,a0.2),(a1,(([]:List Int),((List.length a0.2.2.2.1:Int),((0:Int),((),())))))))).bind fun o16=>match o16 with
      | .inl d17=>
       some ((true,((d17.1.1,(d17.1.2.1,(d17.1.2.2.1,(d17.2.1,d17.1.2.2.2.2)))),())))
noncomputable def S_q56q:FSig:=⟨[(K_BPPiSPiiqqiiSiiq,true),(I,false)],[.bool],true,(G_dropNode)⟩
noncomputable def Γ_q60q:Ctx:={ tk:=assoc tks,ar:=assoc ars,fs:=assoc [] }
noncomputable def F_q60q (N:Nat) (d:(List Int×Unit)×Unit):Option (Int×Unit):=
 let a0:=d.1
 some ((List.length a0.1:Int),())
noncomputable def g_q60q (d:(List Int×Unit)×Unit):Int×Unit:=
 let a0:=d.1
 ((List.length a0.1:Int),())
theorem F_q60q_tot (N:Nat) (d):F_q60q N d=some (g_q60q d):=by
 unfold F_q60q g_q60q
 first
  | rfl
  | (dsimp only; (repeat' split)<;>rfl)
noncomputable def S_q60q:FSig:=⟨[(K_PSiq,false)],[I],true,(fun d=>some (g_q60q d))⟩
noncomputable def FV_q63q (d:Int×Int×(((List Int×Unit)×Unit)×Unit)×Unit):Option (Bool×Unit):=(F_q63q 0) (d.2.2.1.1.1,d.1,d.2.1,d.2.2.1.2)
noncomputable def SV_q63q:FSig:=⟨[(I,false),(I,false),(K_F_q63q_PPSiqqq,false)],[.bool],true,FV_q63q⟩
noncomputable def Γ_q3q:Ctx:={ tk:=assoc tks,ar:=assoc ars,fs:=assoc [],cs:=assoc [(151,SV_q63q)] }
abbrev q3q_l2_H:=Int×(((List Int×Unit)×Unit)×Unit)×(Int×(List (Int×Int×Unit))×Unit)×(Int×(List (Int×Int×Unit))×Unit)×Int×Int×Int×Int×Unit
abbrev q3q_l2_O:=(Int×(((List Int×Unit)×Unit)×Unit)×(Int×(List (Int×Int×Unit))×Unit)×(Int×(List (Int×Int×Unit))×Unit)×Int×Int×Unit)⊕Empty
def q3q_l2_h:Form:=[(0,.v I),(1,.v K_F_q63q_PPSiqqq),(4,.box K_PiSPiiqq 99),(5,.box K_PiSPiiqq 99),(6,.v I),(7,.v I),(10,.v I),(11,.v I)]
def q3q_l2_o:Outs:=[(.normal,[(0,.v I),(1,.v K_F_q63q_PPSiqqq),(4,.box K_PiSPiiqq 99),(5,.box K_PiSPiiqq 99),(10,.v I),(11,.v I)])]
noncomputable def q3q_l2_r (N:Nat) (back:q3q_l2_H->Option q3q_l2_O) (d:q3q_l2_H):Option q3q_l2_O:=
 let s0:=d.1
 let s1:=d.2.1
 let s4:=d.2.2.1
 let s5:=d.2.2.2.1
 let s6:=d.2.2.2.2.1
 let s7:=d.2.2.2.2.2.1
 let s10:=d.2.2.2.2.2.2.1
 let s11:=d.2.2.2.2.2.2.2.1
 if (decide (s7<s0))=true then
  (FV_q63q ((s6,(s7,(s1,()))))).bind fun r17=>
  if (r17.1)=true then
   if (decide (List.length s5.2.1+List.length ([(s6,(s7,()))])<=lim))=true then
   let x18:=IntKind.wrap .i64 (s7+(1:Int))
   back ((s0,(s1,(s4,((s5.1,(s5.2.1++([(s6,(s7,()))]),s5.2.2)),(s6,(x18,(s10,(s11,())))))))))
   else none
  else
   let x19:=IntKind.wrap .i64 (s7+(1:Int))
   back ((s0,(s1,(s4,(s5,(s6,(x19,(s10,(s11,())))))))))
 else
  some (.inl ((s0,(s1,(s4,(s5,(s10,(s11,()))))))))
noncomputable def q3q_l2 (N:Nat):Nat->q3q_l2_H->Option q3q_l2_O
 | 0,_=>none
 | k+1,d=>q3q_l2_r N (q3q_l2 N k) d
abbrev q3q_l0_H:=Int×(((List Int×Unit)×Unit)×Unit)×(Int×(List (Int×Int×Unit))×Unit)×(Int×(List (Int×Int×Unit))×Unit)×Int×Int×Unit
abbrev q3q_l0_O:=((Int×(List (Int×Int×Unit))×Unit)×(Int×(List (Int×Int×Unit))×Unit)×Unit)⊕Empty
def q3q_l0_h:Form:=[(0,.v I),(1,.v K_F_q63q_PPSiqqq),(4,.box K_PiSPiiqq 99),(5,.box K_PiSPiiqq 99),(10,.v I),(11,.v I)]
def q3q_l0_o:Outs:=[(.normal,[(4,.box K_PiSPiiqq 99),(5,.box K_PiSPiiqq 99)])]
noncomputable def q3q_l0_r (N:Nat) (back:q3q_l0_H->Option q3q_l0_O) (d:q3q_l0_H):Option q3q_l0_O:=
 let s0:=d.1
 let s1:=d.2.1
 let s4:=d.2.2.1
 let s5:=d.2.2.2.1
 let s10:=d.2.2.2.2.1
 let s11:=d.2.2.2.2.2.1
 if (decide (s11<s10))=true then
  let x10:=IntKind.wrap .i64 (s11+(1:Int))
  (q3q_l2 N N ((s0,(s1,(s4,(s5,(s11,(x10,(s10,(s11,())))))))))).bind fun o14=>match o14 with
  | .inl d15=>
   let x16:=IntKind.wrap .i64 (d15.2.2.2.2.2.1+(1:Int))
   back ((d15.1,(d15.2.1,(d15.2.2.1,(d15.2.2.2.1,(d15.2.2.2.2.1,(x16,())))))))
 else
  some (.inl ((s4,(s5,()))))
noncomputable def q3q_l0 (N:Nat):Nat->q3q_l0_H->Option q3q_l0_O
 | 0,_=>none
 | k+1,d=>q3q_l0_r N (q3q_l0 N k) d
noncomputable def F_q3q (N:Nat) (d:Int×(((List Int×Unit)×Unit)×Unit)×Unit):Option ((Int×(List (Int×Int×Unit))×Unit)×Unit):=
 let a0:=d.1
 let a1:=d.2.1
 (q3q_l0 N N ((a0,(a1,(((0:Int),(([]:List (Int×Int×Unit)),())),((a0,(([]:List (Int×Int×Unit)),())),(a0,((0:Int),())))))))).bind fun o8=>match o8 with
 | .inl d9=>
  some (d9.2.1,())
noncomputable def S_q3q:FSig:=⟨[(I,false),(K_F_q63q_PPSiqqq,false)],[K_PiSPiiqq],true,(G_graphBy135)⟩
noncomputable def Γ_q47q:Ctx:={ tk:=assoc tks,ar:=assoc ars,fs:=assoc [(103,S_q60q),(150,S_q3q)] }
noncomputable def F_q47q (N:Nat) (d:(List Int×Unit)×Unit):Option ((Int×(List (Int×Int×Unit))×Unit)×Unit):=
 let a0:=d.1
 let r1:=g_q60q (a0,())
 (G_graphBy135 ((r1.1,(((a0,()),()),())))).bind fun r2=>
 some (r2.1,())
noncomputable def S_q47q:FSig:=⟨[(K_PSiq,false)],[K_PiSPiiqq],true,(F_q47q 0)⟩
noncomputable def Γ_q31q:Ctx:={ tk:=assoc tks,ar:=assoc ars,fs:=assoc [(67,S_impl_netOf),(70,S_q61q),(127,S_q47q)] }
noncomputable def F_q31q (N:Nat) (d:(Int×(List (Int×Int×Unit))×Unit)×Int×Int×Unit):Option ((Int×(List (Int×Int×Unit))×Unit)×Bool×Unit):=
 let a0:=d.1
 let a1:=d.2.1
 let a2:=d.2.2.1
 ((F_q61q 0) ((a0,([a1,a2],())))).bind fun r1=>
 if (!r1.1)=true then
  some ((((0:Int),(([]:List (Int×Int×Unit)),())),(false,())))
 else
  if (a1==a2)=true then
   some ((((0:Int),(([]:List (Int×Int×Unit)),())),(false,())))
  else
   (G_netOf (a0,())).bind fun r2=>
   if (idxIn a1 (List.length r2.1.1))=true then
   if (decide (0<=a2))=true then
   let x3:=bits .xor .i64 (at_ I r2.1.1 a1.toNat) (shl .i64 (1:Int) a2)
   if (idxIn a1 (List.length r2.1.1))=true then
   if (idxIn a2 (List.length (List.set r2.1.1 a1.toNat x3)))=true then
   if (decide (0<=a1))=true then
   let x4:=bits .xor .i64 (at_ I (List.set r2.1.1 a1.toNat x3) a2.toNat) (shl .i64 (1:Int) a1)
   if (idxIn a2 (List.length (List.set r2.1.1 a1.toNat x3)))=true then
   ((F_q47q 0) (((List.set (List.set r2.1.1 a1.toNat x3) a2.toNat x4,r2.1.2),()))).bind fun r5=>
   some ((r5.1,(true,())))
   else none
   else none
   else none
   else none
   else none
   else none
noncomputable def S_q31q:FSig:=⟨[(K_PiSPiiqq,false),(I,false),(I,false)],[K_PiSPiiqq,.bool],true,(F_q31q 0)⟩
noncomputable def Γ_q57q:Ctx:={ tk:=assoc tks,ar:=assoc ars,fs:=assoc [] }
noncomputable def F_q57q (N:Nat) (d:((Int×(List (Int×Int×Unit))×Unit)×Int×Int×List Int×Int×Unit)×Unit):Option (Bool×Unit):=
 let a0:=d.1
 if (decide (a0.2.1>=(0:Int)))=true then
  if (decide (a0.2.2.1>=(0:Int)))=true then
   some (a0.2.1 != a0.2.2.1,())
  else
   some (false,())
 else
  some (false,())
end Go.V.W
