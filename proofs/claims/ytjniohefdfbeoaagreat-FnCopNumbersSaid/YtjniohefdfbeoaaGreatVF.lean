/- What the law FnCopNumbers leans on, part 6: an interpreter of the model as plain data, its soundness, the functions as it tells them, and their laws. -/
import Derived.Laws.CopyOwn
import Derived.Deep.OwnRows
import Derived.Test.YtjniohefdfbeoaaGreatProg
import Derived.WalkKit
import Derived.LoopN
import Derived.Deep.DeepFit
import Derived.Shelf.Lays
import Derived.IntWalk
import Derived.Lib.Builder
import Derived.Test.YtjniohefdfbeoaaGreatVE
set_option linter.unusedVariables false
set_option linter.unusedSimpArgs false
set_option maxRecDepth 100000
namespace Go.V
/-- Every order is good if each operation, when it may come up, keeps what is held of the listed ones. -/
theorem wpAny_inv {P:Program} {Q:Exit->Act->World->Prop} {ops:Array Oper} {Φ:(Nat->Bool)->Act->World->Prop} (back:∀(i:Nat) o,ops[i]? = some o -> ∀e∈o.after,Region.binds .any e=true->e.on<i)
    (hdone:∀L a w,(∀i,i<ops.size->L i=true)->Φ L a w->Q .normal a w)
    (hstep:∀L a w j o,ops[j]? = some o->L j=false->Closed ops L->(∀e∈o.after,Region.binds .any e=true->L e.on=true)->Φ L a w->o.guard=none /\ ∀K:Act->World->Prop,(∀a' w',Φ (fun i=>L i||decide (i=j)) a' w'->K a' w')->o.wp P a w K Q) :
    ∀(fuel:Nat) (listed:Array Bool) (a:Act) (w:World),listed.size=ops.size->listed.toList.count false=fuel->Closed ops (fun i=>listed.getD i false)->Φ (fun i=>listed.getD i false) a w->wpAny P .any ops Q fuel listed a w:=by
  have hready:∀(listed:Array Bool),listed.size=ops.size->Region.ready .any ops listed=[] -> ∀i,i<ops.size->listed.getD i false=true:=by
    intro listed hsz hr
    have key:∀m i,i<m->i<ops.size->listed.getD i false=true:=by
      intro m
      induction m with
      | zero=>intro i hi;omega
      | succ m ih=>
        intro i hi hlt
        by_cases him:i<m
        · exact ih i him hlt
        · cases hl:listed.getD i false with
          | true=>rfl
          | false=>
            exfalso
            have ho':ops[i]? = some ops[i]:=by simp [hlt]
            have:i∈Region.ready .any ops listed:=by
              rw [mem_ready]
              have hl2:i<listed.size:=by omega
              refine ⟨?_,_,ho',fun e he hb=>ih e.on ?_ ?_⟩
              · simp only [Array.getD,hl2,dif_pos] at hl |-;exact hl
              · have:=back i _ ho' e he hb;omega
              · have:=back i _ ho' e he hb;omega
            rw [hr] at this
            simp at this
    exact fun i hi=>key (i+1) i (by omega) hi
  intro fuel
  induction fuel with
  | zero=>
    intro listed a w hsz hc hL hi
    have hall:∀i,i<ops.size->listed.getD i false=true:=by
      intro i hlt
      have hlt':i<listed.size:=by omega
      rw [List.count_eq_zero] at hc
      cases hb:listed.getD i false with
      | true=>rfl
      | false=>
        exfalso
        apply hc
        simp only [Array.getD,hlt',dif_pos] at hb
        rw [<- hb]
        exact Array.getElem_mem_toList hlt'
    refine ⟨?_,hdone _ a w hall hi⟩
    apply List.eq_nil_iff_forall_not_mem.2
    intro i hm
    rw [mem_ready] at hm
    obtain ⟨h1,o,h2,_⟩:=hm
    have hlt:=(Array.getElem?_eq_some_iff.1 h2).1
    have:=hall i hlt
    have hlt':i<listed.size:=by omega
    simp only [Array.getD,hlt',dif_pos] at h1 this
    rw [this] at h1
    cases h1
  | succ fuel ih=>
    intro listed a w hsz hc hL hi
    refine ⟨fun hr=>hdone _ a w (hready listed hsz hr) hi,fun j hj => ?_⟩
    rw [mem_ready] at hj
    obtain ⟨h1,o,ho,hr⟩:=hj
    have hlt:=(Array.getElem?_eq_some_iff.1 ho).1
    have hlt':j<listed.size:=by omega
    have hjf:listed.getD j false=false:=by simp only [Array.getD,hlt',dif_pos] at h1 |-;exact h1
    obtain ⟨hg,hs⟩:=hstep _ a w j o ho hjf hL hr hi
    unfold wpOp
    rw [ho]
    simp only [Region.wanted,hg,if_true]
    refine .inl (hs _ fun a' w' hi'=>ih (listed.setIfInBounds j true) a' w' (by simpa using hsz) ?_ ?_ ?_)
    · have hlj:listed[j]=false:=by simp only [Array.getD,hlt',dif_pos] at hjf;exact hjf
      rw [Array.toList_setIfInBounds,List.count_set (by simpa using hlt')]
      simp [hlj,hc]
    · intro i o' ho' hli e he hb
      simp only [getD_set hlt',Bool.or_eq_true,decide_eq_true_eq] at hli |-
      rcases hli with hli | hli
      · exact .inl (hL i o' ho' hli e he hb)
      · subst hli
        rw [ho] at ho'
        injection ho' with ho'
        subst ho'
        exact .inl (hr e he hb)
    · have e:(fun i=>(listed.setIfInBounds j true).getD i false)=fun i=>listed.getD i false||decide (i=j):=by
        funext i
        exact getD_set hlt'
      rw [e]
      exact hi'
theorem wp_draw_inv {P:Program} {Q:Exit->Act->World->Prop} {ops:Array Oper} {rid:Nat} {a:Act} {w:World} (Φ:(Nat->Bool)->Act->World->Prop) (hm:P.follows .mixedOrders=true) (back:∀(i:Nat) o,ops[i]? = some o -> ∀e∈o.after,Region.binds .any e=true->e.on<i)
    (hdone:∀L a w,(∀i,i<ops.size->L i=true)->Φ L a w->Q .normal a w)
    (hstep:∀L a w j o,ops[j]? = some o->L j=false->Closed ops L->(∀e∈o.after,Region.binds .any e=true->L e.on=true)->Φ L a w->o.guard=none /\ ∀K:Act->World->Prop,(∀a' w',Φ (fun i=>L i||decide (i=j)) a' w'->K a' w')->o.wp P a w K Q)
    (h0:Φ (fun _=>false) a { w with drawn:=w.drawn+1 }):(Code.region rid ops true).wp P Q a w:=by
  refine wp_region_any hm ?_
  have e2:(fun i=>(Array.replicate ops.size false).getD i false)=fun _=>false:=by
    funext i
    simp only [Array.getD_eq_getD_getElem?]
    by_cases hj:i<ops.size
    · simp [hj]
    · simp [hj]
  refine wpAny_inv back hdone hstep ops.size _ a _ (by simp) (by simp) (fun j o ho hl => ?_) (by rw [e2];exact h0)
  rw [e2] at hl
  cases hl
end Go.V
namespace Go.V.W
open Go.Proofs Go.RowKit
def regOf (id:Nat):Code->Option (Array Oper)
  | .region i ops _=>if i=id then some ops else none
  | .seq a b=>(regOf id a).or (regOf id b)
  | .cond _ a b=>(regOf id a).or (regOf id b)
  | .block _ c=>regOf id c
  | .loop c=>regOf id c
  | .scope c=>regOf id c
  | _=>none
noncomputable def ops9:Array Oper:=(regOf 9 (bodyOf Tryz.f124)).getD #[]
noncomputable def dof (j:Nat):Option (Option Tmp×Op×Option (Nat×Bool)):=(ops9[j]?).map fun o=>(o.dst,o.op,o.guard)
theorem o9_0:dof 0=some (some 38,.move (.tmp 8),none):=by kernel_rfl
theorem o9_1:dof 1=some (some 39,.move (.tmp 7),none):=by kernel_rfl
theorem o9_2:dof 2=some (some 40,.move (.tmp 8),none):=by kernel_rfl
theorem o9_3:dof 3=some (some 41,.slice 45 (.tmp 39) (some (.tmp 40)) none none,none):=by kernel_rfl
theorem o9_4:dof 4=some (some 42,.move (.tmp 7),none):=by kernel_rfl
theorem o9_5:dof 5=some (some 43,.move (.tmp 8),none):=by kernel_rfl
theorem o9_6:dof 6=some (some 44,.slice 45 (.tmp 42) none (some (.tmp 43)) none,none):=by kernel_rfl
theorem o9_7:dof 7=some (some 45,.call { callee:=.builtin .copy,args := #[.tmp 41,.tmp 44],argTypes := #[45,45] },none):=by kernel_rfl
theorem o9_8:dof 8=some (some 46,.binOp .add 3 (.tmp 38) (.tmp 45) 3,none):=by kernel_rfl
theorem o9_9:dof 9=some (some 8,.assign (.tmp 46),none):=by kernel_rfl
theorem size9:ops9.size=10:=by kernel_rfl
def backB (ops:Array Oper):Bool:=(List.range ops.size).all fun i=>((ops[i]?).map fun o=>o.after.toList.all fun e => !Region.binds .any e||decide (e.on<i)).getD true
theorem back9B:backB ops9=true:=by kernel_rfl
theorem back9:∀(i:Nat) o,ops9[i]? = some o -> ∀e∈o.after,Region.binds .any e=true->e.on<i:=by
  intro i o ho e he hb
  have h:=back9B
  unfold backB at h
  rw [List.all_eq_true] at h
  have hi:=(Array.getElem?_eq_some_iff.1 ho).1
  have h1:=h i (List.mem_range.2 hi)
  rw [ho] at h1
  simp only [Option.map_some,Option.getD_some,List.all_eq_true] at h1
  have h2:=h1 e (Array.mem_toList_iff.2 he)
  rw [hb] at h2
  simpa using h2
noncomputable def hasE (i j:Nat):Bool:=((ops9[i]?).map fun o=>o.after.toList.any fun e=>Region.binds .any e&&e.on==j).getD false
theorem hasE_of {i j:Nat} (h:hasE i j=true) {o:Oper} (ho:ops9[i]? = some o):∃e∈o.after,Region.binds .any e=true/\e.on=j:=by
  unfold hasE at h
  rw [ho] at h
  simp only [Option.map_some,Option.getD_some,List.any_eq_true,Bool.and_eq_true,beq_iff_eq] at h
  obtain ⟨e,he,h1,h2⟩:=h
  exact ⟨e,Array.mem_toList_iff.1 he,h1,h2⟩
theorem clos {L:Nat->Bool} (hL:Closed ops9 L) {i j:Nat} (h:hasE i j=true) (hi:i<10) (h1:L i=true):L j=true:=by
  have hs:=size9
  have hlt:i<ops9.size:=by omega
  have ho:ops9[i]? = some ops9[i]:=Array.getElem?_eq_getElem hlt
  obtain ⟨e,he,hb,rfl⟩:=hasE_of h ho
  exact hL i _ ho h1 e he hb
theorem rdy {L:Nat->Bool} {i j:Nat} {o:Oper} (h:hasE i j=true) (ho:ops9[i]? = some o) (hr:∀e∈o.after,Region.binds .any e=true->L e.on=true):L j=true:=by
  obtain ⟨e,he,hb,rfl⟩:=hasE_of h ho
  exact hr e he hb
def val (a0 F:Nat->Value) (L:Nat->Bool) (t:Nat):Value:=if t=8 then (if L 9=true then F 9 else a0 8) else if 38<=t/\t<=46 then (if L (t-38)=true then F (t-38) else a0 t) else a0 t
def dstv (j:Nat):Nat:=if j=9 then 8 else 38+j
theorem val_step (a0 F:Nat->Value) (L:Nat->Bool) {j:Nat} (hj:j<=9) (t:Nat):(if t=dstv j then F j else val a0 F L t)=val a0 F (fun i=>L i||decide (i=j)) t:=by
  unfold val dstv
  by_cases e9:j=9
  · subst e9
    simp only [if_true]
    by_cases et:t=8
    · simp [et]
    · simp only [et,if_false]
      by_cases er:38<=t/\t<=46
      · have:¬t-38=9:=by omega
        simp [er,this]
      · simp [er]
  · simp only [e9,if_false]
    by_cases et:t=8
    · subst et
      have h1:¬8=38+j:=by omega
      have h2:¬(9=j):=fun h=>e9 h.symm
      simp [h1,h2]
    · simp only [et,if_false]
      by_cases er:38<=t/\t<=46
      · simp only [er,and_self,if_true]
        by_cases ej:t=38+j
        · subst ej
          simp
        · have:¬t-38=j:=by omega
          simp [ej,this]
      · have:¬t=38+j:=by omega
        simp [er,this]
def rowL (n m:Nat) (x z:Value):List Value:=List.replicate m x++List.replicate (n-m) z
theorem rowL_splice {n m c:Nat} {x z:Value} (h:m+c<=n):(rowL n m x z).take m++List.replicate c x++(rowL n m x z).drop (m+c)=rowL n (m+c) x z:=by
  unfold rowL
  have e1:(List.replicate m x++List.replicate (n-m) z).take m=List.replicate m x:=by simp
  have e2:(List.replicate m x++List.replicate (n-m) z).drop (m+c)=List.replicate (n-(m+c)) z:=by
    rw [List.drop_append]
    simp
    omega
  rw [e1,e2,<- List.replicate_append_replicate]
theorem row_src {w:World} {g:Nat} {L:List Value} {T:TypeId} (h:w.heap[g]? = some (.cells L.toArray T (0,0))):∀j v,L[j]? = some v->w.cell? ((⟨g,0,none⟩:Addr).add j)=some v:=by
  intro j v hj
  by_cases e:j=0
  · subst e
    simp [World.cell?,Addr.add,h,hj]
  · simp [World.cell?,Addr.add,h,hj,e]
theorem eval_tmp (a:Act) (t:Nat):a.eval (.tmp t)=a.tmps.getD t undef:=rfl
theorem put_getD {a:Act} {d t:Nat} {v:Value} (hd:d<a.tmps.size):(a.put (some d) v).tmps.getD t undef=if t=d then v else a.tmps.getD t undef:=by
  unfold Act.put
  by_cases e:t=d
  · subst e
    simp [Array.getD_eq_getD_getElem?,hd]
  · have e':d≠t:=fun h=>e h.symm
    simp [Array.getD_eq_getD_getElem?,Array.getElem?_setIfInBounds_ne e',e]
/-- What is held of the listed operations. -/
structure Phi (a0 F:Nat->Value) (df:List Deferred) (sz g n m c B:Nat) (x z:Value) (T:TypeId) (w0:World) (L:Nat->Bool) (a:Act) (w:World):Prop where
  size:a.tmps.size=sz
  defers:a.defers=df
  tmps:∀t,a.tmps.getD t undef=val a0 F L t
  row:w.heap[g]? = some (.cells (rowL n (if L 7=true then m+c else m) x z).toArray T (0,0))
  below:Below B w0 w
theorem dof_of {j:Nat} {d:Option Tmp} {p:Op} {gd:Option (Nat×Bool)} (h:dof j=some (d,p,gd)) {o:Oper} (ho:ops9[j]? = some o):o.dst=d/\o.op=p/\o.guard=gd:=by
  unfold dof at h
  rw [ho] at h
  simp only [Option.map_some,Option.some.injEq,Prod.mk.injEq] at h
  exact h
theorem Phi.fin {P:Program} {Q:Exit->Act->World->Prop} {a0 F:Nat->Value} {df:List Deferred} {g n m c B:Nat} {x z:Value} {T:TypeId} {w0 w w':World} {L:Nat->Bool} {a:Act} (h:Phi a0 F df 48 g n m c B x z T w0 L a w) {j:Nat} (hj:j<=9) {o:Oper} (hd:o.dst=some (dstv j))
    (hrun:(execOp a.eval o).run P w=.ok (.value (F j)) w') (hrow:w'.heap[g]? = some (.cells (rowL n (if (L 7||decide (7=j))=true then m+c else m) x z).toArray T (0,0))) (hB:Below B w0 w')
    (K:Act->World->Prop) (hK:∀a' w',Phi a0 F df 48 g n m c B x z T w0 (fun i=>L i||decide (i=j)) a' w'->K a' w'):o.wp P a w K Q:=by
  refine wp_value hrun (hK _ _ ⟨?_,?_,fun t => ?_,hrow,hB⟩)
  · rw [hd]
    simp [Act.put,h.size]
  · rw [hd]
    exact h.defers
  · rw [hd,put_getD (by rw [h.size];unfold dstv;split<;>omega),h.tmps t]
    exact val_step a0 F L hj t
theorem Phi.fin0 {P:Program} {Q:Exit->Act->World->Prop} {a0 F:Nat->Value} {df:List Deferred} {g n m c B:Nat} {x z:Value} {T:TypeId} {w0 w:World} {L:Nat->Bool} {a:Act} (h:Phi a0 F df 48 g n m c B x z T w0 L a w) {j:Nat} (hj:j<=9) (hj7:7≠j) {o:Oper} (hd:o.dst=some (dstv j))
    (hrun:(execOp a.eval o).run P w=.ok (.value (F j)) w)
    (K:Act->World->Prop) (hK:∀a' w',Phi a0 F df 48 g n m c B x z T w0 (fun i=>L i||decide (i=j)) a' w'->K a' w'):o.wp P a w K Q:=by
  refine h.fin hj hd hrun ?_ h.below K hK
  have:(L 7||decide (7=j))=L 7:=by simp [hj7]
  rw [this]
  exact h.row
def Fv (g n m c:Nat):Nat->Value
  | 0=>.int .i64 (m:Int)
  | 1=>.slice (some ⟨g,0,none⟩) n n
  | 2=>.int .i64 (m:Int)
  | 3=>.slice (some ⟨g,m,none⟩) (n-m) (n-m)
  | 4=>.slice (some ⟨g,0,none⟩) n n
  | 5=>.int .i64 (m:Int)
  | 6=>.slice (some ⟨g,0,none⟩) m n
  | 7=>.int .i64 (c:Int)
  | 8=>.int .i64 ((m+c:Nat):Int)
  | _=>.int .i64 ((m+c:Nat):Int)
theorem val8 {a0 F:Nat->Value} {L:Nat->Bool} (h:L 9=false):val a0 F L 8=a0 8:=by simp [val,h]
theorem val7 {a0 F:Nat->Value} {L:Nat->Bool}:val a0 F L 7=a0 7:=by simp [val]
theorem valD {a0 F:Nat->Value} {L:Nat->Bool} {j:Nat} (hj:j<=8) (h:L j=true):val a0 F L (38+j)=F j:=by
  unfold val
  have h1:¬38+j=8:=by omega
  have h2:38<=38+j/\38+j<=46:=by omega
  have h3:38+j-38=j:=by omega
  simp only [h1,if_false,h2,and_self,if_true,h3,h]
theorem sz3:(Tryz.prog.info? 3).map (·.size)=some 1:=by kernel_rfl
theorem elem32:Tryz.prog.elem 45=3:=by kernel_rfl
theorem und32:Tryz.prog.underlying 45=some (.slice (Tryz.prog.elem 45)):=by kernel_rfl
theorem sliced_l {n m g:Nat} (w:World) (hmn:m<n):(Instr.sliceAt 45 (.slice (some ⟨g,0,none⟩) n n) (some (.int .i64 (m:Int))) none none).run Tryz.prog w=.ok (.slice (some ⟨g,m,none⟩) (n-m) (n-m)) w:=by
  have hs:=Tryz.sizeOf3 w
  have hne:¬n=m:=by omega
  rw [run_sliceAt_slice w 45 _ _ _ _ und32,run_slice_l w 45 _ n n und32 .i64 (m:Int) (by omega) (by omega),elem32,hs]
  simp only [Result.andThen,sliced,Int.toNat_natCast,hne,if_false,Option.map_some,Addr.add,Nat.mul_one,Nat.zero_add]
  by_cases h0:m=0
  · subst h0
    simp
  · simp [h0]
theorem sliced_h {n m g:Nat} (w:World) (hmn:m<n):(Instr.sliceAt 45 (.slice (some ⟨g,0,none⟩) n n) none (some (.int .i64 (m:Int))) none).run Tryz.prog w=.ok (.slice (some ⟨g,0,none⟩) m n) w:=by
  have hs:=Tryz.sizeOf3 w
  have hne:¬n=0:=by omega
  rw [run_sliceAt_slice w 45 _ _ _ _ und32,run_slice_h w 45 _ n n und32 .i64 (m:Int) (by omega) (by omega),elem32,hs]
  simp [Result.andThen,sliced,Addr.add]
theorem reg9 {Q:Exit->Act->World->Prop} {rid:Nat} {a:Act} {w w0:World} {g n m c B:Nat} {xi zi:Int} {T:TypeId} {a0:Nat->Value} (hsz:a.tmps.size=48) (ha0:∀t,a.tmps.getD t undef=a0 t) (h7:a0 7=.slice (some ⟨g,0,none⟩) n n) (h8:a0 8=.int .i64 (m:Int))
    (hm:1<=m) (hmn:m<n) (hn:n<=8) (hc:c=min m (n-m)) (hg:w.heap[g]? = some (.cells (rowL n m (.int .i64 xi) (.int .i64 zi)).toArray T (0,0))) (hB:Below B w0 w) (hBg:B<=g)
    (hQ:∀a' w',Phi a0 (Fv g n m c) a.defers 48 g n m c B (.int .i64 xi) (.int .i64 zi) T w0 (fun _=>true) a' w'->Q .normal a' w'):(Code.region rid ops9 true).wp Tryz.prog Q a w:=by
  have h0:Phi a0 (Fv g n m c) a.defers 48 g n m c B (.int .i64 xi) (.int .i64 zi) T w0 (fun _=>false) a { w with drawn:=w.drawn+1 }:=
    ⟨hsz,rfl,fun t=>by rw [ha0 t];unfold val;by_cases e:t=8<;>simp [e],hg,⟨hB.os,hB.tape,hB.output,hB.size,hB.block⟩⟩
  refine wp_draw_inv (Phi a0 (Fv g n m c) a.defers 48 g n m c B (.int .i64 xi) (.int .i64 zi) T w0) (by kernel_rfl) back9 (fun L a' w' hL h => ?_) (fun L a1 w1 j o ho hj hL hr h => ?_) h0
  · refine hQ a' w' ⟨h.size,h.defers,fun t => ?_,?_,h.below⟩
    · rw [h.tmps t]
      unfold val
      have:=size9
      have e9:L 9=true:=hL 9 (by omega)
      by_cases et:t=8
      · simp [et,e9]
      · by_cases er:38<=t/\t<=46
        · have:L (t-38)=true:=hL _ (by omega)
          simp [et,er,this]
        · simp [et,er]
    · have e7:L 7=true:=hL 7 (by have:=size9;omega)
      have:=h.row
      rw [e7] at this
      exact this
  · have hj10:j<10:=by
      have:=(Array.getElem?_eq_some_iff.1 ho).1
      have:=size9
      omega
    have l98:L 9=true->L 8=true:=clos hL (by kernel_rfl) (by omega)
    have l80:L 8=true->L 0=true:=clos hL (by kernel_rfl) (by omega)
    have l87:L 8=true->L 7=true:=clos hL (by kernel_rfl) (by omega)
    have l73:L 7=true->L 3=true:=clos hL (by kernel_rfl) (by omega)
    have l76:L 7=true->L 6=true:=clos hL (by kernel_rfl) (by omega)
    have l32:L 3=true->L 2=true:=clos hL (by kernel_rfl) (by omega)
    have l65:L 6=true->L 5=true:=clos hL (by kernel_rfl) (by omega)
    have no9:(j=0\/j=2\/j=5)->L 9=false:=by
      intro hh
      cases h9:L 9 with
      | false=>rfl
      | true=>
        have e8:=l98 h9
        have e7:=l87 e8
        rcases hh with rfl | rfl | rfl
        · rw [l80 e8] at hj;cases hj
        · rw [l32 (l73 e7)] at hj;cases hj
        · rw [l65 (l76 e7)] at hj;cases hj
    have hcases:j=0\/j=1\/j=2\/j=3\/j=4\/j=5\/j=6\/j=7\/j=8\/j=9:=by omega
    rcases hcases with rfl | rfl | rfl | rfl | rfl | rfl | rfl | rfl | rfl | rfl
    · obtain ⟨d1,d2,d3⟩:=dof_of o9_0 ho
      refine ⟨d3,h.fin0 (by omega) (by omega) d1 ?_⟩
      unfold execOp
      rw [d2]
      simp [eval_tmp,h.tmps,val8 (no9 (by omega)),h8,Fv]
    · obtain ⟨d1,d2,d3⟩:=dof_of o9_1 ho
      refine ⟨d3,h.fin0 (by omega) (by omega) d1 ?_⟩
      unfold execOp
      rw [d2]
      simp [eval_tmp,h.tmps,val7,h7,Fv]
    · obtain ⟨d1,d2,d3⟩:=dof_of o9_2 ho
      refine ⟨d3,h.fin0 (by omega) (by omega) d1 ?_⟩
      unfold execOp
      rw [d2]
      simp [eval_tmp,h.tmps,val8 (no9 (by omega)),h8,Fv]
    · obtain ⟨d1,d2,d3⟩:=dof_of o9_3 ho
      refine ⟨d3,h.fin0 (by omega) (by omega) d1 ?_⟩
      have r1:L 1=true:=rdy (by kernel_rfl) ho hr
      have r2:L 2=true:=rdy (by kernel_rfl) ho hr
      have e1:=valD (a0:=a0) (F:=Fv g n m c) (show 1<=8 by omega) r1
      have e2:=valD (a0:=a0) (F:=Fv g n m c) (show 2<=8 by omega) r2
      unfold execOp
      rw [d2]
      simp [eval_tmp,h.tmps,e1,e2,Fv,sliced_l w1 hmn]
    · obtain ⟨d1,d2,d3⟩:=dof_of o9_4 ho
      refine ⟨d3,h.fin0 (by omega) (by omega) d1 ?_⟩
      unfold execOp
      rw [d2]
      simp [eval_tmp,h.tmps,val7,h7,Fv]
    · obtain ⟨d1,d2,d3⟩:=dof_of o9_5 ho
      refine ⟨d3,h.fin0 (by omega) (by omega) d1 ?_⟩
      unfold execOp
      rw [d2]
      simp [eval_tmp,h.tmps,val8 (no9 (by omega)),h8,Fv]
    · obtain ⟨d1,d2,d3⟩:=dof_of o9_6 ho
      refine ⟨d3,h.fin0 (by omega) (by omega) d1 ?_⟩
      have r1:L 4=true:=rdy (by kernel_rfl) ho hr
      have r2:L 5=true:=rdy (by kernel_rfl) ho hr
      have e1:=valD (a0:=a0) (F:=Fv g n m c) (show 4<=8 by omega) r1
      have e2:=valD (a0:=a0) (F:=Fv g n m c) (show 5<=8 by omega) r2
      unfold execOp
      rw [d2]
      simp [eval_tmp,h.tmps,e1,e2,Fv,sliced_h w1 hmn]
    · obtain ⟨d1,d2,d3⟩:=dof_of o9_7 ho
      refine ⟨d3,?_⟩
      have r1:L 3=true:=rdy (by kernel_rfl) ho hr
      have r2:L 6=true:=rdy (by kernel_rfl) ho hr
      have e1:=valD (a0:=a0) (F:=Fv g n m c) (show 3<=8 by omega) r1
      have e2:=valD (a0:=a0) (F:=Fv g n m c) (show 6<=8 by omega) r2
      have hrw:=h.row
      rw [hj] at hrw
      simp only [Bool.false_eq_true,if_false] at hrw
      have hlen:(rowL n m (.int .i64 xi) (.int .i64 zi)).length=n:=by unfold rowL;simp;omega
      have hrun:=run_copy_row (P:=Tryz.prog) w1 45 45 o.type 3 g m (n-m) (n-m) ⟨g,0,none⟩ m n (rowL n m (.int .i64 xi) (.int .i64 zi)).toArray T (List.replicate c (.int .i64 xi)) Tryz.underlying45 sz3 hrw (by simp only [List.length_replicate];exact hc) (fun j v hv=>by
        refine row_src hrw j v ?_
        have hjc:j<c:=by
          rcases Nat.lt_or_ge j c with h' | h'
          · exact h'
          · rw [List.getElem?_eq_none (by simpa using h')] at hv;cases hv
        unfold rowL
        rw [List.getElem?_append_left (by simp;omega)]
        rw [List.getElem?_replicate] at hv |-
        rw [if_pos hjc] at hv
        rw [if_pos (by omega)]
        exact hv) (by simp [hlen];omega) (by intro v hv;rw [List.eq_of_mem_replicate hv];rfl)
      simp only [List.length_replicate,rowL_splice (show m+c<=n by omega)] at hrun
      refine h.fin (by omega) d1 (w':=w1.setRow g (rowL n (m+c) (.int .i64 xi) (.int .i64 zi)).toArray) ?_ ?_ (below_setRow h.below hBg _)
      · unfold execOp
        rw [d2]
        simp only [resolve,invoke,builtin,Sem.run_bind,Sem.run_pure,Result.andThen_ok,List.map_toArray,List.map_cons,List.map_nil,eval_tmp,h.tmps,e1,e2]
        show (Result.andThen (Sem.run Tryz.prog (Builtin.copy_ #[45,45] o.type #[.slice (some ⟨g,m,none⟩) (n-m) (n-m),.slice (some ⟨g,0,none⟩) m n]) w1) _)=_
        rw [hrun]
        rfl
      · simp only [decide_true,Bool.or_true,if_true]
        exact setRow_heap w1 g _ _ T _ hrw
    · obtain ⟨d1,d2,d3⟩:=dof_of o9_8 ho
      refine ⟨d3,h.fin0 (by omega) (by omega) d1 ?_⟩
      have r1:L 0=true:=rdy (by kernel_rfl) ho hr
      have r2:L 7=true:=rdy (by kernel_rfl) ho hr
      have e1:=valD (a0:=a0) (F:=Fv g n m c) (show 0<=8 by omega) r1
      have e2:=valD (a0:=a0) (F:=Fv g n m c) (show 7<=8 by omega) r2
      unfold execOp
      rw [d2]
      have hw:IntKind.wrap .i64 ((m:Int)+(c:Int))=((m+c:Nat):Int):=by
        rw [Go.IntWalk.i64_in _ (by omega)]
        omega
      have hw':IntKind.wrap .i64 ((m:Int)+(c:Int))=(m:Int)+(c:Int):=by
        rw [hw]
        omega
      simp [eval_tmp,h.tmps,e1,e2,Fv,binOp,Op.intArith,run_eqGuard_int,hw']
    · obtain ⟨d1,d2,d3⟩:=dof_of o9_9 ho
      refine ⟨d3,h.fin0 (by omega) (by omega) d1 ?_⟩
      have r1:L 8=true:=rdy (by kernel_rfl) ho hr
      have e1:=valD (a0:=a0) (F:=Fv g n m c) (show 8<=8 by omega) r1
      unfold execOp
      rw [d2]
      simp [eval_tmp,h.tmps,e1,Fv]
theorem arr48 {A:Array Value} (h:A.size=48) {f:Nat->Value} (hf:∀t,A.getD t undef=f t):A = #[f 0,f 1,f 2,f 3,f 4,f 5,f 6,f 7,f 8,f 9,f 10,f 11,f 12,f 13,f 14,f 15,f 16,f 17,f 18,f 19,f 20,f 21,f 22,f 23,f 24,f 25,f 26,f 27,f 28,f 29,f 30,f 31,f 32,f 33,f 34,f 35,f 36,f 37,f 38,f 39,f 40,f 41,f 42,f 43,f 44,f 45,f 46,f 47]:=by
  apply Array.ext
  · simp [h]
  · intro i h1 h2
    have e:=hf i
    rw [Array.getD_eq_getD_getElem?,Array.getElem?_eq_getElem h1] at e
    simp only [Option.getD_some] at e
    rw [e]
    simp only [List.size_toArray,List.length_cons,List.length_nil] at h2
    match i,h2 with
    | 0,_=>rfl
    | 1,_=>rfl
    | 2,_=>rfl
    | 3,_=>rfl
    | 4,_=>rfl
    | 5,_=>rfl
    | 6,_=>rfl
    | 7,_=>rfl
    | 8,_=>rfl
    | 9,_=>rfl
    | 10,_=>rfl
    | 11,_=>rfl
    | 12,_=>rfl
    | 13,_=>rfl
    | 14,_=>rfl
    | 15,_=>rfl
    | 16,_=>rfl
    | 17,_=>rfl
    | 18,_=>rfl
    | 19,_=>rfl
    | 20,_=>rfl
    | 21,_=>rfl
    | 22,_=>rfl
    | 23,_=>rfl
    | 24,_=>rfl
    | 25,_=>rfl
    | 26,_=>rfl
    | 27,_=>rfl
    | 28,_=>rfl
    | 29,_=>rfl
    | 30,_=>rfl
    | 31,_=>rfl
    | 32,_=>rfl
    | 33,_=>rfl
    | 34,_=>rfl
    | 35,_=>rfl
    | 36,_=>rfl
    | 37,_=>rfl
    | 38,_=>rfl
    | 39,_=>rfl
    | 40,_=>rfl
    | 41,_=>rfl
    | 42,_=>rfl
    | 43,_=>rfl
    | 44,_=>rfl
    | 45,_=>rfl
    | 46,_=>rfl
    | 47,_=>rfl
    | k+48,h2=>exact absurd h2 (by simp)
theorem reg9x {Q:Exit->Act->World->Prop} {rid:Nat} {ops:Array Oper} (hops:ops=ops9) {A:Array Value} {df:List Deferred} {w w0:World} {g n m c B:Nat} {xi zi:Int} {T:TypeId} {L L':List Value} (a0:Nat->Value) (hsz:A.size=48) (ha0:∀t,A.getD t undef=a0 t) (h7:a0 7=.slice (some ⟨g,0,none⟩) n n) (h8:a0 8=.int .i64 (m:Int))
    (hm:1<=m) (hmn:m<n) (hn:n<=8) (hc:c=min m (n-m)) (hL:L=rowL n m (.int .i64 xi) (.int .i64 zi)) (hL':L'=rowL n (m+c) (.int .i64 xi) (.int .i64 zi)) (hg:w.heap[g]? = some (.cells L.toArray T (0,0))) (hB:Below B w0 w) (hBg:B<=g) {A':Array Value} (hA':A' = #[val a0 (Fv g n m c) (fun _=>true) 0,val a0 (Fv g n m c) (fun _=>true) 1,val a0 (Fv g n m c) (fun _=>true) 2,val a0 (Fv g n m c) (fun _=>true) 3,val a0 (Fv g n m c) (fun _=>true) 4,val a0 (Fv g n m c) (fun _=>true) 5,val a0 (Fv g n m c) (fun _=>true) 6,val a0 (Fv g n m c) (fun _=>true) 7,val a0 (Fv g n m c) (fun _=>true) 8,val a0 (Fv g n m c) (fun _=>true) 9,val a0 (Fv g n m c) (fun _=>true) 10,val a0 (Fv g n m c) (fun _=>true) 11,val a0 (Fv g n m c) (fun _=>true) 12,val a0 (Fv g n m c) (fun _=>true) 13,val a0 (Fv g n m c) (fun _=>true) 14,val a0 (Fv g n m c) (fun _=>true) 15,val a0 (Fv g n m c) (fun _=>true) 16,val a0 (Fv g n m c) (fun _=>true) 17,val a0 (Fv g n m c) (fun _=>true) 18,val a0 (Fv g n m c) (fun _=>true) 19,val a0 (Fv g n m c) (fun _=>true) 20,val a0 (Fv g n m c) (fun _=>true) 21,val a0 (Fv g n m c) (fun _=>true) 22,val a0 (Fv g n m c) (fun _=>true) 23,val a0 (Fv g n m c) (fun _=>true) 24,val a0 (Fv g n m c) (fun _=>true) 25,val a0 (Fv g n m c) (fun _=>true) 26,val a0 (Fv g n m c) (fun _=>true) 27,val a0 (Fv g n m c) (fun _=>true) 28,val a0 (Fv g n m c) (fun _=>true) 29,val a0 (Fv g n m c) (fun _=>true) 30,val a0 (Fv g n m c) (fun _=>true) 31,val a0 (Fv g n m c) (fun _=>true) 32,val a0 (Fv g n m c) (fun _=>true) 33,val a0 (Fv g n m c) (fun _=>true) 34,val a0 (Fv g n m c) (fun _=>true) 35,val a0 (Fv g n m c) (fun _=>true) 36,val a0 (Fv g n m c) (fun _=>true) 37,val a0 (Fv g n m c) (fun _=>true) 38,val a0 (Fv g n m c) (fun _=>true) 39,val a0 (Fv g n m c) (fun _=>true) 40,val a0 (Fv g n m c) (fun _=>true) 41,val a0 (Fv g n m c) (fun _=>true) 42,val a0 (Fv g n m c) (fun _=>true) 43,val a0 (Fv g n m c) (fun _=>true) 44,val a0 (Fv g n m c) (fun _=>true) 45,val a0 (Fv g n m c) (fun _=>true) 46,val a0 (Fv g n m c) (fun _=>true) 47])
    (hQ:∀w',Hid (w'.heap[g]? = some (.cells L'.toArray T (0,0)))->Below B w0 w'->Q .normal ⟨A',df⟩ w'):(Code.region rid ops true).wp Tryz.prog Q ⟨A,df⟩ w:=by
  subst hops hL hL' hA'
  refine reg9 (a:=⟨A,df⟩) hsz ha0 h7 h8 hm hmn hn hc hg hB hBg fun a' w' h => ?_
  have e:=arr48 h.size h.tmps
  have e2:a'=⟨a'.tmps,a'.defers⟩:=rfl
  rw [e2,e,h.defers]
  refine hQ w' ?_ h.below
  have:=h.row
  exact this
end Go.V.W
namespace Go.V.W
open Go.Proofs Go.RowKit
set_option maxRecDepth 1000000 in
theorem mul64 (n:Nat) (hn:n<=8) (w:World):Calls Tryz.prog 186 #[.int .u64 1,.int .u64 n] w fun e w'=>e=.returned (.tuple #[.int .u64 0,.int .u64 n])/\w'=w:=by
  have:n=0\/n=1\/n=2\/n=3\/n=4\/n=5\/n=6\/n=7\/n=8:=by omega
  rcases this with rfl | rfl | rfl | rfl | rfl | rfl | rfl | rfl | rfl <;>
  (go_enter Tryz.func186,Tryz.ntmps186
   go_wp2
   go_ret2
   exact ⟨rfl,rfl⟩)
set_option maxRecDepth 1000000 in
theorem mul153 (n:Nat) (hn:n<=8) (w:World):Calls Tryz.prog 162 #[.int .u64 1,.int .u64 n] w fun e w'=>e=.returned (.tuple #[.int .u64 0,.int .u64 n])/\w'=w:=by
  have hm:=mul64 n hn w
  go_enter Tryz.func162,Tryz.ntmps162
  go_wp2_with (go_at_call 186;go_fit hm;rintro e w' ⟨rfl,hw⟩;rw [hw])
  go_ret2
  exact ⟨rfl,rfl⟩
theorem made1 (z:Value) (n:Nat):madeCells #[z] n=(List.replicate n z).toArray:=by
  apply Array.ext
  · simp [madeCells]
  · intro i h1 h2
    simp [madeCells,Nat.mod_one]
theorem info3:(Tryz.prog.info? 3).map (fun i=>(i.zero,i.size,i.bytes))=some (some (.int .i64 0),1,8):=by kernel_rfl
theorem mk3 (n:Nat) (hn:n<=8) (w:World):(Instr.makeSlice 45 (.int .i64 (n:Int)) (.int .i64 (n:Int))).run Tryz.prog w=.ok (.slice (some ⟨w.heap.size,0,none⟩) n n) (w.alloc (.cells (List.replicate n (.int .i64 0)).toArray 3)):=by
  rw [<- made1]
  exact run_make_row' 45 3 (.int .i64 0) 8 Tryz.underlying45 info3 rfl .i64 .i64 n (by omega) (by omega) w
theorem src1 {w:World} {a:Addr} {v:Value} (h:w.cell? a=some v):∀j u,[v][j]? = some u->w.cell? (a.add j)=some u:=by
  intro j u hj
  match j with
  | 0=>
    simp only [List.length_cons,List.length_nil,Nat.zero_add,Nat.lt_add_one,List.getElem?_eq_getElem,List.getElem_cons_zero,Option.some.injEq] at hj
    subst hj
    exact h
  | j+1=>simp at hj
theorem cell_alloc {w:World} {a:Addr} {v:Value} (h:w.cell? a=some v) (o:Obj):(w.alloc o).cell? a=some v:=by
  have hlt:a.block<w.heap.size:=by
    unfold World.cell? at h
    cases hb:w.heap[a.block]? with
    | none=>rw [hb] at h;cases h
    | some x=>exact (Array.getElem?_eq_some_iff.1 hb).1
  unfold World.cell? at h |-
  rw [Below.heap_alloc w o a.block hlt]
  exact h
set_option maxRecDepth 1000000 in
set_option maxHeartbeats 4000000 in
theorem rep1 (x:Int) (w:World) (b off cap:Nat) (hx:w.cell? ⟨b,off,none⟩=some (.int .i64 x)):Calls Tryz.prog 124 #[.slice (some ⟨b,off,none⟩) 1 cap,.int .i64 1] w fun e w' => ∃g T,e=.returned (.slice (some ⟨g,0,none⟩) 1 1)/\w.heap.size<=g/\w'.heap[g]? = some (.cells (List.replicate 1 (.int .i64 x)).toArray T (0,0))/\Below w.heap.size w w':=by
  have hm:=mul153 1 (by omega) w
  obtain ⟨W1,hW1⟩:∃W1,W1=w.alloc (.cells (List.replicate 1 (.int .i64 0)).toArray 3):=⟨_,rfl⟩
  have hk:(Instr.makeSlice 45 (.int .i64 1) (.int .i64 1)).run Tryz.prog w=.ok (.slice (some ⟨w.heap.size,0,none⟩) 1 1) W1:=by
    rw [hW1]
    exact mk3 1 (by omega) w
  have hB0:Hid (Below w.heap.size w W1):=hW1▸(Below.refl _ w).alloc (Nat.le_refl _) _
  have hG0:Hid (W1.heap[w.heap.size]? = some (.cells ([.int .i64 0]:List Value).toArray 3 (0,0))):=by
    subst hW1
    show _=_
    exact heap_alloc_new w _
  have hs0:Hid (∀j v,[Value.int .i64 x][j]? = some v->W1.cell? ((⟨b,off,none⟩:Addr).add j)=some v):=src1 (hW1▸cell_alloc hx _)
  clear hW1
  go_enter Tryz.func124,Tryz.ntmps124
  go_wp2_with (first
    | (go_at_call 162;go_fit hm;rintro e w' ⟨rfl,hw⟩;rw [hw])
    | (refine wpList_copy_splice (o:=⟨some 33,_,_,_,_,_⟩) rfl (.tmp 31) (.tmp 32) 45 45 rfl 3 Tryz.underlying45 sz3 (some ⟨w.heap.size,0,none⟩) (some ⟨b,off,none⟩) 1 1 1 cap rfl rfl w.heap.size 0 [.int .i64 0] 3 hG0.out [.int .i64 x] rfl (fun _=>⟨rfl,_,rfl,hs0.out⟩) (by simp) (by simp [Value.oneCell']) w.heap.size w hB0.out (Nat.le_refl _) ?_;intro w2 HG2 hB2))
  have hG:Hid (w2.heap[w.heap.size]? = some (.cells ([.int .i64 x]:List Value).toArray 3 (0,0))):=HG2.out
  clear HG2 hk hs0 hG0 hB0 hm
  refine wp_loop_rounds 1 ?_
  rw [rounds_succ]
  go_wp2_with (fail)
  go_ret
  first
    | exact ⟨_,_,rfl,Nat.le_refl _,hG.out,hB2⟩
    | exact ⟨_,rfl,Nat.le_refl _,⟨_,hG.out⟩,hB2⟩
set_option maxRecDepth 1000000 in
set_option maxHeartbeats 4000000 in
theorem rep2 (x:Int) (w:World) (b off cap:Nat) (hx:w.cell? ⟨b,off,none⟩=some (.int .i64 x)):Calls Tryz.prog 124 #[.slice (some ⟨b,off,none⟩) 1 cap,.int .i64 2] w fun e w' => ∃g T,e=.returned (.slice (some ⟨g,0,none⟩) 2 2)/\w.heap.size<=g/\w'.heap[g]? = some (.cells (List.replicate 2 (.int .i64 x)).toArray T (0,0))/\Below w.heap.size w w':=by
  have hm:=mul153 2 (by omega) w
  obtain ⟨W1,hW1⟩:∃W1,W1=w.alloc (.cells (List.replicate 2 (.int .i64 0)).toArray 3):=⟨_,rfl⟩
  have hk:(Instr.makeSlice 45 (.int .i64 2) (.int .i64 2)).run Tryz.prog w=.ok (.slice (some ⟨w.heap.size,0,none⟩) 2 2) W1:=by
    rw [hW1]
    exact mk3 2 (by omega) w
  have hB0:Hid (Below w.heap.size w W1):=hW1▸(Below.refl _ w).alloc (Nat.le_refl _) _
  have hG0:Hid (W1.heap[w.heap.size]? = some (.cells ([.int .i64 0,.int .i64 0]:List Value).toArray 3 (0,0))):=by
    subst hW1
    show _=_
    exact heap_alloc_new w _
  have hs0:Hid (∀j v,[Value.int .i64 x][j]? = some v->W1.cell? ((⟨b,off,none⟩:Addr).add j)=some v):=src1 (hW1▸cell_alloc hx _)
  clear hW1
  go_enter Tryz.func124,Tryz.ntmps124
  go_wp2_with (first
    | (go_at_call 162;go_fit hm;rintro e w' ⟨rfl,hw⟩;rw [hw])
    | (refine wpList_copy_splice (o:=⟨some 33,_,_,_,_,_⟩) rfl (.tmp 31) (.tmp 32) 45 45 rfl 3 Tryz.underlying45 sz3 (some ⟨w.heap.size,0,none⟩) (some ⟨b,off,none⟩) 2 2 1 cap rfl rfl w.heap.size 0 [.int .i64 0,.int .i64 0] 3 hG0.out [.int .i64 x] rfl (fun _=>⟨rfl,_,rfl,hs0.out⟩) (by simp) (by simp [Value.oneCell']) w.heap.size w hB0.out (Nat.le_refl _) ?_;intro w2 HG2 hB2))
  have hG:Hid (w2.heap[w.heap.size]? = some (.cells ([.int .i64 x,.int .i64 0]:List Value).toArray 3 (0,0))):=HG2.out
  clear HG2 hk hs0 hG0 hB0 hm
  refine wp_loop_rounds 2 ?_
  rw [rounds_succ]
  go_wp2_with (fail)
  refine reg9x (by kernel_rfl) (g:=w.heap.size) (n:=2) (m:=1) (c:=1) (xi:=x) (zi:=0) (T:=3) (L:=[.int .i64 x,.int .i64 0]) (L':=[.int .i64 x,.int .i64 x]) _ rfl (fun _=>rfl) rfl rfl (by omega) (by omega) (by omega) rfl rfl rfl hG.out hB2 (Nat.le_refl _) rfl ?_
  intro w3 hG3 hB3
  clear hG hB2
  have hG:=hG3
  have hB2:=hB3
  clear hG3 hB3
  simp only [Exit.inBlock,Exit.then,rounds_succ,val,Fv]
  go_wp2_with (fail)
  go_ret
  first
    | exact ⟨_,_,rfl,Nat.le_refl _,hG.out,hB2⟩
    | exact ⟨_,rfl,Nat.le_refl _,⟨_,hG.out⟩,hB2⟩
set_option maxRecDepth 1000000 in
set_option maxHeartbeats 4000000 in
theorem rep3 (x:Int) (w:World) (b off cap:Nat) (hx:w.cell? ⟨b,off,none⟩=some (.int .i64 x)):Calls Tryz.prog 124 #[.slice (some ⟨b,off,none⟩) 1 cap,.int .i64 3] w fun e w' => ∃g T,e=.returned (.slice (some ⟨g,0,none⟩) 3 3)/\w.heap.size<=g/\w'.heap[g]? = some (.cells (List.replicate 3 (.int .i64 x)).toArray T (0,0))/\Below w.heap.size w w':=by
  have hm:=mul153 3 (by omega) w
  obtain ⟨W1,hW1⟩:∃W1,W1=w.alloc (.cells (List.replicate 3 (.int .i64 0)).toArray 3):=⟨_,rfl⟩
  have hk:(Instr.makeSlice 45 (.int .i64 3) (.int .i64 3)).run Tryz.prog w=.ok (.slice (some ⟨w.heap.size,0,none⟩) 3 3) W1:=by
    rw [hW1]
    exact mk3 3 (by omega) w
  have hB0:Hid (Below w.heap.size w W1):=hW1▸(Below.refl _ w).alloc (Nat.le_refl _) _
  have hG0:Hid (W1.heap[w.heap.size]? = some (.cells ([.int .i64 0,.int .i64 0,.int .i64 0]:List Value).toArray 3 (0,0))):=by
    subst hW1
    show _=_
    exact heap_alloc_new w _
  have hs0:Hid (∀j v,[Value.int .i64 x][j]? = some v->W1.cell? ((⟨b,off,none⟩:Addr).add j)=some v):=src1 (hW1▸cell_alloc hx _)
  clear hW1
  go_enter Tryz.func124,Tryz.ntmps124
  go_wp2_with (first
    | (go_at_call 162;go_fit hm;rintro e w' ⟨rfl,hw⟩;rw [hw])
    | (refine wpList_copy_splice (o:=⟨some 33,_,_,_,_,_⟩) rfl (.tmp 31) (.tmp 32) 45 45 rfl 3 Tryz.underlying45 sz3 (some ⟨w.heap.size,0,none⟩) (some ⟨b,off,none⟩) 3 3 1 cap rfl rfl w.heap.size 0 [.int .i64 0,.int .i64 0,.int .i64 0] 3 hG0.out [.int .i64 x] rfl (fun _=>⟨rfl,_,rfl,hs0.out⟩) (by simp) (by simp [Value.oneCell']) w.heap.size w hB0.out (Nat.le_refl _) ?_;intro w2 HG2 hB2))
  have hG:Hid (w2.heap[w.heap.size]? = some (.cells ([.int .i64 x,.int .i64 0,.int .i64 0]:List Value).toArray 3 (0,0))):=HG2.out
  clear HG2 hk hs0 hG0 hB0 hm
  refine wp_loop_rounds 3 ?_
  rw [rounds_succ]
  go_wp2_with (fail)
  refine reg9x (by kernel_rfl) (g:=w.heap.size) (n:=3) (m:=1) (c:=1) (xi:=x) (zi:=0) (T:=3) (L:=[.int .i64 x,.int .i64 0,.int .i64 0]) (L':=[.int .i64 x,.int .i64 x,.int .i64 0]) _ rfl (fun _=>rfl) rfl rfl (by omega) (by omega) (by omega) rfl rfl rfl hG.out hB2 (Nat.le_refl _) rfl ?_
  intro w3 hG3 hB3
  clear hG hB2
  have hG:=hG3
  have hB2:=hB3
  clear hG3 hB3
  simp only [Exit.inBlock,Exit.then,rounds_succ,val,Fv]
  go_wp2_with (fail)
  refine reg9x (by kernel_rfl) (g:=w.heap.size) (n:=3) (m:=2) (c:=1) (xi:=x) (zi:=0) (T:=3) (L:=[.int .i64 x,.int .i64 x,.int .i64 0]) (L':=[.int .i64 x,.int .i64 x,.int .i64 x]) _ rfl (fun _=>rfl) rfl rfl (by omega) (by omega) (by omega) rfl rfl rfl hG.out hB2 (Nat.le_refl _) rfl ?_
  intro w3 hG3 hB3
  clear hG hB2
  have hG:=hG3
  have hB2:=hB3
  clear hG3 hB3
  simp only [Exit.inBlock,Exit.then,rounds_succ,val,Fv]
  go_wp2_with (fail)
  go_ret
  first
    | exact ⟨_,_,rfl,Nat.le_refl _,hG.out,hB2⟩
    | exact ⟨_,rfl,Nat.le_refl _,⟨_,hG.out⟩,hB2⟩
set_option maxRecDepth 1000000 in
set_option maxHeartbeats 4000000 in
theorem rep4 (x:Int) (w:World) (b off cap:Nat) (hx:w.cell? ⟨b,off,none⟩=some (.int .i64 x)):Calls Tryz.prog 124 #[.slice (some ⟨b,off,none⟩) 1 cap,.int .i64 4] w fun e w' => ∃g T,e=.returned (.slice (some ⟨g,0,none⟩) 4 4)/\w.heap.size<=g/\w'.heap[g]? = some (.cells (List.replicate 4 (.int .i64 x)).toArray T (0,0))/\Below w.heap.size w w':=by
  have hm:=mul153 4 (by omega) w
  obtain ⟨W1,hW1⟩:∃W1,W1=w.alloc (.cells (List.replicate 4 (.int .i64 0)).toArray 3):=⟨_,rfl⟩
  have hk:(Instr.makeSlice 45 (.int .i64 4) (.int .i64 4)).run Tryz.prog w=.ok (.slice (some ⟨w.heap.size,0,none⟩) 4 4) W1:=by
    rw [hW1]
    exact mk3 4 (by omega) w
  have hB0:Hid (Below w.heap.size w W1):=hW1▸(Below.refl _ w).alloc (Nat.le_refl _) _
  have hG0:Hid (W1.heap[w.heap.size]? = some (.cells ([.int .i64 0,.int .i64 0,.int .i64 0,.int .i64 0]:List Value).toArray 3 (0,0))):=by
    subst hW1
    show _=_
    exact heap_alloc_new w _
  have hs0:Hid (∀j v,[Value.int .i64 x][j]? = some v->W1.cell? ((⟨b,off,none⟩:Addr).add j)=some v):=src1 (hW1▸cell_alloc hx _)
  clear hW1
  go_enter Tryz.func124,Tryz.ntmps124
  go_wp2_with (first
    | (go_at_call 162;go_fit hm;rintro e w' ⟨rfl,hw⟩;rw [hw])
    | (refine wpList_copy_splice (o:=⟨some 33,_,_,_,_,_⟩) rfl (.tmp 31) (.tmp 32) 45 45 rfl 3 Tryz.underlying45 sz3 (some ⟨w.heap.size,0,none⟩) (some ⟨b,off,none⟩) 4 4 1 cap rfl rfl w.heap.size 0 [.int .i64 0,.int .i64 0,.int .i64 0,.int .i64 0] 3 hG0.out [.int .i64 x] rfl (fun _=>⟨rfl,_,rfl,hs0.out⟩) (by simp) (by simp [Value.oneCell']) w.heap.size w hB0.out (Nat.le_refl _) ?_;intro w2 HG2 hB2))
  have hG:Hid (w2.heap[w.heap.size]? = some (.cells ([.int .i64 x,.int .i64 0,.int .i64 0,.int .i64 0]:List Value).toArray 3 (0,0))):=HG2.out
  clear HG2 hk hs0 hG0 hB0 hm
  refine wp_loop_rounds 3 ?_
  rw [rounds_succ]
  go_wp2_with (fail)
  refine reg9x (by kernel_rfl) (g:=w.heap.size) (n:=4) (m:=1) (c:=1) (xi:=x) (zi:=0) (T:=3) (L:=[.int .i64 x,.int .i64 0,.int .i64 0,.int .i64 0]) (L':=[.int .i64 x,.int .i64 x,.int .i64 0,.int .i64 0]) _ rfl (fun _=>rfl) rfl rfl (by omega) (by omega) (by omega) rfl rfl rfl hG.out hB2 (Nat.le_refl _) rfl ?_
  intro w3 hG3 hB3
  clear hG hB2
  have hG:=hG3
  have hB2:=hB3
  clear hG3 hB3
  simp only [Exit.inBlock,Exit.then,rounds_succ,val,Fv]
  go_wp2_with (fail)
  refine reg9x (by kernel_rfl) (g:=w.heap.size) (n:=4) (m:=2) (c:=2) (xi:=x) (zi:=0) (T:=3) (L:=[.int .i64 x,.int .i64 x,.int .i64 0,.int .i64 0]) (L':=[.int .i64 x,.int .i64 x,.int .i64 x,.int .i64 x]) _ rfl (fun _=>rfl) rfl rfl (by omega) (by omega) (by omega) rfl rfl rfl hG.out hB2 (Nat.le_refl _) rfl ?_
  intro w3 hG3 hB3
  clear hG hB2
  have hG:=hG3
  have hB2:=hB3
  clear hG3 hB3
  simp only [Exit.inBlock,Exit.then,rounds_succ,val,Fv]
  go_wp2_with (fail)
  go_ret
  first
    | exact ⟨_,_,rfl,Nat.le_refl _,hG.out,hB2⟩
    | exact ⟨_,rfl,Nat.le_refl _,⟨_,hG.out⟩,hB2⟩
set_option maxRecDepth 1000000 in
set_option maxHeartbeats 4000000 in
theorem rep5 (x:Int) (w:World) (b off cap:Nat) (hx:w.cell? ⟨b,off,none⟩=some (.int .i64 x)):Calls Tryz.prog 124 #[.slice (some ⟨b,off,none⟩) 1 cap,.int .i64 5] w fun e w' => ∃g T,e=.returned (.slice (some ⟨g,0,none⟩) 5 5)/\w.heap.size<=g/\w'.heap[g]? = some (.cells (List.replicate 5 (.int .i64 x)).toArray T (0,0))/\Below w.heap.size w w':=by
  have hm:=mul153 5 (by omega) w
  obtain ⟨W1,hW1⟩:∃W1,W1=w.alloc (.cells (List.replicate 5 (.int .i64 0)).toArray 3):=⟨_,rfl⟩
  have hk:(Instr.makeSlice 45 (.int .i64 5) (.int .i64 5)).run Tryz.prog w=.ok (.slice (some ⟨w.heap.size,0,none⟩) 5 5) W1:=by
    rw [hW1]
    exact mk3 5 (by omega) w
  have hB0:Hid (Below w.heap.size w W1):=hW1▸(Below.refl _ w).alloc (Nat.le_refl _) _
  have hG0:Hid (W1.heap[w.heap.size]? = some (.cells ([.int .i64 0,.int .i64 0,.int .i64 0,.int .i64 0,.int .i64 0]:List Value).toArray 3 (0,0))):=by
    subst hW1
    show _=_
    exact heap_alloc_new w _
  have hs0:Hid (∀j v,[Value.int .i64 x][j]? = some v->W1.cell? ((⟨b,off,none⟩:Addr).add j)=some v):=src1 (hW1▸cell_alloc hx _)
  clear hW1
  go_enter Tryz.func124,Tryz.ntmps124
  go_wp2_with (first
    | (go_at_call 162;go_fit hm;rintro e w' ⟨rfl,hw⟩;rw [hw])
    | (refine wpList_copy_splice (o:=⟨some 33,_,_,_,_,_⟩) rfl (.tmp 31) (.tmp 32) 45 45 rfl 3 Tryz.underlying45 sz3 (some ⟨w.heap.size,0,none⟩) (some ⟨b,off,none⟩) 5 5 1 cap rfl rfl w.heap.size 0 [.int .i64 0,.int .i64 0,.int .i64 0,.int .i64 0,.int .i64 0] 3 hG0.out [.int .i64 x] rfl (fun _=>⟨rfl,_,rfl,hs0.out⟩) (by simp) (by simp [Value.oneCell']) w.heap.size w hB0.out (Nat.le_refl _) ?_;intro w2 HG2 hB2))
  have hG:Hid (w2.heap[w.heap.size]? = some (.cells ([.int .i64 x,.int .i64 0,.int .i64 0,.int .i64 0,.int .i64 0]:List Value).toArray 3 (0,0))):=HG2.out
  clear HG2 hk hs0 hG0 hB0 hm
  refine wp_loop_rounds 4 ?_
  rw [rounds_succ]
  go_wp2_with (fail)
  refine reg9x (by kernel_rfl) (g:=w.heap.size) (n:=5) (m:=1) (c:=1) (xi:=x) (zi:=0) (T:=3) (L:=[.int .i64 x,.int .i64 0,.int .i64 0,.int .i64 0,.int .i64 0]) (L':=[.int .i64 x,.int .i64 x,.int .i64 0,.int .i64 0,.int .i64 0]) _ rfl (fun _=>rfl) rfl rfl (by omega) (by omega) (by omega) rfl rfl rfl hG.out hB2 (Nat.le_refl _) rfl ?_
  intro w3 hG3 hB3
  clear hG hB2
  have hG:=hG3
  have hB2:=hB3
  clear hG3 hB3
  simp only [Exit.inBlock,Exit.then,rounds_succ,val,Fv]
  go_wp2_with (fail)
  refine reg9x (by kernel_rfl) (g:=w.heap.size) (n:=5) (m:=2) (c:=2) (xi:=x) (zi:=0) (T:=3) (L:=[.int .i64 x,.int .i64 x,.int .i64 0,.int .i64 0,.int .i64 0]) (L':=[.int .i64 x,.int .i64 x,.int .i64 x,.int .i64 x,.int .i64 0]) _ rfl (fun _=>rfl) rfl rfl (by omega) (by omega) (by omega) rfl rfl rfl hG.out hB2 (Nat.le_refl _) rfl ?_
  intro w3 hG3 hB3
  clear hG hB2
  have hG:=hG3
  have hB2:=hB3
  clear hG3 hB3
  simp only [Exit.inBlock,Exit.then,rounds_succ,val,Fv]
  go_wp2_with (fail)
  refine reg9x (by kernel_rfl) (g:=w.heap.size) (n:=5) (m:=4) (c:=1) (xi:=x) (zi:=0) (T:=3) (L:=[.int .i64 x,.int .i64 x,.int .i64 x,.int .i64 x,.int .i64 0]) (L':=[.int .i64 x,.int .i64 x,.int .i64 x,.int .i64 x,.int .i64 x]) _ rfl (fun _=>rfl) rfl rfl (by omega) (by omega) (by omega) rfl rfl rfl hG.out hB2 (Nat.le_refl _) rfl ?_
  intro w3 hG3 hB3
  clear hG hB2
  have hG:=hG3
  have hB2:=hB3
  clear hG3 hB3
  simp only [Exit.inBlock,Exit.then,rounds_succ,val,Fv]
  go_wp2_with (fail)
  go_ret
  first
    | exact ⟨_,_,rfl,Nat.le_refl _,hG.out,hB2⟩
    | exact ⟨_,rfl,Nat.le_refl _,⟨_,hG.out⟩,hB2⟩
set_option maxRecDepth 1000000 in
set_option maxHeartbeats 4000000 in
theorem rep6 (x:Int) (w:World) (b off cap:Nat) (hx:w.cell? ⟨b,off,none⟩=some (.int .i64 x)):Calls Tryz.prog 124 #[.slice (some ⟨b,off,none⟩) 1 cap,.int .i64 6] w fun e w' => ∃g T,e=.returned (.slice (some ⟨g,0,none⟩) 6 6)/\w.heap.size<=g/\w'.heap[g]? = some (.cells (List.replicate 6 (.int .i64 x)).toArray T (0,0))/\Below w.heap.size w w':=by
  have hm:=mul153 6 (by omega) w
  obtain ⟨W1,hW1⟩:∃W1,W1=w.alloc (.cells (List.replicate 6 (.int .i64 0)).toArray 3):=⟨_,rfl⟩
  have hk:(Instr.makeSlice 45 (.int .i64 6) (.int .i64 6)).run Tryz.prog w=.ok (.slice (some ⟨w.heap.size,0,none⟩) 6 6) W1:=by
    rw [hW1]
    exact mk3 6 (by omega) w
  have hB0:Hid (Below w.heap.size w W1):=hW1▸(Below.refl _ w).alloc (Nat.le_refl _) _
  have hG0:Hid (W1.heap[w.heap.size]? = some (.cells ([.int .i64 0,.int .i64 0,.int .i64 0,.int .i64 0,.int .i64 0,.int .i64 0]:List Value).toArray 3 (0,0))):=by
    subst hW1
    show _=_
    exact heap_alloc_new w _
  have hs0:Hid (∀j v,[Value.int .i64 x][j]? = some v->W1.cell? ((⟨b,off,none⟩:Addr).add j)=some v):=src1 (hW1▸cell_alloc hx _)
  clear hW1
  go_enter Tryz.func124,Tryz.ntmps124
  go_wp2_with (first
    | (go_at_call 162;go_fit hm;rintro e w' ⟨rfl,hw⟩;rw [hw])
    | (refine wpList_copy_splice (o:=⟨some 33,_,_,_,_,_⟩) rfl (.tmp 31) (.tmp 32) 45 45 rfl 3 Tryz.underlying45 sz3 (some ⟨w.heap.size,0,none⟩) (some ⟨b,off,none⟩) 6 6 1 cap rfl rfl w.heap.size 0 [.int .i64 0,.int .i64 0,.int .i64 0,.int .i64 0,.int .i64 0,.int .i64 0] 3 hG0.out [.int .i64 x] rfl (fun _=>⟨rfl,_,rfl,hs0.out⟩) (by simp) (by simp [Value.oneCell']) w.heap.size w hB0.out (Nat.le_refl _) ?_;intro w2 HG2 hB2))
  have hG:Hid (w2.heap[w.heap.size]? = some (.cells ([.int .i64 x,.int .i64 0,.int .i64 0,.int .i64 0,.int .i64 0,.int .i64 0]:List Value).toArray 3 (0,0))):=HG2.out
  clear HG2 hk hs0 hG0 hB0 hm
  refine wp_loop_rounds 4 ?_
  rw [rounds_succ]
  go_wp2_with (fail)
  refine reg9x (by kernel_rfl) (g:=w.heap.size) (n:=6) (m:=1) (c:=1) (xi:=x) (zi:=0) (T:=3) (L:=[.int .i64 x,.int .i64 0,.int .i64 0,.int .i64 0,.int .i64 0,.int .i64 0]) (L':=[.int .i64 x,.int .i64 x,.int .i64 0,.int .i64 0,.int .i64 0,.int .i64 0]) _ rfl (fun _=>rfl) rfl rfl (by omega) (by omega) (by omega) rfl rfl rfl hG.out hB2 (Nat.le_refl _) rfl ?_
  intro w3 hG3 hB3
  clear hG hB2
  have hG:=hG3
  have hB2:=hB3
  clear hG3 hB3
  simp only [Exit.inBlock,Exit.then,rounds_succ,val,Fv]
  go_wp2_with (fail)
  refine reg9x (by kernel_rfl) (g:=w.heap.size) (n:=6) (m:=2) (c:=2) (xi:=x) (zi:=0) (T:=3) (L:=[.int .i64 x,.int .i64 x,.int .i64 0,.int .i64 0,.int .i64 0,.int .i64 0]) (L':=[.int .i64 x,.int .i64 x,.int .i64 x,.int .i64 x,.int .i64 0,.int .i64 0]) _ rfl (fun _=>rfl) rfl rfl (by omega) (by omega) (by omega) rfl rfl rfl hG.out hB2 (Nat.le_refl _) rfl ?_
  intro w3 hG3 hB3
  clear hG hB2
  have hG:=hG3
  have hB2:=hB3
  clear hG3 hB3
  simp only [Exit.inBlock,Exit.then,rounds_succ,val,Fv]
  go_wp2_with (fail)
  refine reg9x (by kernel_rfl) (g:=w.heap.size) (n:=6) (m:=4) (c:=2) (xi:=x) (zi:=0) (T:=3) (L:=[.int .i64 x,.int .i64 x,.int .i64 x,.int .i64 x,.int .i64 0,.int .i64 0]) (L':=[.int .i64 x,.int .i64 x,.int .i64 x,.int .i64 x,.int .i64 x,.int .i64 x]) _ rfl (fun _=>rfl) rfl rfl (by omega) (by omega) (by omega) rfl rfl rfl hG.out hB2 (Nat.le_refl _) rfl ?_
  intro w3 hG3 hB3
  clear hG hB2
  have hG:=hG3
  have hB2:=hB3
  clear hG3 hB3
  simp only [Exit.inBlock,Exit.then,rounds_succ,val,Fv]
  go_wp2_with (fail)
  go_ret
  first
    | exact ⟨_,_,rfl,Nat.le_refl _,hG.out,hB2⟩
    | exact ⟨_,rfl,Nat.le_refl _,⟨_,hG.out⟩,hB2⟩
set_option maxRecDepth 1000000 in
set_option maxHeartbeats 4000000 in
theorem rep7 (x:Int) (w:World) (b off cap:Nat) (hx:w.cell? ⟨b,off,none⟩=some (.int .i64 x)):Calls Tryz.prog 124 #[.slice (some ⟨b,off,none⟩) 1 cap,.int .i64 7] w fun e w' => ∃g T,e=.returned (.slice (some ⟨g,0,none⟩) 7 7)/\w.heap.size<=g/\w'.heap[g]? = some (.cells (List.replicate 7 (.int .i64 x)).toArray T (0,0))/\Below w.heap.size w w':=by
  have hm:=mul153 7 (by omega) w
  obtain ⟨W1,hW1⟩:∃W1,W1=w.alloc (.cells (List.replicate 7 (.int .i64 0)).toArray 3):=⟨_,rfl⟩
  have hk:(Instr.makeSlice 45 (.int .i64 7) (.int .i64 7)).run Tryz.prog w=.ok (.slice (some ⟨w.heap.size,0,none⟩) 7 7) W1:=by
    rw [hW1]
    exact mk3 7 (by omega) w
  have hB0:Hid (Below w.heap.size w W1):=hW1▸(Below.refl _ w).alloc (Nat.le_refl _) _
  have hG0:Hid (W1.heap[w.heap.size]? = some (.cells ([.int .i64 0,.int .i64 0,.int .i64 0,.int .i64 0,.int .i64 0,.int .i64 0,.int .i64 0]:List Value).toArray 3 (0,0))):=by
    subst hW1
    show _=_
    exact heap_alloc_new w _
  have hs0:Hid (∀j v,[Value.int .i64 x][j]? = some v->W1.cell? ((⟨b,off,none⟩:Addr).add j)=some v):=src1 (hW1▸cell_alloc hx _)
  clear hW1
  go_enter Tryz.func124,Tryz.ntmps124
  go_wp2_with (first
    | (go_at_call 162;go_fit hm;rintro e w' ⟨rfl,hw⟩;rw [hw])
    | (refine wpList_copy_splice (o:=⟨some 33,_,_,_,_,_⟩) rfl (.tmp 31) (.tmp 32) 45 45 rfl 3 Tryz.underlying45 sz3 (some ⟨w.heap.size,0,none⟩) (some ⟨b,off,none⟩) 7 7 1 cap rfl rfl w.heap.size 0 [.int .i64 0,.int .i64 0,.int .i64 0,.int .i64 0,.int .i64 0,.int .i64 0,.int .i64 0] 3 hG0.out [.int .i64 x] rfl (fun _=>⟨rfl,_,rfl,hs0.out⟩) (by simp) (by simp [Value.oneCell']) w.heap.size w hB0.out (Nat.le_refl _) ?_;intro w2 HG2 hB2))
  have hG:Hid (w2.heap[w.heap.size]? = some (.cells ([.int .i64 x,.int .i64 0,.int .i64 0,.int .i64 0,.int .i64 0,.int .i64 0,.int .i64 0]:List Value).toArray 3 (0,0))):=HG2.out
  clear HG2 hk hs0 hG0 hB0 hm
  refine wp_loop_rounds 4 ?_
  rw [rounds_succ]
  go_wp2_with (fail)
  refine reg9x (by kernel_rfl) (g:=w.heap.size) (n:=7) (m:=1) (c:=1) (xi:=x) (zi:=0) (T:=3) (L:=[.int .i64 x,.int .i64 0,.int .i64 0,.int .i64 0,.int .i64 0,.int .i64 0,.int .i64 0]) (L':=[.int .i64 x,.int .i64 x,.int .i64 0,.int .i64 0,.int .i64 0,.int .i64 0,.int .i64 0]) _ rfl (fun _=>rfl) rfl rfl (by omega) (by omega) (by omega) rfl rfl rfl hG.out hB2 (Nat.le_refl _) rfl ?_
  intro w3 hG3 hB3
  clear hG hB2
  have hG:=hG3
  have hB2:=hB3
  clear hG3 hB3
  simp only [Exit.inBlock,Exit.then,rounds_succ,val,Fv]
  go_wp2_with (fail)
  refine reg9x (by kernel_rfl) (g:=w.heap.size) (n:=7) (m:=2) (c:=2) (xi:=x) (zi:=0) (T:=3) (L:=[.int .i64 x,.int .i64 x,.int .i64 0,.int .i64 0,.int .i64 0,.int .i64 0,.int .i64 0]) (L':=[.int .i64 x,.int .i64 x,.int .i64 x,.int .i64 x,.int .i64 0,.int .i64 0,.int .i64 0]) _ rfl (fun _=>rfl) rfl rfl (by omega) (by omega) (by omega) rfl rfl rfl hG.out hB2 (Nat.le_refl _) rfl ?_
  intro w3 hG3 hB3
  clear hG hB2
  have hG:=hG3
  have hB2:=hB3
  clear hG3 hB3
  simp only [Exit.inBlock,Exit.then,rounds_succ,val,Fv]
  go_wp2_with (fail)
  refine reg9x (by kernel_rfl) (g:=w.heap.size) (n:=7) (m:=4) (c:=3) (xi:=x) (zi:=0) (T:=3) (L:=[.int .i64 x,.int .i64 x,.int .i64 x,.int .i64 x,.int .i64 0,.int .i64 0,.int .i64 0]) (L':=[.int .i64 x,.int .i64 x,.int .i64 x,.int .i64 x,.int .i64 x,.int .i64 x,.int .i64 x]) _ rfl (fun _=>rfl) rfl rfl (by omega) (by omega) (by omega) rfl rfl rfl hG.out hB2 (Nat.le_refl _) rfl ?_
  intro w3 hG3 hB3
  clear hG hB2
  have hG:=hG3
  have hB2:=hB3
  clear hG3 hB3
  simp only [Exit.inBlock,Exit.then,rounds_succ,val,Fv]
  go_wp2_with (fail)
  go_ret
  first
    | exact ⟨_,_,rfl,Nat.le_refl _,hG.out,hB2⟩
    | exact ⟨_,rfl,Nat.le_refl _,⟨_,hG.out⟩,hB2⟩
set_option maxRecDepth 1000000 in
set_option maxHeartbeats 4000000 in
theorem rep8 (x:Int) (w:World) (b off cap:Nat) (hx:w.cell? ⟨b,off,none⟩=some (.int .i64 x)):Calls Tryz.prog 124 #[.slice (some ⟨b,off,none⟩) 1 cap,.int .i64 8] w fun e w' => ∃g T,e=.returned (.slice (some ⟨g,0,none⟩) 8 8)/\w.heap.size<=g/\w'.heap[g]? = some (.cells (List.replicate 8 (.int .i64 x)).toArray T (0,0))/\Below w.heap.size w w':=by
  have hm:=mul153 8 (by omega) w
  obtain ⟨W1,hW1⟩:∃W1,W1=w.alloc (.cells (List.replicate 8 (.int .i64 0)).toArray 3):=⟨_,rfl⟩
  have hk:(Instr.makeSlice 45 (.int .i64 8) (.int .i64 8)).run Tryz.prog w=.ok (.slice (some ⟨w.heap.size,0,none⟩) 8 8) W1:=by
    rw [hW1]
    exact mk3 8 (by omega) w
  have hB0:Hid (Below w.heap.size w W1):=hW1▸(Below.refl _ w).alloc (Nat.le_refl _) _
  have hG0:Hid (W1.heap[w.heap.size]? = some (.cells ([.int .i64 0,.int .i64 0,.int .i64 0,.int .i64 0,.int .i64 0,.int .i64 0,.int .i64 0,.int .i64 0]:List Value).toArray 3 (0,0))):=by
    subst hW1
    show _=_
    exact heap_alloc_new w _
  have hs0:Hid (∀j v,[Value.int .i64 x][j]? = some v->W1.cell? ((⟨b,off,none⟩:Addr).add j)=some v):=src1 (hW1▸cell_alloc hx _)
  clear hW1
  go_enter Tryz.func124,Tryz.ntmps124
  go_wp2_with (first
    | (go_at_call 162;go_fit hm;rintro e w' ⟨rfl,hw⟩;rw [hw])
    | (refine wpList_copy_splice (o:=⟨some 33,_,_,_,_,_⟩) rfl (.tmp 31) (.tmp 32) 45 45 rfl 3 Tryz.underlying45 sz3 (some ⟨w.heap.size,0,none⟩) (some ⟨b,off,none⟩) 8 8 1 cap rfl rfl w.heap.size 0 [.int .i64 0,.int .i64 0,.int .i64 0,.int .i64 0,.int .i64 0,.int .i64 0,.int .i64 0,.int .i64 0] 3 hG0.out [.int .i64 x] rfl (fun _=>⟨rfl,_,rfl,hs0.out⟩) (by simp) (by simp [Value.oneCell']) w.heap.size w hB0.out (Nat.le_refl _) ?_;intro w2 HG2 hB2))
  have hG:Hid (w2.heap[w.heap.size]? = some (.cells ([.int .i64 x,.int .i64 0,.int .i64 0,.int .i64 0,.int .i64 0,.int .i64 0,.int .i64 0,.int .i64 0]:List Value).toArray 3 (0,0))):=HG2.out
  clear HG2 hk hs0 hG0 hB0 hm
  refine wp_loop_rounds 4 ?_
  rw [rounds_succ]
  go_wp2_with (fail)
  refine reg9x (by kernel_rfl) (g:=w.heap.size) (n:=8) (m:=1) (c:=1) (xi:=x) (zi:=0) (T:=3) (L:=[.int .i64 x,.int .i64 0,.int .i64 0,.int .i64 0,.int .i64 0,.int .i64 0,.int .i64 0,.int .i64 0]) (L':=[.int .i64 x,.int .i64 x,.int .i64 0,.int .i64 0,.int .i64 0,.int .i64 0,.int .i64 0,.int .i64 0]) _ rfl (fun _=>rfl) rfl rfl (by omega) (by omega) (by omega) rfl rfl rfl hG.out hB2 (Nat.le_refl _) rfl ?_
  intro w3 hG3 hB3
  clear hG hB2
  have hG:=hG3
  have hB2:=hB3
  clear hG3 hB3
  simp only [Exit.inBlock,Exit.then,rounds_succ,val,Fv]
  go_wp2_with (fail)
  refine reg9x (by kernel_rfl) (g:=w.heap.size) (n:=8) (m:=2) (c:=2) (xi:=x) (zi:=0) (T:=3) (L:=[.int .i64 x,.int .i64 x,.int .i64 0,.int .i64 0,.int .i64 0,.int .i64 0,.int .i64 0,.int .i64 0]) (L':=[.int .i64 x,.int .i64 x,.int .i64 x,.int .i64 x,.int .i64 0,.int .i64 0,.int .i64 0,.int .i64 0]) _ rfl (fun _=>rfl) rfl rfl (by omega) (by omega) (by omega) rfl rfl rfl hG.out hB2 (Nat.le_refl _) rfl ?_
  intro w3 hG3 hB3
  clear hG hB2
  have hG:=hG3
  have hB2:=hB3
  clear hG3 hB3
  simp only [Exit.inBlock,Exit.then,rounds_succ,val,Fv]
  go_wp2_with (fail)
  refine reg9x (by kernel_rfl) (g:=w.heap.size) (n:=8) (m:=4) (c:=4) (xi:=x) (zi:=0) (T:=3) (L:=[.int .i64 x,.int .i64 x,.int .i64 x,.int .i64 x,.int .i64 0,.int .i64 0,.int .i64 0,.int .i64 0]) (L':=[.int .i64 x,.int .i64 x,.int .i64 x,.int .i64 x,.int .i64 x,.int .i64 x,.int .i64 x,.int .i64 x]) _ rfl (fun _=>rfl) rfl rfl (by omega) (by omega) (by omega) rfl rfl rfl hG.out hB2 (Nat.le_refl _) rfl ?_
  intro w3 hG3 hB3
  clear hG hB2
  have hG:=hG3
  have hB2:=hB3
  clear hG3 hB3
  simp only [Exit.inBlock,Exit.then,rounds_succ,val,Fv]
  go_wp2_with (fail)
  go_ret
  first
    | exact ⟨_,_,rfl,Nat.le_refl _,hG.out,hB2⟩
    | exact ⟨_,rfl,Nat.le_refl _,⟨_,hG.out⟩,hB2⟩
end Go.V.W
namespace Go.V.W
open Go.Proofs Go.RowKit Go.Shelf
theorem rep_calls (x:Int) (n:Nat) (h1:1<=n) (h8:n<=8) (w:World) (b off cap:Nat) (hx:w.cell? ⟨b,off,none⟩=some (.int .i64 x)):Calls Tryz.prog 124 #[.slice (some ⟨b,off,none⟩) 1 cap,.int .i64 (n:Int)] w fun e w' => ∃g T,e=.returned (.slice (some ⟨g,0,none⟩) n n)/\w.heap.size<=g/\w'.heap[g]? = some (.cells (List.replicate n (.int .i64 x)).toArray T (0,0))/\Below w.heap.size w w':=by
  have:n=1\/n=2\/n=3\/n=4\/n=5\/n=6\/n=7\/n=8:=by omega
  rcases this with rfl | rfl | rfl | rfl | rfl | rfl | rfl | rfl
  · exact rep1 x w b off cap hx
  · exact rep2 x w b off cap hx
  · exact rep3 x w b off cap hx
  · exact rep4 x w b off cap hx
  · exact rep5 x w b off cap hx
  · exact rep6 x w b off cap hx
  · exact rep7 x w b off cap hx
  · exact rep8 x w b off cap hx
theorem con_repeat {P:Program} {f:FuncId} (he:∀(args:Array Value) (w:World),(callFunc f args).run P w=.ok (.enter f args) w)
    (h:∀(x:Int) (n:Nat),1<=n->n<=8 -> ∀(w:World) (b off cap:Nat),w.cell? ⟨b,off,none⟩=some (.int .i64 x)->Calls P f #[.slice (some ⟨b,off,none⟩) 1 cap,.int .i64 (n:Int)] w fun e w' => ∃g T,e=.returned (.slice (some ⟨g,0,none⟩) n n)/\w.heap.size<=g/\w'.heap[g]? = some (.cells (List.replicate n (.int .i64 x)).toArray T (0,0))/\Below w.heap.size w w') :
    Contract P f ⟨[(.slice (.int .i64),false),(.int .i64,false)],[.slice (.int .i64)],true,G_repeat⟩:=by
  intro w ψ U vs d out hargs hU hψ hgl ho
  obtain ⟨l,n,u⟩:=d
  have ho:G_repeat (l,n,u)=some out:=ho
  unfold G_repeat at ho
  split at ho
  · rename_i hc
    simp only [Bool.and_eq_true,decide_eq_true_eq] at hc
    obtain ⟨⟨hl,h1⟩,h8⟩:=hc
    have h1:1<=n:=h1
    have h8:n<=8:=h8
    have ho:=Option.some.inj ho
    subst ho
    obtain ⟨c1,r1,rfl,k2,c2,r2,rfl,k4,k5⟩:=hargs
    have k5:r2=[]:=k5
    subst k5
    have k4:c2=[.int .i64 n]:=k4
    subst k4
    obtain ⟨x,rfl⟩:∃x:Int,l=[x]:=by
      match l,hl with
      | [x],_=>exact ⟨x,rfl⟩
    simp only [Rep] at k2
    rcases k2 with ⟨_,k2⟩ | ⟨b,off,cap,rfl,kc,kS,kb,ke⟩
    · cases k2
    · have kx:=ke 0 (by simp)
      simp only [Rep,Nat.zero_mul,Nat.add_zero,List.get_eq_getElem,List.getElem_cons_zero,Kd.size] at kx
      have hcell:w.cell? ⟨b,off,none⟩=some (.int .i64 x):=by
        unfold cellsAt at kx
        split at kx
        · rename_i cs T fr hb
          simp only [World.cell?,hb]
          have h0:((cs.toList.drop off).take 1)[0]? = some (.int .i64 x):=by rw [kx];rfl
          rw [List.getElem?_take,List.getElem?_drop] at h0
          simpa using h0
        · cases kx
      have hn : @Eq Int n ((Int.toNat n:Nat):Int):=by omega
      have hcalls:=h x n.toNat (by omega) (by omega) w b off cap hcell
      rw [<- hn] at hcalls
      unfold CallsTo
      show match (callFunc f #[.slice (some ⟨b,off,none⟩) 1 cap,.int .i64 n]).run P w with
        | .ok (.value v) w'=>_
        | .ok (.enter f args) w'=>_
        | .ok (.row row args) w'=>_
        | _=>False
      rw [he]
      refine Calls.mono hcalls fun e w' hh => ?_
      obtain ⟨g,T,rfl,hg,hrow,bel⟩:=hh
      refine ⟨fun b=>if b=g then some (.res [.l]) else none,⟨bel.os,bel.tape,bel.output,bel.size,fun b hb _=>bel.block b hb,fun b z h => ?_,⟨[.slice (some ⟨g,0,none⟩) n.toNat n.toNat],rfl,?_⟩,trivial⟩⟩
      · split at h
        · rename_i e
          subst e
          exact ⟨.inl hg,Live.of hrow⟩
        · cases h
      · refine ⟨?_,rfl⟩
        have hlen:(List.replicate n.toNat x).length=n.toNat:=by simp
        refine .inr ⟨g,0,n.toNat,?_,?_,?_,⟨_,_,_,hrow,?_⟩,fun i hi => ?_⟩
        · show [Value.slice (some ⟨g,0,none⟩) n.toNat n.toNat]=[Value.slice (some ⟨g,0,none⟩) (List.replicate n.toNat x).length n.toNat]
          rw [hlen]
        · show (List.replicate n.toNat x).length<=n.toNat
          rw [hlen]
          exact Nat.le_refl _
        · show (if g=g then some (Lab.res [.l]) else none)=some (.res ([]++[.l]))
          simp
        · simp [Kd.size]
        · have hi:i<(List.replicate n.toNat x).length:=hi
          show cellsAt w' g (0+i*1) 1=[.int .i64 ((List.replicate n.toNat x).get ⟨i,hi⟩)]
          rw [hlen] at hi
          unfold cellsAt
          rw [hrow]
          simp only [List.get_eq_getElem,List.getElem_replicate,List.drop_replicate,List.take_replicate]
          rw [show min 1 (n.toNat-(0+i*1))=1 by omega]
          rfl
  · cases ho
theorem C_repeat:Contract Tryz.prog 124 ⟨[(.slice (.int .i64),false),(.int .i64,false)],[.slice (.int .i64)],true,G_repeat⟩:=
  con_repeat (enters_of Tryz.func124 (by kernel_rfl) rfl) rep_calls
end Go.V.W
namespace Go.V.W
open Go.Proofs
theorem C_q8q:Contract Tryz.prog 124 S_q8q:=C_repeat
end Go.V.W
namespace Go.V.W
open Go.Proofs
theorem containsAny_any (c:List UInt8):∀l:List UInt8,Lib.containsAny l c=l.any fun b=>c.contains b:=by
 intro l
 induction l with
 | nil=>simp [Lib.containsAny,Lib.indexAny]
 | cons b l ih=>
  unfold Lib.containsAny at ih |-
  unfold Lib.indexAny
  rw [List.any_cons,<- ih]
  by_cases hb:c.contains b=true
  ·have hb':b∈c:=by simpa using hb
   simp [hb']
  ·simp only [Bool.not_eq_true] at hb
   rw [hb]
   simp only [Bool.false_eq_true,if_false,Bool.false_or]
   have:=Lib.indexAny_ge c l
   by_cases he:Lib.indexAny l c = -1
   ·simp [he]
   ·have e1:(Lib.indexAny l c == -1)=false:=by simpa using he
    rw [e1]
    simp only [Bool.false_eq_true,if_false]
    have e2:(0<=Lib.indexAny l c):=by omega
    have e3:(0<=Lib.indexAny l c+1):=by omega
    simp [e2,e3]
end Go.V.W
namespace Go.V.W
open Go.Proofs
def specB (a b:ByteArray):Bool := !seq_ a (⟨#[]⟩:ByteArray)&&((a.data.toList.all (fun b=>printed1 b && !(b.toNat==35))&&decide ((a.size:Int)<=160))&&(!(a.data.toList.any (fun b=>((b.toNat:Int)==64)))&&(b.data.toList.all (fun b=>printed1 b && !(b.toNat==35))&&decide ((b.size:Int)<=200))))
def implB (a b:ByteArray):Bool:=((decide ((a.size:Int)>=1)&&decide ((a.size:Int)<=160))&&(printedB a && !Lib.containsAny a.data.toList [35,64]))&&(decide ((b.size:Int)<=200)&&(printedB b && !Lib.containsAny b.data.toList [35]))
theorem all_not (l:List UInt8) (p q:UInt8->Bool):l.all (fun b=>p b && !q b)=(l.all p && !l.any q):=by
 induction l with
 | nil=>rfl
 | cons b l ih=>
  simp only [List.all_cons,List.any_cons,ih]
  cases p b<;>cases q b<;>cases l.all p<;>cases l.any q<;>rfl
theorem any_or (l:List UInt8) (p q:UInt8->Bool):l.any (fun b=>p b||q b)=(l.any p||l.any q):=by
 induction l with
 | nil=>rfl
 | cons b l ih=>
  simp only [List.any_cons,ih]
  cases p b<;>cases q b<;>cases l.any p<;>cases l.any q<;>rfl
theorem has35 (l:List UInt8):Lib.containsAny l [35]=l.any (fun b=>b.toNat==35):=by
 rw [containsAny_any]
 congr 1
 funext b
 simp only [List.contains_cons,List.contains_nil,Bool.or_false]
 rw [Bool.eq_iff_iff]
 simp only [beq_iff_eq]
 exact ⟨fun h=>by rw [h];rfl,fun h=>UInt8.toNat_inj.1 h⟩
theorem has3564 (l:List UInt8):Lib.containsAny l [35,64]=(l.any (fun b=>b.toNat==35)||l.any (fun b=>((b.toNat:Int)==64))):=by
 rw [containsAny_any,<- any_or]
 congr 1
 funext b
 simp only [List.contains_cons,List.contains_nil,Bool.or_false]
 rw [Bool.eq_iff_iff]
 simp only [Bool.or_eq_true,beq_iff_eq]
 constructor
 ·rintro (h | h)
  ·left;rw [h];rfl
  ·right;rw [h];rfl
 ·rintro (h | h)
  ·left;exact UInt8.toNat_inj.1 h
  ·right
   have h64:b.toNat=64:=by omega
   exact UInt8.toNat_inj.1 (by rw [h64];rfl)
theorem empty_size (a:ByteArray):seq_ a (⟨#[]⟩:ByteArray) = !decide ((a.size:Int)>=1):=by
 unfold seq_
 have h1:a.toList=a.data.toList:=Lib.toList_data a
 have h2:(⟨#[]⟩:ByteArray).toList=[]:=Lib.toList_data _
 have h3:a.data.toList.length=a.size:=by simp
 rw [h1,h2]
 cases hl:a.data.toList with
 | nil=>
  rw [hl] at h3
  simp only [List.length_nil] at h3
  simp [<- h3]
 | cons x l=>
  rw [hl] at h3
  simp only [List.length_cons] at h3
  have:decide ((a.size:Int)>=1)=true:=by simp;omega
  rw [this]
  rfl
theorem same (a b:ByteArray):specB a b=implB a b:=by
 unfold specB implB
 rw [empty_size,all_not,all_not,has35,has3564]
 unfold printedB
 cases decide ((a.size:Int)>=1)<;>cases a.data.toList.all printed1<;>cases a.data.toList.any (fun b=>b.toNat==35)<;>cases a.data.toList.any (fun b=>((b.toNat:Int)==64))<;>cases decide ((a.size:Int)<=160)<;>cases decide ((b.size:Int)<=200)<;>cases b.data.toList.all printed1<;>cases b.data.toList.any (fun b=>b.toNat==35)<;>rfl
end Go.V.W
namespace Go.V.W
open Go.Proofs
theorem lim_max {n:Nat} (h:n<=lim):n<=maxLen:=by unfold lim at h;unfold maxLen;omega
end Go.V.W
namespace Go.V.W
open Go.Proofs
def allB (p:Nat->Bool):Nat->Nat->Bool
 | 0,_=>true
 | m+1,i=>p i&&allB p m (i+1)
theorem allB_iff {p:Nat->Bool}:∀{m i:Nat},allB p m i=true ↔ ∀j,i<=j->j<i+m->p j=true:=by
 intro m
 induction m with
 | zero=>intro i;simp only [allB,true_iff];intro j h1 h2;omega
 | succ m ih=>
  intro i
  simp only [allB,Bool.and_eq_true,ih]
  constructor
  ·rintro ⟨h1,h2⟩ j h3 h4
   by_cases e:j=i
   ·subst e;exact h1
   ·exact h2 j (by omega) (by omega)
  ·intro h
   exact ⟨h i (Nat.le_refl _) (by omega),fun j h1 h2=>h j (by omega) (by omega)⟩
theorem loop_all {H O:Type} {L:Nat->H->Option O} {r:(H->Option O)->H->Option O} (hL:∀k d,L (k+1) d=r (L k) d) {n:Nat} {mk:Nat->H} {p:Nat->Bool} {o f:O}
  (hr:∀back i,i<n->r back (mk i)=if p i=true then back (mk (i+1)) else some o) (hf:∀back,r back (mk n)=some f) :
  ∀k i,i<=n->n<=i+k->L (k+1) (mk i)=some (if allB p (n-i) i=true then f else o):=by
 intro k
 induction k with
 | zero=>
  intro i h1 h2
  have e:i=n:=by omega
  subst e
  rw [hL,hf,Nat.sub_self]
  rfl
 | succ k ih=>
  intro i h1 h2
  by_cases h:i<n
  ·rw [hL,hr _ i h,show n-i=(n-(i+1))+1 by omega]
   simp only [allB]
   by_cases hp:p i=true
   ·simp only [hp,if_true,Bool.true_and]
    exact ih (i+1) (by omega) (by omega)
   ·simp only [Bool.not_eq_true] at hp
    simp only [hp,Bool.false_eq_true,if_false,Bool.false_and]
  ·have e:i=n:=by omega
   subst e
   rw [hL,hf,Nat.sub_self]
   rfl
theorem wrap_down {i:Nat} (h:0<i) (hn:i<=maxLen):IntKind.wrap .i64 ((i:Int)-1)=((i-1:Nat):Int):=by
 unfold maxLen at hn
 rw [Go.IntWalk.i64_in _ (by omega)]
 omega
theorem lt_dec {i n:Nat} (h:i<n):decide ((i:Int)<(n:Int))=true:=by simp;omega
theorem lt_not (n:Nat):decide ((n:Int)<(n:Int))=false:=by simp
theorem pos_dec {i:Nat}:decide ((i:Int)>(0:Int))=decide (0<i):=by simp
theorem bool_eq_iff {a b:Bool} (h:a=true↔b=true):a=b:=by cases a<;>cases b<;>simp_all
theorem all_at {e:Kd} (l:List e.den) (q:e.den->Bool):allB (fun i=>q (at_ e l i)) l.length 0=l.all q:=by
 apply bool_eq_iff
 rw [allB_iff,List.all_eq_true]
 constructor
 ·intro h x hx
  obtain ⟨i,hi,rfl⟩:=List.getElem_of_mem hx
  have:=h i (by omega) (by omega)
  rw [at_get hi] at this
  exact this
 ·intro h j _ hj
  have hj:j<l.length:=by omega
  rw [at_get hj]
  exact h _ (List.getElem_mem hj)
theorem risingE_iff:∀l:List E,risingE l=true ↔ ∀j,0<j->j<l.length->lessE (at_ K_Piiq l (j-1)) (at_ K_Piiq l j)=true:=by
 intro l
 induction l with
 | nil=>simp only [risingE,true_iff];intro j _ h;exact absurd h (by simp)
 | cons a l ih=>
  cases l with
  | nil=>simp only [risingE,true_iff];intro j h1 h2;simp only [List.length_cons,List.length_nil] at h2;omega
  | cons b l=>
   simp only [risingE,Bool.and_eq_true,ih]
   constructor
   ·rintro ⟨h1,h2⟩ j h3 h4
    by_cases e:j=1
    ·subst e;exact h1
    ·have:=h2 (j-1) (by omega) (by simp only [List.length_cons] at h4 |-;omega)
     obtain ⟨k,rfl⟩:∃k,j=k+2:=⟨j-2,by omega⟩
     exact this
   ·intro h
    refine ⟨h 1 (by omega) (by simp),fun j h1 h2 => ?_⟩
    have:=h (j+1) (by omega) (by simp only [List.length_cons] at h2 |-;omega)
    obtain ⟨k,rfl⟩:∃k,j=k+1:=⟨j-1,by omega⟩
    exact this
theorem l1In_eq (x lo hi:Int) (u:Unit):g_spec_l1In (x,lo,hi,u)=(inB lo hi x,()):=by
 unfold g_spec_l1In inB
 by_cases h:lo<=x<;>simp [h]
theorem within_eq (x lo hi:Int) (u:Unit):g_q77q (x,lo,hi,u)=(inB lo hi x,()):=by
 unfold g_q77q inB
 by_cases h:lo<=x<;>simp [h]
theorem l2Before_eq (a b:E) (u:Unit):g_q49q (a,b,u)=(lessE a b,()):=by
 obtain ⟨a1,a2,_⟩:=a
 obtain ⟨b1,b2,_⟩:=b
 unfold g_q49q lessE
 by_cases h:a1<b1
 ·simp [h]
 ·by_cases h2:a1=b1<;>simp [h,h2]
theorem cmpI_eq (a b:Int) (u:Unit):g_q35q (a,b,u)=(if a<b then -1 else if b<a then 1 else 0,()):=by
 unfold g_q35q g_q53q
 by_cases h:a<b
 ·simp [h]
 ·by_cases h2:b<a<;>simp [h,h2]
def cmpW:List Int->List Int->Option Int
 | [],_=>none
 | _::_,[]=>some 1
 | a::l,b::m=>if a<b then some (-1) else if b<a then some 1 else cmpW l m
theorem cmpL_W:∀l m:List Int,cmpL l m=match cmpW l m with
  | some r=>r
  | none=>if l.length<m.length then -1 else 0:=by
 intro l
 induction l with
 | nil=>intro m;cases m<;>simp [cmpL,cmpW]
 | cons a l ih=>
  intro m
  cases m with
  | nil=>simp [cmpL,cmpW]
  | cons b m=>
   simp only [cmpL,cmpW]
   by_cases ha:a<b
   ·simp [ha]
   ·by_cases hb:b<a
    ·simp [ha,hb]
    ·simp only [ha,hb,if_false,ih m,List.length_cons,Nat.add_lt_add_iff_right]
theorem compare_l0 (N:Nat) (l m:List Int) (hl:l.length<=lim) (hm:m.length<=lim):∀n i,l.length<=i+n->i<=l.length->i<=m.length->q7q_l0 N (n+1) (l,m,l,(l.length:Int),(i:Int),()) = 
  match cmpW (l.drop i) (m.drop i) with
  | some r=>some (.inl (r,()))
  | none=>some (.inr (.inl (l,m,()))):=by
 have hmx:=lim_max hl
 intro n
 induction n with
 | zero=>
  intro i h1 h2 h3
  have e:i=l.length:=by omega
  subst e
  rw [List.drop_of_length_le (Nat.le_refl l.length)]
  simp [q7q_l0,q7q_l0_r,cmpW]
 | succ n ih=>
  intro i h1 h2 h3
  by_cases hi:i<l.length
  ·show q7q_l0_r N (q7q_l0 N (n+1)) (l,m,l,(l.length:Int),(i:Int),())=_
   unfold q7q_l0_r
   simp only [lt_dec hi,if_true,idxIn_nat hi,Int.toNat_natCast,wrap_up hi hmx]
   rw [List.drop_eq_getElem_cons hi]
   by_cases hi':i<m.length
   ·have hge:decide ((i:Int)>=(m.length:Int))=false:=by simp;omega
    rw [List.drop_eq_getElem_cons hi']
    simp only [hge,Bool.false_eq_true,if_false,idxIn_nat hi',if_true,cmpI_eq,at_get (e:=I) hi,at_get (e:=I) (l:=m) hi',List.get_eq_getElem,cmpW]
    by_cases ha:l[i]<m[i]
    ·simp [ha]
    ·by_cases hb:m[i]<l[i]
     ·simp [ha,hb]
     ·simp only [ha,hb,if_false,bne_self_eq_false,Bool.false_eq_true]
      exact ih (i+1) (by omega) (by omega) (by omega)
   ·have hge:decide ((i:Int)>=(m.length:Int))=true:=by simp;omega
    rw [List.drop_of_length_le (Nat.le_of_not_lt hi')]
    simp only [hge,if_true,cmpW]
  ·have e:i=l.length:=by omega
   subst e
   rw [List.drop_of_length_le (Nat.le_refl l.length)]
   simp [q7q_l0,q7q_l0_r,cmpW]
theorem compare_lim (d) (r) (h:G_compare d=some r):∃N,F_q7q N d=some r:=by
 obtain ⟨l,m,_⟩:=d
 unfold G_compare at h
 split at h
 ·rename_i hl
  simp only [Bool.and_eq_true] at hl
  have hm:m.length<=lim:=of_decide_eq_true hl.2
  have hl:l.length<=lim:=of_decide_eq_true hl.1
  have h:=Option.some.inj h
  subst h
  refine ⟨l.length+1,?_⟩
  unfold F_q7q
  have:=compare_l0 (l.length+1) l m hl hm l.length 0 (by omega) (by omega) (by omega)
  simp only [Int.natCast_zero,List.drop_zero] at this
  simp only [this,cmpL_W]
  cases cmpW l m with
  | some r=>rfl
  | none=>
   by_cases hlt:l.length<m.length
   ·have:decide ((l.length:Int)<(m.length:Int))=true:=by simp;omega
    simp only [Option.bind_some,this,if_true,hlt]
   ·have:decide ((l.length:Int)<(m.length:Int))=false:=by simp;omega
    simp only [Option.bind_some,this,Bool.false_eq_true,if_false,hlt]
 ·cases h
theorem graph_allB (n:Int) (l:List E):allB (fun i=>edgeB n (at_ K_Piiq l i)&&(!decide (0<i)||lessE (at_ K_Piiq l (i-1)) (at_ K_Piiq l i))) l.length 0=(l.all (edgeB n)&&risingE l):=by
 rw [<- all_at (e:=K_Piiq) l (edgeB n)]
 apply bool_eq_iff
 rw [Bool.and_eq_true,allB_iff,allB_iff,risingE_iff]
 simp only [Bool.and_eq_true,Bool.or_eq_true,Bool.not_eq_true',decide_eq_false_iff_not]
 constructor
 ·intro h
  exact ⟨fun j h1 h2=>(h j h1 h2).1,fun j h1 h2=>((h j (by omega) (by omega)).2).resolve_left (by omega)⟩
 ·rintro ⟨h1,h2⟩ j h3 h4
  refine ⟨h1 j h3 h4,?_⟩
  by_cases h0:0<j
  ·exact .inr (h2 j h0 (by omega))
  ·exact .inl h0
theorem cmp2 (a b:E):decide (cmpL [a.1,a.2.1] [b.1,b.2.1]>=0) = !lessE a b:=by
 obtain ⟨a1,a2,_⟩:=a
 obtain ⟨b1,b2,_⟩:=b
 simp only [cmpL,lessE]
 by_cases h1:a1<b1
 ·simp [h1]
 ·by_cases h2:b1<a1
  ·have:¬a1=b1:=by omega
   simp [h1,h2,this]
  ·have e:a1=b1:=by omega
   subst e
   by_cases h3:a2<b2
   ·simp [h3]
   ·by_cases h4:b2<a2<;>simp [h3,h4]
theorem edge_eq (n a b:Int):(inB 0 (n-1) a&&inB 0 (n-1) b&&decide (a<b))=(decide (0<=a)&&decide (a<b)&&decide (b<n)):=by
 apply bool_eq_iff
 simp only [inB,Bool.and_eq_true,decide_eq_true_eq]
 omega
theorem okL2 (a b:Int):okL [a,b]=true:=decide_eq_true (show 2<=lim by unfold lim;omega)
theorem IsGraph_lim (d) (r) (h:G_graph d=some r):∃N,F_q59q N d=some r:=by
 obtain ⟨⟨n,l,u⟩,_⟩:=d
 unfold G_graph at h
 split at h
 ·rename_i hl
  have hl:l.length<=lim:=of_decide_eq_true hl
  have hmx:=lim_max hl
  have h:=Option.some.inj h
  subst h
  refine ⟨l.length+1,?_⟩
  unfold F_q59q
  simp only [within_eq,graphB]
  cases hn:inB 0 8 n with
  | false=>
   simp only [inB] at hn
   simp only [Bool.not_false,if_true,hn,Bool.false_and]
  | true=>
   have hn':=hn
   simp only [inB] at hn'
   simp only [Bool.not_true,Bool.false_eq_true,if_false,hn',Bool.true_and]
   have:=loop_all (L:=q59q_l0 (l.length+1)) (r:=q59q_l0_r (l.length+1)) (fun _ _=>rfl) (n:=l.length) (mk:=fun i=>((n,l,u),l,(l.length:Int),(i:Int),())) (p:=fun i=>edgeB n (at_ K_Piiq l i)&&(!decide (0<i)||lessE (at_ K_Piiq l (i-1)) (at_ K_Piiq l i))) (o:=.inl (false,())) (f:=.inr (.inl ()))
    (by
     intro back i hi
     unfold q59q_l0_r
     simp only [lt_dec hi,if_true,idxIn_nat hi,Int.toNat_natCast,wrap_up hi hmx,pos_dec]
     by_cases c1:(at_ K_Piiq l i).1<0
     ·have c1':¬(0<=(at_ K_Piiq l i).1):=Int.not_le.2 c1
      simp only [c1,decide_true,if_true,edgeB,c1',decide_false,Bool.false_and,Bool.false_eq_true,if_false]
     ·have c1':(0<=(at_ K_Piiq l i).1):=Int.not_lt.1 c1
      by_cases c2:(at_ K_Piiq l i).1<(at_ K_Piiq l i).2.1
      ·have c2':¬((at_ K_Piiq l i).1>=(at_ K_Piiq l i).2.1):=Int.not_le.2 c2
       by_cases c3:(at_ K_Piiq l i).2.1<n
       ·have c3':¬((at_ K_Piiq l i).2.1>=n):=Int.not_le.2 c3
        by_cases h0:0<i
        ·have h1:i-1<l.length:=by omega
         simp only [c1,c1',c2,c2',c3,c3',edgeB,decide_true,decide_false,if_true,if_false,Bool.false_eq_true,Bool.true_and,h0,wrap_down h0 (show i<=maxLen by omega),idxIn_nat h1,Int.toNat_natCast,Bool.not_true,Bool.false_or,G_compare,okL2,Option.bind_some,cmp2]
         cases lessE (at_ K_Piiq l (i-1)) (at_ K_Piiq l i)<;>rfl
        ·simp only [c1,c1',c2,c2',c3,c3',edgeB,decide_true,decide_false,if_true,if_false,Bool.false_eq_true,Bool.true_and,h0,Bool.not_false,Bool.true_or]
       ·have c3':((at_ K_Piiq l i).2.1>=n):=Int.not_lt.1 c3
        simp only [c1,c1',c2,c2',c3,c3',edgeB,decide_true,decide_false,if_true,if_false,Bool.false_eq_true,Bool.and_false,Bool.false_and]
      ·have c2':((at_ K_Piiq l i).1>=(at_ K_Piiq l i).2.1):=Int.not_lt.1 c2
       simp only [c1,c1',c2,c2',edgeB,decide_true,decide_false,if_true,if_false,Bool.false_eq_true,Bool.and_false,Bool.false_and])
    (by intro back;unfold q59q_l0_r;simp only [lt_not,Bool.false_eq_true,if_false]) l.length 0 (by omega) (by omega)
   simp only [Int.natCast_zero] at this
   simp only [this,Nat.sub_zero,graph_allB]
   cases (l.all (edgeB n)&&risingE l)<;>rfl
 ·cases h
theorem l2Good_lim (d) (r) (h:G_graph d=some r):∃N,F_q76q N d=some r:=by
 obtain ⟨⟨n,l,u⟩,_⟩:=d
 unfold G_graph at h
 split at h
 ·rename_i hl
  have hl:l.length<=lim:=of_decide_eq_true hl
  have hmx:=lim_max hl
  have h:=Option.some.inj h
  subst h
  refine ⟨l.length+1,?_⟩
  unfold F_q76q
  have:=loop_all (L:=q76q_l0 (l.length+1)) (r:=q76q_l0_r (l.length+1)) (fun _ _=>rfl) (n:=l.length) (mk:=fun i=>((n,l,u),(i:Int),())) (p:=fun i=>(inB 0 (IntKind.wrap .i64 (n-1)) (at_ K_Piiq l i).1&&inB 0 (IntKind.wrap .i64 (n-1)) (at_ K_Piiq l i).2.1&&decide ((at_ K_Piiq l i).1<(at_ K_Piiq l i).2.1))&&(!decide (0<i)||lessE (at_ K_Piiq l (i-1)) (at_ K_Piiq l i))) (o:=.inl (false,())) (f:=.inr (.inl ((n,l,u),())))
    (by
     intro back i hi
     unfold q76q_l0_r
     simp only [lt_dec hi,if_true,idxIn_nat hi,Int.toNat_natCast,wrap_up hi hmx,pos_dec,l1In_eq,l2Before_eq]
     cases c1:inB 0 (IntKind.wrap .i64 (n-1)) (at_ K_Piiq l i).1 with
     | false=>rfl
     | true=>
      cases c2:inB 0 (IntKind.wrap .i64 (n-1)) (at_ K_Piiq l i).2.1 with
      | false=>rfl
      | true=>
       by_cases c3:(at_ K_Piiq l i).1<(at_ K_Piiq l i).2.1
       ·have c3':¬((at_ K_Piiq l i).1>=(at_ K_Piiq l i).2.1):=Int.not_le.2 c3
        by_cases h0:0<i
        ·have h1:i-1<l.length:=by omega
         simp only [c3,c3',decide_true,decide_false,if_true,if_false,Bool.false_eq_true,Bool.true_and,h0,wrap_down h0 (show i<=maxLen by omega),idxIn_nat h1,Int.toNat_natCast,Bool.not_true,Bool.false_or]
         cases lessE (at_ K_Piiq l (i-1)) (at_ K_Piiq l i)<;>rfl
        ·simp only [c3,c3',decide_true,decide_false,if_true,if_false,Bool.false_eq_true,Bool.true_and,h0,Bool.not_false,Bool.true_or,Bool.not_true]
       ·have c3':((at_ K_Piiq l i).1>=(at_ K_Piiq l i).2.1):=Int.not_lt.1 c3
        simp only [c3,c3',decide_true,decide_false,if_true,if_false,Bool.false_eq_true,Bool.true_and,Bool.false_and,Bool.not_true])
    (by intro back;unfold q76q_l0_r;simp only [lt_not,Bool.false_eq_true,if_false]) l.length 0 (by omega) (by omega)
  simp only [Int.natCast_zero] at this
  simp only [this,Nat.sub_zero,graphB]
  cases hn:inB 0 8 n with
  | false=>
   have hn':=hn
   simp only [inB] at hn'
   simp only [hn',Bool.false_and]
   split<;>simp [l1In_eq,hn]
  | true=>
   have hn':=hn
   simp only [inB] at hn'
   simp only [hn',Bool.true_and]
   simp only [Bool.and_eq_true,decide_eq_true_eq] at hn'
   have hw:IntKind.wrap .i64 (n-1)=n-1:=wrap_in _ (by omega) (by omega)
   have hp:(fun i=>(inB 0 (IntKind.wrap .i64 (n-1)) (at_ K_Piiq l i).1&&inB 0 (IntKind.wrap .i64 (n-1)) (at_ K_Piiq l i).2.1&&decide ((at_ K_Piiq l i).1<(at_ K_Piiq l i).2.1))&&(!decide (0<i)||lessE (at_ K_Piiq l (i-1)) (at_ K_Piiq l i)))=(fun i=>edgeB n (at_ K_Piiq l i)&&(!decide (0<i)||lessE (at_ K_Piiq l (i-1)) (at_ K_Piiq l i))):=by
    funext i
    congr 1
    rw [hw]
    exact edge_eq n _ _
   simp only [hp,graph_allB]
   cases (l.all (edgeB n)&&risingE l)<;>simp [l1In_eq,hn]
 ·cases h
end Go.V.W
namespace Go.V.W
open Go.Proofs
theorem okL_of {α:Type} {l:List α} (h:l.length<=1048576):okL l=true:=decide_eq_true (by unfold lim;omega)
theorem graphB_n {n:Int} {l:List E} {u:Unit} (h:graphB (n,l,u)=true):0<=n/\n<=8:=by
 unfold graphB at h
 simp only [Bool.and_eq_true,decide_eq_true_eq] at h
 exact ⟨h.1.1.1,h.1.1.2⟩
end Go.V.W
namespace Go.V.W
open Go.Proofs
theorem okL_lim {α:Type} {l:List α} (h:okL l=true):l.length<=lim:=of_decide_eq_true h
end Go.V.W
namespace Go.V.W
open Go.Proofs
theorem all_at_of {e:Kd} {l:List e.den} {q:e.den->Bool} (h:l.all q=true) {i:Nat} (hi:i<l.length):q (at_ e l i)=true:=by
 rw [at_get hi]
 exact List.all_eq_true.1 h _ (List.get_mem l ⟨i,hi⟩)
theorem loop_idx {H O:Type} {L:Nat->H->Option O} {r:(H->Option O)->H->Option O} (hL:∀k d,L (k+1) d=r (L k) d) {e:Kd} (l:List e.den) {mk:Nat->H} {q:e.den->Bool} {o:Nat->O} {f:O}
  (hr:∀back i,i<l.length->r back (mk i)=if q (at_ e l i)=true then some (o i) else back (mk (i+1))) (hf:∀back,r back (mk l.length)=some f) :
  ∀k i,i<=l.length->l.length<=i+k->L (k+1) (mk i)=some (match idxN q (l.drop i) i with | some j=>o j | none=>f):=by
 intro k
 induction k with
 | zero=>
  intro i h1 h2
  have e:i=l.length:=by omega
  subst e
  rw [hL,hf,List.drop_of_length_le (Nat.le_refl _)]
  rfl
 | succ k ih=>
  intro i h1 h2
  by_cases h:i<l.length
  ·rw [hL,hr _ i h,List.drop_eq_getElem_cons h]
   simp only [idxN]
   have e:at_ e l i=l[i]:=at_get h
   rw [e]
   by_cases hq:q l[i]=true
   ·simp only [hq,if_true]
   ·simp only [hq,if_false]
    exact ih (i+1) (by omega) (by omega)
  ·have e:i=l.length:=by omega
   subst e
   rw [hL,hf,List.drop_of_length_le (Nat.le_refl _)]
   rfl
theorem idxI_ge {α:Type} (q:α->Bool):∀(l:List α) (i:Nat),decide (idxI (idxN q l i)>=0)=l.any q:=by
 intro l
 induction l with
 | nil=>intro i;rfl
 | cons x l ih=>
  intro i
  simp only [idxN,List.any_cons]
  by_cases h:q x=true
  ·simp [h,idxI]
  ·have h':q x=false:=by simpa using h
   simp only [h,if_false,h',Bool.false_or,ih]
   exact ih (i+1)
theorem okLL_of {l:List (List Int)} (h:okLL l=true):okL l=true/\l.all okL=true:=by
 unfold okLL at h
 simpa only [Bool.and_eq_true] using h
theorem okLL_small {l:List (List Int)} (h1:l.length<=1048576) (h2:l.all (fun x=>decide (x.length<=1048576))=true):okLL l=true:=by
 unfold okLL
 rw [Bool.and_eq_true]
 exact ⟨okL_of h1,List.all_eq_true.2 fun x hx=>okL_of (of_decide_eq_true (List.all_eq_true.1 h2 x hx))⟩
end Go.V.W
namespace Go.V.W
open Go.Proofs
theorem edge_nat {n:Nat} {e:E} (h:edgeB (n:Int) e=true):∃a b:Nat,a<b/\b<n/\e=((a:Int),(b:Int),()):=by
 obtain ⟨h1,h2,h3,h4⟩:=edgeB_nat h
 exact ⟨_,_,h1,h2,by rw [<- h3,<- h4]⟩
theorem toI_zero (n:Nat):List.replicate n (0:Int)=toI (List.replicate n 0):=by simp [toI]
theorem nonneg_dec (y:Nat):decide (0<=(y:Int))=true:=by simp
theorem netOf_l0 (N:Nat) (n:Nat) (hn:n<=8) (z:Nt) (u:Unit) (es:List E) (hl:es.length<=lim) (he:es.all (edgeB (n:Int))=true):∀k j (ms:List Nat),okN n ms->es.length<=j+k->j<=es.length ->
  impl_netOf_l0 N (k+1) (z,(toI ms,u),es,(es.length:Int),(j:Int),())=some (.inl (z,(toI ((es.drop j).foldl addN ms),u),())):=by
 intro k
 induction k with
 | zero=>
  intro j ms hm h1 h2
  have e:j=es.length:=by omega
  subst e
  rw [List.drop_of_length_le (Nat.le_refl _)]
  simp [impl_netOf_l0,impl_netOf_l0_r]
 | succ k ih=>
  intro j ms hm h1 h2
  by_cases hj:j<es.length
  ·have hee:edgeB (n:Int) (at_ K_Piiq es j)=true:=all_at_of (e:=K_Piiq) he hj
   have hat:at_ K_Piiq es j=es[j]:=at_get (e:=K_Piiq) hj
   obtain ⟨a,b,hab,hb,hx⟩:=edge_nat hee
   have k1:=addN_ok hn hm hee
   have ha8:a<8:=by omega
   have hb8:b<8:=by omega
   have o1:=orN_ok hm (show a<n by omega) hb8
   show impl_netOf_l0_r N (impl_netOf_l0 N (k+1)) (z,(toI ms,u),es,(es.length:Int),(j:Int),())=_
   unfold impl_netOf_l0_r
   have i1:idxIn (a:Int) ms.length=true:=idxIn_nat (by rw [hm.1];omega)
   have i2:idxIn (b:Int) ms.length=true:=idxIn_nat (by rw [hm.1];omega)
   have p1:=pow_small hb8
   have p2:=pow_small ha8
   simp only [lt_dec hj,if_true,idxIn_nat hj,Int.toNat_natCast,wrap_up hj (lim_max hl),hx,toI_len,i1,i2,nonneg_dec,shl_one hb8,shl_one ha8,at_toI,bits_or (hm.2 a) p1,toI_set,List.length_set]
   have hb2:(ms.set a (ms.getD a 0|||2 ^ b)).getD b 0<256:=o1.2 b
   simp only [bits_or hb2 p2,toI_set]
   rw [List.drop_eq_getElem_cons hj,List.foldl_cons,<- hat,hx]
   have hadd:addN ms ((a:Int),(b:Int),())=(ms.set a (ms.getD a 0|||2 ^ b)).set b ((ms.set a (ms.getD a 0|||2 ^ b)).getD b 0|||2 ^ a):=by
    simp only [addN,orN,Int.toNat_natCast]
   rw [hx] at k1
   rw [hadd] at k1 |-
   exact ih (j+1) _ k1 (by omega) (by omega)
  ·have e:j=es.length:=by omega
   subst e
   rw [List.drop_of_length_le (Nat.le_refl _)]
   simp [impl_netOf_l0,impl_netOf_l0_r]
theorem netOf_lim (d) (r) (h:G_netOf d=some r):∃N,F_impl_netOf N d=some r:=by
 obtain ⟨⟨n,es,u⟩,w⟩:=d
 unfold G_netOf at h
 split at h
 ·rename_i hc
  simp only [Bool.and_eq_true,decide_eq_true_eq] at hc
  obtain ⟨⟨⟨h0,h8⟩,hl⟩,he⟩:=hc
  have h:=Option.some.inj h
  subst h
  obtain ⟨m,rfl⟩:∃m:Nat,n=(m:Int):=⟨n.toNat,by omega⟩
  have hm8:m<=8:=by omega
  refine ⟨es.length+1,?_⟩
  unfold F_impl_netOf
  have hc:(decide (0<=(m:Int))&&decide ((m:Int)<=(m:Int))&&decide ((m:Int)<=(lim:Int)))=true:=by
   have a1:(m:Int)<=(lim:Int):=by unfold lim;omega
   simp only [a1,nonneg_dec,decide_true,Bool.and_self,Int.le_refl]
  have:=netOf_l0 (es.length+1) m hm8 (([]:List Int),()) () es (okL_lim hl) he es.length 0 _ (okN_zero m) (by omega) (by omega)
  simp only [Int.natCast_zero,List.drop_zero] at this
  simp only [hc,if_true,Int.toNat_natCast,toI_zero,this,Option.bind_some]
  rfl
 ·cases h
theorem l1Has_lim (d) (r) (h:G_l1Has d=some r):∃N,F_spec_l1Has N d=some r:=by
 obtain ⟨l,x,_⟩:=d
 unfold G_l1Has at h
 split at h
 ·rename_i hl
  have hl:l.length<=lim:=okL_lim hl
  have h:=Option.some.inj h
  subst h
  refine ⟨l.length+1,?_⟩
  unfold F_spec_l1Has
  have:=loop_idx (L:=spec_l1Has_l0 (l.length+1)) (r:=spec_l1Has_l0_r (l.length+1)) (fun _ _=>rfl) (e:=I) l (mk:=fun i=>(l,x,(i:Int),())) (q:=fun y=>y==x) (o:=fun _=>.inl (true,())) (f:=.inr (.inl ()))
   (by
    intro back i hi
    unfold spec_l1Has_l0_r
    simp only [lt_dec hi,if_true,idxIn_nat hi,Int.toNat_natCast,wrap_up hi (lim_max hl)])
   (by intro back;unfold spec_l1Has_l0_r;simp only [lt_not,Bool.false_eq_true,if_false]) l.length 0 (by omega) (by omega)
  simp only [Int.natCast_zero,List.drop_zero] at this
  have hge:=idxI_ge (fun y=>y==x) l 0
  simp only [this,Option.bind_some,<- hge]
  cases idxN (fun y=>y==x) l 0 with
  | none=>rfl
  | some j=>simp [idxI]
 ·cases h
theorem index_lim (d) (r) (h:G_index d=some r):∃N,F_q10q N d=some r:=by
 obtain ⟨l,x,_⟩:=d
 unfold G_index at h
 split at h
 ·rename_i hl
  have hl:l.length<=lim:=okL_lim hl
  have h:=Option.some.inj h
  subst h
  refine ⟨l.length+1,?_⟩
  unfold F_q10q
  have:=loop_idx (L:=q10q_l0 (l.length+1)) (r:=q10q_l0_r (l.length+1)) (fun _ _=>rfl) (e:=I) l (mk:=fun i=>(l,x,(l.length:Int),(i:Int),())) (q:=fun y=>x==y) (o:=fun i=>.inl ((i:Int),())) (f:=.inr (.inl ()))
   (by
    intro back i hi
    unfold q10q_l0_r
    simp only [lt_dec hi,if_true,idxIn_nat hi,Int.toNat_natCast,wrap_up hi (lim_max hl)])
   (by intro back;unfold q10q_l0_r;simp only [lt_not,Bool.false_eq_true,if_false]) l.length 0 (by omega) (by omega)
  simp only [Int.natCast_zero,List.drop_zero] at this
  simp only [this,Option.bind_some]
  cases idxN (fun y=>x==y) l 0<;>rfl
 ·cases h
theorem inB_iff {lo hi x:Int}:inB lo hi x=true↔lo<=x/\x<=hi:=by simp [inB]
theorem graphB_edges {n:Int} {l:List E} {u:Unit} (h:graphB (n,l,u)=true):l.all (edgeB n)=true/\risingE l=true:=by
 unfold graphB at h
 simp only [Bool.and_eq_true] at h
 exact ⟨h.1.2,h.2⟩
end Go.V.W
namespace Go.V.W
open Go.Proofs
theorem smallN_nat {l:List Int} (h:smallN l=true):l=toI (fromI l)/\okN l.length (fromI l)/\l.length<=8:=by
 unfold smallN at h
 simp only [Bool.and_eq_true,decide_eq_true_eq,List.all_eq_true] at h
 refine ⟨?_,⟨by simp [fromI],fun x => ?_⟩,h.1⟩
 ·unfold toI fromI
  rw [List.map_map]
  have:∀m∈l,((fun m:Nat=>(m:Int))∘Int.toNat) m=m:=fun m hm=>by
   have:=h.2 m hm
   simp only [Function.comp]
   omega
  exact (List.map_congr_left this).trans (List.map_id' l) |>.symm
 ·unfold fromI
  simp only [List.getD_eq_getElem?_getD,List.getElem?_map]
  cases hx:l[x]? with
  | none=>simp
  | some m=>
   have:=h.2 m (List.mem_of_getElem? hx)
   simp only [Option.map_some,Option.getD_some]
   omega
theorem rowE_len {p:Nat->Nat->Bool} {x:Nat}:∀{m y:Nat},(rowE p x m y).length<=m:=by
 intro m
 induction m with
 | zero=>intro y;simp [rowE]
 | succ m ih=>
  intro y
  unfold rowE
  split
  ·have:=ih (y:=y+1);simp;omega
  ·have:=ih (y:=y+1);omega
end Go.V.W
namespace Go.V.W
theorem setF_congr {p q:Nat->Bool}:∀{k x:Nat},(∀y,x<=y->y<x+k->p y=q y)->setF p k x=setF q k x:=by
 intro k
 induction k with
 | zero=>intro x _;rfl
 | succ k ih=>
  intro x h
  simp only [setF,h x (Nat.le_refl _) (by omega),ih (x:=x+1) fun y h1 h2=>h y (by omega) (by omega)]
theorem setF_mem {p:Nat->Bool}:∀{k x:Nat} {z:Int},z∈setF p k x ↔ ∃y:Nat,x<=y/\y<x+k/\p y=true/\z=(y:Int):=by
 intro k
 induction k with
 | zero=>intro x z;simp only [setF,List.not_mem_nil,false_iff];rintro ⟨y,h1,h2,_⟩;omega
 | succ k ih=>
  intro x z
  unfold setF
  by_cases h:p x=true
  ·rw [if_pos h,List.mem_cons,ih]
   constructor
   ·rintro (rfl | ⟨y,h1,h2,h3,h4⟩)
    ·exact ⟨x,Nat.le_refl _,by omega,h,rfl⟩
    ·exact ⟨y,by omega,by omega,h3,h4⟩
   ·rintro ⟨y,h1,h2,h3,h4⟩
    by_cases e:y=x
    ·subst e;exact .inl h4
    ·exact .inr ⟨y,by omega,by omega,h3,h4⟩
  ·rw [if_neg h,ih]
   constructor
   ·rintro ⟨y,h1,h2,h3,h4⟩
    exact ⟨y,by omega,by omega,h3,h4⟩
   ·rintro ⟨y,h1,h2,h3,h4⟩
    by_cases e:y=x
    ·subst e;exact absurd h3 h
    ·exact ⟨y,by omega,by omega,h3,h4⟩
theorem setF_len {p:Nat->Bool}:∀{k x:Nat},(setF p k x).length<=k:=by
 intro k
 induction k with
 | zero=>intro x;simp [setF]
 | succ k ih=>
  intro x
  unfold setF
  split
  ·have:=ih (x:=x+1);simp;omega
  ·have:=ih (x:=x+1);omega
theorem putL_low {p:Nat->Bool} {z:Nat}:∀{k y:Nat},z<y->putL (z:Int) (setF p k y)=(z:Int)::setF p k y:=by
 intro k
 induction k with
 | zero=>intro y _;rfl
 | succ k ih=>
  intro y h
  unfold setF
  split
  ·have h1:¬(y:Int)<(z:Int):=by omega
   have h2:¬(y:Int)=(z:Int):=by omega
   simp only [putL,h1,h2,if_false]
  ·exact ih (by omega)
theorem putL_set {p:Nat->Bool} {z:Nat}:∀{k x:Nat},x<=z->z<x+k->putL (z:Int) (setF p k x)=setF (fun y=>p y||decide (y=z)) k x:=by
 intro k
 induction k with
 | zero=>intro x h1 h2;omega
 | succ k ih=>
  intro x h1 h2
  by_cases e:x=z
  ·subst e
   have hc:setF (fun y=>p y||decide (y=x)) k (x+1)=setF p k (x+1):=setF_congr fun y h1 h2=>by
    have:¬y=x:=by omega
    simp [this]
   by_cases hp:p x=true
   ·simp only [setF,hp,if_true,decide_true,Bool.or_self,hc,putL]
    have:¬(x:Int)<(x:Int):=by omega
    simp only [this,if_false,if_true]
   ·have hp':p x=false:=by simpa using hp
    simp only [setF,hp',Bool.false_eq_true,if_false,decide_true,Bool.or_true,if_true,hc]
    exact putL_low (by omega)
  ·have hd:decide (x=z)=false:=by simp [e]
   have hlt:(x:Int)<(z:Int):=by omega
   by_cases hp:p x=true
   ·simp only [setF,hp,if_true,hd,Bool.or_false,putL,hlt,ih (x:=x+1) (by omega) (by omega)]
   ·have hp':p x=false:=by simpa using hp
    simp only [setF,hp',hd,Bool.or_false,Bool.false_eq_true,if_false,ih (x:=x+1) (by omega) (by omega)]
theorem any_setF {p:Nat->Bool} {n y:Nat} (hy:y<n):(setF p n 0).any (fun z=>z==(y:Int))=p y:=by
 apply Bool.eq_iff_iff.2
 rw [List.any_eq_true]
 constructor
 ·rintro ⟨z,hz,h⟩
  obtain ⟨u,_,h2,h3,rfl⟩:=setF_mem.1 hz
  have:(u:Int)=(y:Int):=by simpa using h
  have:u=y:=by omega
  subst this
  exact h3
 ·intro h
  exact ⟨(y:Int),setF_mem.2 ⟨y,Nat.zero_le _,by omega,h,rfl⟩,by simp⟩
theorem ballL_set {n:Nat} {es:List E} {x:Nat} (hx:x<n):ballL n es (x:Int)=setF (fun y=>nearI es (x:Int) (y:Int)||decide (y=x)) n 0:=by
 unfold ballL
 exact putL_set (Nat.zero_le _) (by omega)
theorem setF_nat {p:Nat->Bool} {n:Nat}:∀z∈setF p n 0,∃y:Nat,y<n/\z=(y:Int):=by
 intro z hz
 obtain ⟨y,_,h2,_,h4⟩:=setF_mem.1 hz
 exact ⟨y,by omega,h4⟩
theorem setF_empty {n x:Nat}:setF (fun _=>false) n x=[]:=by
 induction n generalizing x with
 | zero=>rfl
 | succ n ih=>simp [setF,ih]
def isM (n:Nat) (m:Nat) (p:Nat->Bool):Prop:=m<256 /\ ∀y,m.testBit y=(decide (y<n)&&p y)
theorem arN_bit {n:Nat} {ms:List Nat} (hm:okN n ms) (s:Nat):∀k x o,o<256->arN ms s k x o<256 /\ ∀y,(arN ms s k x o).testBit y=(o.testBit y||(List.range' x k).any fun u=>s.testBit u&&(ms.getD u 0).testBit y):=by
 intro k
 induction k with
 | zero=>intro x o h;exact ⟨h,fun y=>by simp [arN]⟩
 | succ k ih=>
  intro x o h
  have ho:(if s.testBit x=true then o|||ms.getD x 0 else o)<256:=by
   split
   ·exact Nat.or_lt_two_pow (n:=8) h (hm.2 x)
   ·exact h
  obtain ⟨k1,k2⟩:=ih (x+1) _ ho
  refine ⟨k1,fun y => ?_⟩
  show (arN ms s k (x+1) (if s.testBit x=true then o|||ms.getD x 0 else o)).testBit y=_
  rw [k2 y,List.range'_succ,List.any_cons,<- Bool.or_assoc]
  congr 1
  by_cases hs:s.testBit x=true
  ·simp [hs]
  ·simp [hs]
theorem isE_near (es:List E) {n:Nat} (h:es.all (edgeB (n:Int))=true) (x y:Nat):es.any (fun e=>isE e x y)=nearI es (x:Int) (y:Int):=by
 unfold nearI
 apply Bool.eq_iff_iff.2
 simp only [List.any_eq_true,isE,Bool.or_eq_true,Bool.and_eq_true,decide_eq_true_eq,beq_iff_eq]
 constructor
 ·rintro ⟨e,he,h1⟩
  obtain ⟨k1,k2,k3,k4⟩:=edgeB_nat (List.all_eq_true.1 h e he)
  exact ⟨e,he,by omega⟩
 ·rintro ⟨e,he,h1⟩
  obtain ⟨k1,k2,k3,k4⟩:=edgeB_nat (List.all_eq_true.1 h e he)
  exact ⟨e,he,by omega⟩
theorem near_lt {es:List E} {n:Nat} (h:es.all (edgeB (n:Int))=true) {x y:Nat} (hn:nearI es (x:Int) (y:Int)=true):y<n:=by
 unfold nearI at hn
 simp only [List.any_eq_true,Bool.or_eq_true,Bool.and_eq_true,beq_iff_eq] at hn
 obtain ⟨e,he,h1⟩:=hn
 obtain ⟨k1,k2,k3,k4⟩:=edgeB_nat (List.all_eq_true.1 h e he)
 omega
theorem setF_split {p:Nat->Bool}:∀(a b x:Nat),setF p (a+b) x=setF p a x++setF p b (x+a):=by
 intro a
 induction a with
 | zero=>intro b x;simp [setF]
 | succ a ih=>
  intro b x
  rw [show a+1+b=(a+b)+1 by omega]
  simp only [setF,ih,show x+1+a=x+(a+1) by omega]
  split<;>simp
theorem setF_mask {n m:Nat} {p:Nat->Bool} (hn:n<=8) (hm:isM n m p):setF (fun y=>m.testBit y) 8 0=setF p n 0:=by
 rw [show 8=n+(8-n) by omega,setF_split]
 have h1:setF (fun y=>m.testBit y) n 0=setF p n 0:=setF_congr fun y _ h=>by
  rw [hm.2 y]
  have:y<n:=by omega
  simp [this]
 have h2:setF (fun y=>m.testBit y) (8-n) (0+n)=[]:=by
  rw [<- setF_empty (n:=8-n) (x:=0+n)]
  exact setF_congr fun y h _=>by
   rw [hm.2 y]
   have:¬y<n:=by omega
   simp [this]
 rw [h1,h2,List.append_nil]
end Go.V.W
namespace Go.V.W
open Go.Proofs
theorem l2Near_lim (d) (r) (h:G_l2Near d=some r):∃N,F_q71q N d=some r:=by
 obtain ⟨g,a,b,_⟩:=d
 unfold G_l2Near at h
 split at h
 ·rename_i hl
  have hl:g.2.1.length<=lim:=okL_lim hl
  have h:=Option.some.inj h
  subst h
  refine ⟨g.2.1.length+1,?_⟩
  unfold F_q71q
  have:=loop_idx (L:=q71q_l0 (g.2.1.length+1)) (r:=q71q_l0_r (g.2.1.length+1)) (fun _ _=>rfl) (e:=K_Piiq) g.2.1 (mk:=fun i=>(a,b,g,(i:Int),())) (q:=fun e=>(e.1==a&&e.2.1==b)||(e.1==b&&e.2.1==a)) (o:=fun _=>.inl (true,())) (f:=.inr (.inl ()))
   (by
    intro back i hi
    unfold q71q_l0_r
    simp only [lt_dec hi,if_true,idxIn_nat hi,Int.toNat_natCast,wrap_up hi (lim_max hl)]
    rcases Bool.eq_false_or_eq_true ((at_ K_Piiq g.2.1 i).1==a) with c1 | c1<;>rcases Bool.eq_false_or_eq_true ((at_ K_Piiq g.2.1 i).2.1==b) with c2 | c2<;>rcases Bool.eq_false_or_eq_true ((at_ K_Piiq g.2.1 i).1==b) with c3 | c3<;>rcases Bool.eq_false_or_eq_true ((at_ K_Piiq g.2.1 i).2.1==a) with c4 | c4 <;>
     simp only [c1,c2,c3,c4,if_true,if_false,Bool.false_eq_true,Bool.and_true,Bool.and_false,Bool.or_true,Bool.or_false,Bool.true_or,Bool.or_self,Bool.and_self])
   (by intro back;unfold q71q_l0_r;simp only [lt_not,Bool.false_eq_true,if_false]) g.2.1.length 0 (by omega) (by omega)
  simp only [Int.natCast_zero,List.drop_zero] at this
  have hge:=idxI_ge (fun e:E=>(e.1==a&&e.2.1==b)||(e.1==b&&e.2.1==a)) g.2.1 0
  simp only [this,Option.bind_some,nearI,<- hge]
  cases idxN (fun e:E=>(e.1==a&&e.2.1==b)||(e.1==b&&e.2.1==a)) g.2.1 0 with
  | none=>rfl
  | some j=>simp [idxI]
 ·cases h
theorem l2Neighbors_l0 (N:Nat) (g:Gr) (x:Int) (n:Nat) (hN:g.1=(n:Int)) (hn:n<=8) (ho:okL g.2.1=true):∀(k y f:Nat) (A:List Int),y+k=n->k<f->A.length+k<=1000 ->
  q29q_l0 N f (x,g,A,(y:Int),())=some (.inl (A++setF (fun y=>nearI g.2.1 x (y:Int)) k y,())):=by
 intro k
 induction k with
 | zero=>
  intro y f A h1 h2 h3
  obtain ⟨f,rfl⟩:∃m,f=m+1:=⟨f-1,by omega⟩
  have e:y=n:=by omega
  subst e
  simp [q29q_l0,q29q_l0_r,setF,hN]
 | succ k ih=>
  intro y f A h1 h2 h3
  obtain ⟨f,rfl⟩:∃m,f=m+1:=⟨f-1,by omega⟩
  have hy:y<n:=by omega
  show q29q_l0_r N (q29q_l0 N f) (x,g,A,(y:Int),())=_
  unfold q29q_l0_r
  have hw:IntKind.wrap .i64 ((y:Int)+1)=((y+1:Nat):Int):=by
   rw [wrap_in _ (by omega) (by omega)]
   rfl
  have hle:decide (A.length+List.length [(y:Int)]<=lim)=true:=by
   unfold lim
   simp
   omega
  simp only [hN,lt_dec hy,if_true,G_l2Near,ho,Option.bind_some,hle,hw]
  unfold setF
  by_cases hh:nearI g.2.1 x (y:Int)=true
  ·rw [if_pos hh,if_pos hh,ih (y+1) f _ (by omega) (by omega) (by simp;omega)]
   simp
  ·rw [if_neg hh,if_neg hh]
   exact ih (y+1) f A (by omega) (by omega) (by omega)
theorem l2Neighbors_lim (d) (r) (h:G_l2Neighbors d=some r):∃N,F_q29q N d=some r:=by
 obtain ⟨g,x,_⟩:=d
 unfold G_l2Neighbors at h
 split at h
 ·rename_i hc
  simp only [Bool.and_eq_true,decide_eq_true_eq] at hc
  obtain ⟨⟨h1,h2⟩,h3⟩:=hc
  have h:=Option.some.inj h
  subst h
  refine ⟨20,?_⟩
  unfold F_q29q
  have:=l2Neighbors_l0 20 g x g.1.toNat (by omega) (by omega) h1 g.1.toNat 0 20 [] (by omega) (by omega) (by simp;omega)
  simp only [Int.natCast_zero,List.nil_append] at this
  simp only [this,Option.bind_some]
 ·cases h
def lowN (x:Int):List Int->Nat
 | []=>0
 | a::l=>if a<x then lowN x l+1 else 0
theorem lowN_le (x:Int):∀l,lowN x l<=l.length:=by
 intro l
 induction l with
 | nil=>simp [lowN]
 | cons a l ih=>simp only [lowN];split<;>simp;omega
theorem l1Put_l0 (N:Nat) (l:List Int) (x:Int) (hl:l.length<=1000):∀(k i f:Nat),i+k=l.length->k<f->spec_l1Put_l0 N f (l,x,(i:Int),())=some (.inl (l,x,((i+lowN x (l.drop i):Nat):Int),())):=by
 have hmx:l.length<=maxLen:=by unfold maxLen;omega
 intro k
 induction k with
 | zero=>
  intro i f h1 h2
  obtain ⟨f,rfl⟩:∃m,f=m+1:=⟨f-1,by omega⟩
  have e:i=l.length:=by omega
  subst e
  rw [List.drop_of_length_le (Nat.le_refl _)]
  simp [spec_l1Put_l0,spec_l1Put_l0_r,lowN]
 | succ k ih=>
  intro i f h1 h2
  obtain ⟨f,rfl⟩:∃m,f=m+1:=⟨f-1,by omega⟩
  have hi:i<l.length:=by omega
  show spec_l1Put_l0_r N (spec_l1Put_l0 N f) (l,x,(i:Int),())=_
  unfold spec_l1Put_l0_r
  have e:at_ I l i=l[i]:=at_get (e:=I) hi
  rw [List.drop_eq_getElem_cons hi]
  simp only [lt_dec hi,if_true,idxIn_nat hi,Int.toNat_natCast,wrap_up hi hmx,e,lowN]
  by_cases c:l[i]<x
  ·simp only [c,decide_true,if_true]
   rw [ih (i+1) f (by omega) (by omega)]
   congr 5
   omega
  ·simp only [c,decide_false,Bool.false_eq_true,if_false,Nat.add_zero]
theorem putL_low' (x:Int):∀l:List Int,putL x l=if h:lowN x l<l.length then (if l[lowN x l]=x then l else l.take (lowN x l)++[x]++l.drop (lowN x l)) else l++[x]:=by
 intro l
 induction l with
 | nil=>rfl
 | cons a l ih=>
  simp only [putL,lowN]
  by_cases c:a<x
  ·simp only [c,if_true,ih,List.length_cons,Nat.add_lt_add_iff_right,List.getElem_cons_succ,List.take_succ_cons,List.drop_succ_cons]
   split
   ·split<;>simp
   ·simp
  ·by_cases c2:a=x
   ·simp [c,c2]
   ·simp [c,c2]
theorem l1Put_lim (d) (r) (h:G_l1Put d=some r):∃N,F_spec_l1Put N d=some r:=by
 obtain ⟨l,x,_⟩:=d
 unfold G_l1Put at h
 split at h
 ·rename_i hl
  have hl:l.length<=1000:=of_decide_eq_true hl
  have h:=Option.some.inj h
  subst h
  refine ⟨l.length+1,?_⟩
  unfold F_spec_l1Put
  have:=l1Put_l0 (l.length+1) l x hl l.length 0 (l.length+1) (by omega) (by omega)
  simp only [Int.natCast_zero,List.drop_zero,Nat.zero_add] at this
  have hk:=lowN_le x l
  generalize hkk:lowN x l=k at this hk
  simp only [this,Option.bind_some,putL_low',hkk]
  have hL:(lim:Int)=1099511627776:=rfl
  have c0:(decide (0<=(0:Int))&&decide ((0:Int)<=(k:Int))&&decide ((k:Int)<=(l.length:Int)))=true:=by simp;omega
  have c1:decide (List.length ([]:List Int)+List.length (sub_ l (0:Int) (k:Int))<=lim)=true:=by unfold lim sub_;simp;omega
  have c2:decide (List.length (([]:List Int)++sub_ l (0:Int) (k:Int))+List.length [x]<=lim)=true:=by unfold lim sub_;simp;omega
  have c3:(decide (0<=(k:Int))&&decide ((k:Int)<=(l.length:Int))&&decide ((l.length:Int)<=(l.length:Int)))=true:=by simp;omega
  have c4:decide (List.length (([]:List Int)++sub_ l (0:Int) (k:Int)++[x])+List.length (sub_ l (k:Int) (l.length:Int))<=lim)=true:=by unfold lim sub_;simp;omega
  have e1:sub_ l (0:Int) (k:Int)=l.take k:=by simp [sub_]
  have e2:sub_ l (k:Int) (l.length:Int)=l.drop k:=by simp [sub_]
  by_cases hlt:k<l.length
  ·have e:at_ I l k=l[k]:=at_get (e:=I) hlt
   simp only [lt_dec hlt,if_true,idxIn_nat hlt,Int.toNat_natCast,e,hlt,dite_true,c0,c1,c2,c3,c4]
   by_cases c:l[k]=x
   ·simp [c]
   ·have c':(l[k]==x)=false:=by simpa using c
    simp only [c',c,Bool.false_eq_true,if_false,e1,e2,List.nil_append]
  ·have hlt':decide ((k:Int)<(l.length:Int))=false:=by simp;omega
   have ek:k=l.length:=by omega
   simp only [hlt',Bool.false_eq_true,if_false,c0,c1,c2,c3,c4,if_true,hlt,dite_false,e1,e2,List.nil_append]
   subst ek
   simp
   unfold lim
   omega
 ·cases h
theorem l1PutW_l0 (N:Nat) (l:List Int) (x:Int) (hl:l.length<=1000):∀(k i f:Nat),i+k=l.length->k<f->q58q_l0 N f (l,x,(i:Int),())=some (.inl (l,x,((i+lowN x (l.drop i):Nat):Int),())):=by
 have hmx:l.length<=maxLen:=by unfold maxLen;omega
 intro k
 induction k with
 | zero=>
  intro i f h1 h2
  obtain ⟨f,rfl⟩:∃m,f=m+1:=⟨f-1,by omega⟩
  have e:i=l.length:=by omega
  subst e
  rw [List.drop_of_length_le (Nat.le_refl _)]
  simp [q58q_l0,q58q_l0_r,lowN]
 | succ k ih=>
  intro i f h1 h2
  obtain ⟨f,rfl⟩:∃m,f=m+1:=⟨f-1,by omega⟩
  have hi:i<l.length:=by omega
  show q58q_l0_r N (q58q_l0 N f) (l,x,(i:Int),())=_
  unfold q58q_l0_r
  have e:at_ I l i=l[i]:=at_get (e:=I) hi
  rw [List.drop_eq_getElem_cons hi]
  simp only [lt_dec hi,if_true,idxIn_nat hi,Int.toNat_natCast,wrap_up hi hmx,e,lowN]
  by_cases c:l[i]<x
  ·simp only [c,decide_true,if_true]
   rw [ih (i+1) f (by omega) (by omega)]
   congr 5
   omega
  ·simp only [c,decide_false,Bool.false_eq_true,if_false,Nat.add_zero]
theorem l1PutW_lim (d) (r) (h:G_l1PutW d=some r):∃N,F_q58q N d=some r:=by
 obtain ⟨l,x,_⟩:=d
 unfold G_l1PutW at h
 split at h
 ·rename_i hl
  have hl:l.length<=1000:=of_decide_eq_true hl
  have h:=Option.some.inj h
  subst h
  refine ⟨l.length+1,?_⟩
  unfold F_q58q
  have:=l1PutW_l0 (l.length+1) l x hl l.length 0 (l.length+1) (by omega) (by omega)
  simp only [Int.natCast_zero,List.drop_zero,Nat.zero_add] at this
  have hk:=lowN_le x l
  generalize hkk:lowN x l=k at this hk
  simp only [this,Option.bind_some,putL_low',hkk]
  have hL:(lim:Int)=1099511627776:=rfl
  have c0:(decide (0<=(0:Int))&&decide ((0:Int)<=(k:Int))&&decide ((k:Int)<=(l.length:Int)))=true:=by simp;omega
  have c1:decide (List.length ([]:List Int)+List.length (sub_ l (0:Int) (k:Int))<=lim)=true:=by unfold lim sub_;simp;omega
  have c2:decide (List.length (([]:List Int)++sub_ l (0:Int) (k:Int))+List.length [x]<=lim)=true:=by unfold lim sub_;simp;omega
  have c3:(decide (0<=(k:Int))&&decide ((k:Int)<=(l.length:Int))&&decide ((l.length:Int)<=(l.length:Int)))=true:=by simp;omega
  have c4:decide (List.length (([]:List Int)++sub_ l (0:Int) (k:Int)++[x])+List.length (sub_ l (k:Int) (l.length:Int))<=lim)=true:=by unfold lim sub_;simp;omega
  have e1:sub_ l (0:Int) (k:Int)=l.take k:=by simp [sub_]
  have e2:sub_ l (k:Int) (l.length:Int)=l.drop k:=by simp [sub_]
  by_cases hlt:k<l.length
  ·have e:at_ I l k=l[k]:=at_get (e:=I) hlt
   simp only [lt_dec hlt,if_true,idxIn_nat hlt,Int.toNat_natCast,e,hlt,dite_true,c0,c1,c2,c3,c4]
   by_cases c:l[k]=x
   ·simp [c]
   ·have c':(l[k]==x)=false:=by simpa using c
    simp only [c',c,Bool.false_eq_true,if_false,e1,e2,List.nil_append]
  ·have hlt':decide ((k:Int)<(l.length:Int))=false:=by simp;omega
   have ek:k=l.length:=by omega
   simp only [hlt',Bool.false_eq_true,if_false,c0,c1,c2,c3,c4,if_true,hlt,dite_false,e1,e2,List.nil_append]
   subst ek
   simp
   unfold lim
   omega
 ·cases h
theorem shr_bit {m y:Nat} (hm:m<256) (h:y<8):(bits .and .i64 (shr .i64 (m:Int) (y:Int)) 1==(1:Int))=m.testBit y:=has_bit hm h
theorem around_l0 (N:Nat) (ms:List Nat) (n:Nat) (hm:okN n ms) (hn:n<=8) (s:Nat) (hs:s<256):∀(k x f o:Nat),o<256->x+k=n->k<f ->
  q36q_l0 N f ((s:Int),(o:Int),toI ms,(n:Int),(x:Int),())=some (.inl (((arN ms s k x o:Nat):Int),())):=by
 intro k
 induction k with
 | zero=>
  intro x f o h0 h1 h2
  obtain ⟨f,rfl⟩:∃m,f=m+1:=⟨f-1,by omega⟩
  have e:x=n:=by omega
  subst e
  simp [q36q_l0,q36q_l0_r,arN]
 | succ k ih=>
  intro x f o h0 h1 h2
  obtain ⟨f,rfl⟩:∃m,f=m+1:=⟨f-1,by omega⟩
  have hx:x<n:=by omega
  show q36q_l0_r N (q36q_l0 N f) ((s:Int),(o:Int),toI ms,(n:Int),(x:Int),())=_
  unfold q36q_l0_r
  have hw:IntKind.wrap .i64 ((x:Int)+1)=((x+1:Nat):Int):=by
   rw [wrap_in _ (by omega) (by omega)]
   rfl
  have i1:idxIn (x:Int) ms.length=true:=idxIn_nat (by rw [hm.1];exact hx)
  simp only [lt_dec hx,if_true,toI_len,i1,nonneg_dec,shr_bit hs (show x<8 by omega),Int.toNat_natCast,at_toI,bits_or h0 (hm.2 x),hw,arN]
  by_cases hb:s.testBit x=true
  ·rw [if_pos hb,if_pos hb]
   exact ih (x+1) f _ (Nat.or_lt_two_pow (n:=8) h0 (hm.2 x)) (by omega) (by omega)
  ·rw [if_neg hb,if_neg hb]
   exact ih (x+1) f o h0 (by omega) (by omega)
theorem around_lim (d) (r) (h:G_around d=some r):∃N,F_q36q N d=some r:=by
 obtain ⟨⟨l,u⟩,s,_⟩:=d
 unfold G_around at h
 split at h
 ·rename_i hc
  simp only [Bool.and_eq_true,decide_eq_true_eq] at hc
  obtain ⟨⟨h1,h2⟩,h3⟩:=hc
  obtain ⟨e,hm,h8⟩:=smallN_nat h1
  have h:=Option.some.inj h
  subst h
  refine ⟨20,?_⟩
  unfold F_q36q
  have hs:s=(s.toNat:Int):=by omega
  have:=around_l0 20 (fromI l) l.length hm h8 s.toNat (by omega) l.length 0 20 s.toNat (by omega) (by omega) (by omega)
  rw [<- e,<- hs] at this
  simp only [Int.natCast_zero] at this
  simp only [this,Option.bind_some]
 ·cases h
theorem setOf_l0 (N:Nat) (s:Nat) (hs:s<256):∀(k x f:Nat) (A:List Int),x+k=8->k<f->A.length+k<=100 ->
  impl_setOf_l0 N f ((s:Int),A,(x:Int),())=some (.inl (A++setF (fun y=>s.testBit y) k x,())):=by
 intro k
 induction k with
 | zero=>
  intro x f A h1 h2 h3
  obtain ⟨f,rfl⟩:∃m,f=m+1:=⟨f-1,by omega⟩
  have e:x=8:=by omega
  subst e
  have:shr .i64 (s:Int) ((8:Nat):Int)=0:=by
   unfold shr
   have e:min ((8:Nat):Int).toNat IntKind.i64.bits=8:=by decide
   rw [e,Int.fdiv_eq_ediv_of_nonneg _ (by decide)]
   omega
  show impl_setOf_l0_r N (impl_setOf_l0 N f) ((s:Int),A,((8:Nat):Int),())=_
  unfold impl_setOf_l0_r
  have h8:decide (0<=((8:Nat):Int))=true:=by decide
  have hz:((0:Int) != 0)=false:=by decide
  simp only [h8,if_true,this,hz,Bool.false_eq_true,if_false,setF,List.append_nil]
 | succ k ih=>
  intro x f A h1 h2 h3
  obtain ⟨f,rfl⟩:∃m,f=m+1:=⟨f-1,by omega⟩
  have hx:x<8:=by omega
  show impl_setOf_l0_r N (impl_setOf_l0 N f) ((s:Int),A,(x:Int),())=_
  unfold impl_setOf_l0_r
  have hw:IntKind.wrap .i64 ((x:Int)+1)=((x+1:Nat):Int):=by
   rw [wrap_in _ (by omega) (by omega)]
   rfl
  have hle:decide (A.length+List.length [(x:Int)]<=lim)=true:=by
   unfold lim
   simp
   omega
  simp only [nonneg_dec,if_true,shr_bit hs hx,hle,hw]
  by_cases hz:s>>>x=0
  ·have e1:(shr .i64 (s:Int) (x:Int) != (0:Int))=false:=by rw [shr_nat hx,hz];decide
   simp only [e1,Bool.false_eq_true,if_false]
   have e2:setF (fun y=>s.testBit y) (k+1) x=[]:=by
    rw [<- setF_empty (n:=k+1) (x:=x)]
    refine setF_congr fun y h _ => ?_
    have:s<2 ^ x:=by
     rw [Nat.shiftRight_eq_div_pow] at hz
     exact (Nat.div_eq_zero_iff_lt (Nat.two_pow_pos x)).1 hz
    exact Nat.testBit_lt_two_pow (Nat.lt_of_lt_of_le this (Nat.pow_le_pow_right (by omega) h))
   rw [e2,List.append_nil]
  ·have e1:(shr .i64 (s:Int) (x:Int) != (0:Int))=true:=by
    rw [shr_nat hx]
    have:((s>>>x:Nat):Int)≠0:=fun e=>hz (by exact_mod_cast e)
    simpa using this
   simp only [e1,if_true]
   unfold setF
   by_cases hb:s.testBit x=true
   ·rw [if_pos hb,if_pos hb,ih (x+1) f _ (by omega) (by omega) (by simp;omega)]
    simp
   ·rw [if_neg hb,if_neg hb]
    exact ih (x+1) f A (by omega) (by omega) (by omega)
theorem setOf_lim (d) (r) (h:G_setOf d=some r):∃N,F_impl_setOf N d=some r:=by
 obtain ⟨s,_⟩:=d
 unfold G_setOf at h
 split at h
 ·rename_i hc
  simp only [Bool.and_eq_true,decide_eq_true_eq] at hc
  have h:=Option.some.inj h
  subst h
  refine ⟨20,?_⟩
  unfold F_impl_setOf
  have:=setOf_l0 20 s.toNat (by omega) 8 0 20 [] (by omega) (by omega) (by simp)
  rw [show ((s.toNat:Nat):Int)=s by omega] at this
  simp only [Int.natCast_zero,List.nil_append] at this
  simp only [this,Option.bind_some]
 ·cases h
end Go.V.W
namespace Go.V.W
open Go.Proofs
theorem small_toI {n:Nat} {ms:List Nat} (hok:okN n ms) (hn:n<=8):smallN (toI ms)=true:=by
 unfold smallN
 simp only [toI_len,hok.1,Bool.and_eq_true,decide_eq_true_eq,List.all_eq_true]
 refine ⟨hn,fun m hm => ?_⟩
 unfold toI at hm
 obtain ⟨x,hx,rfl⟩:=List.mem_map.1 hm
 obtain ⟨i,hi,rfl⟩:=List.getElem_of_mem hx
 have:=hok.2 i
 simp only [List.getD_eq_getElem?_getD,List.getElem?_eq_getElem hi,Option.getD_some] at this
 omega
end Go.V.W
namespace Go.V.W
theorem near_symm (es:List E) (a b:Int):nearI es a b=nearI es b a:=by
 unfold nearI
 congr 1
 funext e
 cases (e.1==a&&e.2.1==b)<;>cases (e.1==b&&e.2.1==a)<;>rfl
theorem firstF_spec {p:Nat->Bool}:∀{k x:Nat},(∃y,x<=y/\y<x+k/\p y=true)->x<=firstF p k x/\firstF p k x<x+k/\p (firstF p k x)=true:=by
 intro k
 induction k with
 | zero=>rintro x ⟨y,h1,h2,_⟩;omega
 | succ k ih=>
  rintro x ⟨y,h1,h2,h3⟩
  unfold firstF
  by_cases h:p x=true
  ·rw [if_pos h]
   exact ⟨Nat.le_refl _,by omega,h⟩
  ·rw [if_neg h]
   have:y≠x:=fun e=>h (e▸h3)
   obtain ⟨k1,k2,k3⟩:=ih (x:=x+1) ⟨y,by omega,by omega,h3⟩
   exact ⟨by omega,by omega,k3⟩
end Go.V.W
namespace Go.V.W
open Go.Proofs
theorem has_setF {p:Nat->Bool} {n y:Nat} (hn:n<=8) (hy:y<n):G_l1Has (setF p n 0,(y:Int),())=some (p y,()):=by
 have:=setF_len (p:=p) (k:=n) (x:=0)
 have ho:okL (setF p n 0)=true:=okL_of (by omega)
 simp only [G_l1Has,ho,if_true,any_setF hy]
end Go.V.W
namespace Go.V.W
open Go.Proofs
theorem at_some {l:List Int} {j:Nat} {v:Int} (h:l[j]? = some v):at_ I l j=v/\j<l.length:=by
 have hj:j<l.length:=by
  rcases Nat.lt_or_ge j l.length with h' | h'
  ·exact h'
  ·rw [List.getElem?_eq_none h'] at h
   cases h
 refine ⟨?_,hj⟩
 have e:at_ I l j=l[j]:=at_get (e:=I) hj
 rw [e]
 rw [List.getElem?_eq_getElem hj] at h
 exact Option.some.inj h
theorem ball_eq (g:Gr) (n:Nat) (hg:g.1=(n:Int)) (hn:n<=8) (ho:okL g.2.1=true) (z:Int):F_q70q 0 (g,z,())=some (ballL n g.2.1 z,()):=by
 first
  | unfold F_q70q G_l2Neighbors G_l1PutW
  | unfold F_q70q G_l2Neighbors G_l1Put
 have a2:okS1 (setF (fun y=>nearI g.2.1 z (y:Int)) n 0)=true:=by
  have:=setF_len (p:=fun y=>nearI g.2.1 z (y:Int)) (k:=n) (x:=0)
  exact decide_eq_true (by omega)
 have a3:(okL g.2.1&&decide (0<=(n:Int))&&decide ((n:Int)<=8))=true:=by
  rw [ho]
  simp
  omega
 simp only [hg,a3,if_true,Int.toNat_natCast,Option.bind_some,a2,ballL]
end Go.V.W
namespace Go.V.W
theorem tabL_row {n c:Nat} (f:Nat->Nat->Int) (h:c<n):(tabL n f)[c]? = some ((List.range n).map fun r=>f c r):=by
 unfold tabL
 rw [List.getElem?_map,List.getElem?_range h]
 rfl
theorem rowR_get {n r:Nat} (g:Nat->Int) (h:r<n):((List.range n).map g)[r]? = some (g r):=by
 rw [List.getElem?_map,List.getElem?_range h]
 rfl
theorem tab2_tabL {n c r:Nat} (f:Nat->Nat->Int) (hc:c<n) (hr:r<n):tab2 (tabL n f) (c:Int) (r:Int)=f c r:=by
 unfold tab2
 simp only [Int.toNat_natCast,List.getD_eq_getElem?_getD,tabL_row f hc,Option.getD_some,rowR_get _ hr]
theorem tabL_congr {n:Nat} {f g:Nat->Nat->Int} (h:∀c r,c<n->r<n->f c r=g c r):tabL n f=tabL n g:=by
 unfold tabL
 refine List.map_congr_left fun c hc=>List.map_congr_left fun r hr=>h c r (List.mem_range.1 hc) (List.mem_range.1 hr)
theorem worst_congr {f g:Int->Int}:∀{l:List Int} {m:Int},(∀x∈l,f x=g x)->worstL f l m=worstL g l m:=by
 intro l
 induction l with
 | nil=>intro m _;rfl
 | cons b bs ih=>
  intro m h
  simp only [worstL,h b (by simp)]
  rw [ih fun x hx=>h x (by simp [hx])]
theorem worst_spec (f:Int->Int):∀(l:List Int) (m:Int),(∃x∈l,f x<0)/\worstL f l m = -1\/(∀x∈l,0<=f x/\f x<=worstL f l m)/\m<=worstL f l m/\(worstL f l m=m \/ ∃x∈l,worstL f l m=f x):=by
 intro l
 induction l with
 | nil=>intro m;exact .inr ⟨fun x hx=>by simp at hx,Int.le_refl _,.inl rfl⟩
 | cons b bs ih=>
  intro m
  simp only [worstL]
  by_cases hb:f b<0
  ·rw [if_pos hb]
   exact .inl ⟨⟨b,by simp,hb⟩,rfl⟩
  ·rw [if_neg hb]
   rcases ih (if m<f b then f b else m) with ⟨⟨x,hx,h1⟩,h2⟩ | ⟨h1,h2,h3⟩
   ·exact .inl ⟨⟨x,by simp [hx],h1⟩,h2⟩
   ·have hge:m<=(if m<f b then f b else m)/\f b<=(if m<f b then f b else m):=by split<;>omega
    refine .inr ⟨fun x hx => ?_,by omega,?_⟩
    ·rcases List.mem_cons.1 hx with rfl | hx
     ·omega
     ·exact h1 x hx
    ·rcases h3 with h3 | ⟨x,hx,h3⟩
     ·by_cases hm:m<f b
      ·rw [if_pos hm] at h3 |-
       exact .inr ⟨b,by simp,h3⟩
      ·rw [if_neg hm] at h3 |-
       exact .inl h3
     ·exact .inr ⟨x,by simp [hx],h3⟩
def okBall (n:Nat) (ball:Int->List Int):Prop := ∀x:Nat,x<n -> ∀z∈ball (x:Int),∃y:Nat,y<n/\z=(y:Int)
structure InvT (n:Nat) (ball:Int->List Int) (t:Nat) (f:Nat->Nat->Int):Prop where
 pos:1<=t
 low:∀c r,c<n->r<n -> -1<=f c r
 high:∀c r,c<n->r<n->f c r<(t:Int)
 none:∀c r,c<n->r<n->f c r<0 -> ∀b∈ball (c:Int),¬(0<=afterT ball (tabL n f) b (r:Int)/\afterT ball (tabL n f) b (r:Int)<(t:Int)-1)
theorem after_high {n:Nat} {ball:Int->List Int} (hb:okBall n ball) {t:Nat} {f:Nat->Nat->Int} (hI:InvT n ball t f) {c r:Nat} (hc:c<n) (hr:r<n) {b:Int} (hbm:b∈ball (c:Int)):afterT ball (tabL n f) b (r:Int)<=(t:Int)-1:=by
 have hp:=hI.pos
 unfold afterT
 split
 ·omega
 ·obtain ⟨b',hb1,rfl⟩:=hb c hc b hbm
  rcases worst_spec (tab2 (tabL n f) (b':Int)) (ball (r:Int)) 0 with ⟨_,h⟩ | ⟨_,_,h | ⟨x,hx,h⟩⟩
  ·omega
  ·omega
  ·obtain ⟨y,hy,rfl⟩:=hb r hr x hx
   rw [tab2_tabL f hb1 hy] at h
   have:=hI.high b' y hb1 hy
   omega
theorem InvT.next {n:Nat} {ball:Int->List Int} (hb:okBall n ball) {t:Nat} {f:Nat->Nat->Int} (hI:InvT n ball t f):InvT n ball (t+1) (stepF n ball (t:Int) f):=by
 have hp:=hI.pos
 refine ⟨by omega,fun c r hc hr => ?_,fun c r hc hr => ?_,fun c r hc hr hf b hbm => ?_⟩
 ·unfold stepF
  split
  ·omega
  ·exact hI.low c r hc hr
 ·unfold stepF
  split
  ·omega
  ·have:=hI.high c r hc hr;omega
 ·rintro ⟨h1,h2⟩
  have hst:stepF n ball (t:Int) f c r=f c r/\canF n ball f c r=false:=by
   unfold stepF at hf |-
   by_cases hcan:canF n ball f c r=true
   ·rw [if_pos hcan] at hf;omega
   ·rw [if_neg hcan]
    exact ⟨rfl,by simpa using hcan⟩
  rw [hst.1] at hf
  have hno:∀b∈ball (c:Int),¬0<=afterT ball (tabL n f) b (r:Int):=by
   intro b hbm h
   have:=hst.2
   unfold canF at this
   simp only [hf,decide_true,Bool.true_and] at this
   have ht:((ball (c:Int)).any fun b=>decide (0<=afterT ball (tabL n f) b (r:Int)))=true:=List.any_eq_true.2 ⟨b,hbm,decide_eq_true h⟩
   rw [ht] at this
   cases this
  refine hno b hbm ?_
  unfold afterT at h1 h2 |-
  by_cases hbr:b=(r:Int)
  ·rw [if_pos hbr]
   exact Int.le_refl _
  ·rw [if_neg hbr] at h1 h2 |-
   obtain ⟨b',hb1,rfl⟩:=hb c hc b hbm
   rcases worst_spec (tab2 (tabL n (stepF n ball (t:Int) f)) (b':Int)) (ball (r:Int)) 0 with ⟨_,h⟩ | ⟨hall,_,_⟩
   ·omega
   ·have e:worstL (tab2 (tabL n f) (b':Int)) (ball (r:Int)) 0=worstL (tab2 (tabL n (stepF n ball (t:Int) f)) (b':Int)) (ball (r:Int)) 0:=by
     refine worst_congr fun x hx => ?_
     obtain ⟨y,hy,rfl⟩:=hb r hr x hx
     have:=hall (y:Int) hx
     rw [tab2_tabL _ hb1 hy] at this
     rw [tab2_tabL _ hb1 hy,tab2_tabL _ hb1 hy]
     by_cases hcan:canF n ball f b' y=true
     ·have e:stepF n ball (t:Int) f b' y=(t:Int):=if_pos hcan
      rw [e] at this
      omega
     ·exact (if_neg hcan).symm
    rw [e]
    exact h1
theorem InvT.start (n:Nat) (ball:Int->List Int):InvT n ball 1 startF:=by
 refine ⟨Nat.le_refl _,fun c r _ _ => ?_,fun c r _ _ => ?_,fun c r _ _ _ b _ h => ?_⟩
 ·unfold startF;split<;>omega
 ·unfold startF;split<;>omega
 ·omega
def negs (n:Nat) (f:Nat->Nat->Int):Nat:=(List.range (n*n)).countP fun i=>decide (f (i / n) (i % n)<0)
theorem countP_lt {α:Type} {p q:α->Bool}:∀{l:List α},(∀x∈l,q x=true->p x=true)->l.countP q<=l.countP p/\((∃x∈l,p x=true/\q x=false)->l.countP q<l.countP p):=by
 intro l
 induction l with
 | nil=>intro _;exact ⟨Nat.le_refl _,fun ⟨x,hx,_⟩=>by simp at hx⟩
 | cons a l ih=>
  intro h
  obtain ⟨h1,h2⟩:=ih fun x hx=>h x (by simp [hx])
  have ha:=h a (by simp)
  simp only [List.countP_cons]
  cases hq:q a with
  | true=>
   rw [ha hq]
   refine ⟨by simp;exact h1,fun ⟨x,hx,h3,h4⟩ => ?_⟩
   rcases List.mem_cons.1 hx with rfl | hx
   ·rw [hq] at h4;cases h4
   ·have:=h2 ⟨x,hx,h3,h4⟩
    simp
    exact this
  | false=>
   cases hp:p a with
   | true=>refine ⟨by simp;omega,fun _=>by simp;omega⟩
   | false=>
    refine ⟨by simpa using h1,fun ⟨x,hx,h3,h4⟩ => ?_⟩
    rcases List.mem_cons.1 hx with rfl | hx
    ·rw [hp] at h3;cases h3
    ·simpa using h2 ⟨x,hx,h3,h4⟩
theorem anyF_spec {n:Nat} {p:Nat->Nat->Bool}:anyF n p=true ↔ ∃c r,c<n/\r<n/\p c r=true:=by
 unfold anyF
 simp only [List.any_eq_true,List.mem_range]
 constructor
 ·rintro ⟨c,hc,r,hr,h⟩
  exact ⟨c,r,hc,hr,h⟩
 ·rintro ⟨c,r,hc,hr,h⟩
  exact ⟨c,hc,r,hr,h⟩
theorem negs_step {n:Nat} {ball:Int->List Int} {t:Int} (ht:0<=t) {f:Nat->Nat->Int} (h:anyF n (canF n ball f)=true):negs n (stepF n ball t f)<negs n f:=by
 obtain ⟨c,r,hc,hr,hcan⟩:=anyF_spec.1 h
 have hsub:=countP_lt (p:=fun i=>decide (f (i / n) (i % n)<0)) (q:=fun i=>decide (stepF n ball t f (i / n) (i % n)<0)) (l:=List.range (n*n)) (fun i _ hi=>by
  have hi:=of_decide_eq_true hi
  unfold stepF at hi
  split at hi
  ·omega
  ·exact decide_eq_true hi)
 refine hsub.2 ⟨c*n+r,?_,?_,?_⟩
 ·rw [List.mem_range]
  have:(c+1)*n<=n*n:=Nat.mul_le_mul_right _ hc
  rw [Nat.succ_mul] at this
  omega
 all_goals
  have e1:(c*n+r) / n=c:=by
   rw [Nat.mul_comm,Nat.mul_add_div (by omega),Nat.div_eq_of_lt hr]
   omega
  have e2:(c*n+r) % n=r:=by
   rw [Nat.mul_comm,Nat.mul_add_mod,Nat.mod_eq_of_lt hr]
  rw [e1,e2]
 ·unfold canF at hcan
  simp only [Bool.and_eq_true] at hcan
  exact hcan.1
 ·unfold stepF
  rw [if_pos hcan]
  simpa using ht
theorem negs_le (n:Nat) (f:Nat->Nat->Int):negs n f<=n*n:=by
 unfold negs
 have:=List.countP_le_length (p:=fun i=>decide (f (i / n) (i % n)<0)) (l:=List.range (n*n))
 simpa using this
end Go.V.W
namespace Go.V.W
open Go.Proofs
theorem tabL_sq (n:Nat) (f:Nat->Nat->Int):sqL n (tabL n f)=true:=by
 unfold sqL tabL
 simp
theorem tabL_sqB {n:Nat} {f:Nat->Nat->Int} (h:∀c r,c<n->r<n -> -1<=f c r/\f c r<=1000):sqB n (tabL n f)=true:=by
 unfold sqB
 rw [tabL_sq,Bool.true_and]
 unfold tabL
 simp only [List.all_map,List.all_eq_true,Function.comp,List.mem_range,Bool.and_eq_true,decide_eq_true_eq]
 intro c hc r hr
 exact h c r hc hr
theorem most_eq (m v:Int):g_q68q (m,v,())=((if m<v then v else m),()):=by
 unfold g_q68q
 by_cases h:m>v
 ·have h2:¬m<v:=by omega
  simp [h,h2]
 ·simp only [h,decide_false,Bool.false_eq_true,if_false]
  by_cases h2:m<v
  ·rw [if_pos h2]
  ·have e:m=v:=by omega
   rw [if_neg h2,e]
theorem grB_parts {g:Gr} (h:grB g=true):okL g.2.1=true/\g.1=(g.1.toNat:Int)/\g.1.toNat<=8/\g.2.1.all (edgeB (g.1.toNat:Int))=true:=by
 unfold grB at h
 simp only [Bool.and_eq_true,decide_eq_true_eq] at h
 obtain ⟨⟨⟨h1,h2⟩,h3⟩,h4⟩:=h
 have e:g.1=(g.1.toNat:Int):=by omega
 exact ⟨h1,e,by omega,by rw [<- e];exact h4⟩
theorem ballF_ok (n:Nat) (es:List E):okBall n (ballF n es):=fun x _ z hz=>setF_nat z hz
theorem ballF_len (n:Nat) (es:List E) (x:Int):(ballF n es x).length<=n:=setF_len
theorem ball_some {g:Gr} (h:grB g=true) {x:Nat} (hx:x<g.1.toNat):F_q70q 0 (g,(x:Int),())=some (ballF g.1.toNat g.2.1 (x:Int),()):=by
 obtain ⟨h1,h2,h3,h4⟩:=grB_parts h
 rw [ball_eq g g.1.toNat h2 h3 h1,ballL_set hx]
 show some (setF _ _ _,())=some (setF _ _ _,())
 congr 2
 exact setF_congr fun y _ _=>by
  congr 1
  exact decide_eq_decide.2 (by omega)
theorem inB_nat {n:Int} {x:Int} (hn:n=(n.toNat:Int)) (h:inB 0 (n-1) x=true):x=(x.toNat:Int)/\x.toNat<n.toNat:=by
 have:=inB_iff.1 h
 omega
theorem range_snoc (n:Nat) (g:Nat->Int):(List.range n).map g++[g n]=(List.range (n+1)).map g:=by simp [List.range_succ]
theorem range_snocT (n:Nat) (g:Nat->List Int):(List.range n).map g++[g n]=(List.range (n+1)).map g:=by simp [List.range_succ]
theorem wrap8 {i n:Nat} (h:i<n) (hn:n<=8):IntKind.wrap .i64 ((i:Int)+1)=((i+1:Nat):Int):=by
 rw [wrap_in _ (by omega) (by omega)]
 rfl
theorem map_set (n r:Nat) (g:Nat->Int) (v:Int):((List.range n).map g).set r v=(List.range n).map fun j=>if j=r then v else g j:=by
 apply List.ext_getElem
 ·simp
 ·intro i h1 h2
  simp only [List.length_set,List.length_map,List.length_range] at h1
  rw [List.getElem_set]
  by_cases e:r=i
  ·subst e;simp
  ·have e':¬i=r:=fun h=>e h.symm
   simp [e,e']
theorem own_some (l:List Int) (h:l.length<=1000):F_spec_l1Own 0 (l,())=some (l,()):=by
 unfold F_spec_l1Own
 have:decide (List.length ([]:List Int)+List.length l<=lim)=true:=by unfold lim;simp;omega
 simp only [this,if_true,List.nil_append]
end Go.V.W
namespace Go.V.W
open Go.Proofs
theorem netB_parts {l:List Int} (h:netB l=true):l=toI (fromI l)/\okN l.length (fromI l)/\l.length<=8 /\ ∀x,x<l.length->(fromI l).getD x 0<2 ^ l.length:=by
 unfold netB at h
 simp only [Bool.and_eq_true,List.all_eq_true,decide_eq_true_eq] at h
 obtain ⟨h1,h2⟩:=h
 obtain ⟨e,hm,h8⟩:=smallN_nat h1
 refine ⟨e,hm,h8,fun x hx => ?_⟩
 have hx':x<(fromI l).length:=by rw [hm.1];exact hx
 have h3:=h2 l[x] (List.getElem_mem hx)
 simp only [List.getD_eq_getElem?_getD,List.getElem?_eq_getElem hx',Option.getD_some]
 have e2:(fromI l)[x]=l[x].toNat:=by simp [fromI]
 rw [e2]
 have:0<2 ^ l.length:=Nat.two_pow_pos _
 omega
theorem two_lt {x n:Nat} (h:x<n):2 ^ x<2 ^ n:=Nat.pow_lt_pow_right (by omega) h
theorem maskM {l:List Int} (h:netB l=true) {x:Nat} (hx:x<l.length):(fromI l).getD x 0|||2 ^ x<256/\(fromI l).getD x 0|||2 ^ x<2 ^ l.length:=by
 obtain ⟨e,hm,h8,hb⟩:=netB_parts h
 exact ⟨Nat.or_lt_two_pow (n:=8) (hm.2 x) (pow_small (by omega)),Nat.or_lt_two_pow (hb x hx) (two_lt hx)⟩
theorem ballM_ok {l:List Int} (h:netB l=true):okBall l.length (ballM l):=by
 intro x hx z hz
 unfold ballM at hz
 obtain ⟨y,_,_,h3,h4⟩:=setF_mem.1 hz
 refine ⟨y,?_,h4⟩
 rcases Nat.lt_or_ge y l.length with h5 | h5
 ·exact h5
 ·rw [Int.toNat_natCast] at h3
  rw [Nat.testBit_lt_two_pow (Nat.lt_of_lt_of_le (maskM h hx).2 (Nat.pow_le_pow_right (by omega) h5))] at h3
  cases h3
theorem ballM_len (l:List Int) (x:Int):(ballM l x).length<=8:=setF_len
theorem closedM {l:List Int} (h:netB l=true) (u:Unit) {x:Nat} (hx:x<l.length):F_q34q 0 ((l,u),(x:Int),())=some ((((fromI l).getD x 0|||2 ^ x:Nat):Int),()):=by
 obtain ⟨e,hm,h8,hb⟩:=netB_parts h
 unfold F_q34q
 have i1:idxIn (x:Int) l.length=true:=idxIn_nat hx
 have e1:at_ I l x=(((fromI l).getD x 0:Nat):Int):=by
  have:=at_toI (fromI l) x
  rw [<- e] at this
  exact this
 simp only [i1,if_true,nonneg_dec,Int.toNat_natCast,e1,shl_one (show x<8 by omega),bits_or (hm.2 x) (pow_small (show x<8 by omega))]
theorem setOfM {l:List Int} (h:netB l=true) {x:Nat} (hx:x<l.length):G_setOf ((((fromI l).getD x 0|||2 ^ x:Nat):Int),())=some (ballM l (x:Int),()):=by
 have hm:=(maskM h hx).1
 unfold G_setOf
 have b2:decide ((((fromI l).getD x 0|||2 ^ x:Nat):Int)<256)=true:=by
  simp only [decide_eq_true_eq]
  omega
 simp only [nonneg_dec,b2,Bool.and_self,if_true,Int.toNat_natCast]
 rfl
theorem inB_len {n:Nat} {x:Int} (h:inB 0 ((n:Int)-1) x=true):x=(x.toNat:Int)/\x.toNat<n:=by
 have:=inB_iff.1 h
 omega
theorem after_l0 (N n:Nat) (row:List Int) (hrow:row.length=n) (ball:List Int) (hb:∀z∈ball,∃y:Nat,y<n/\z=(y:Int)) (hl:ball.length<=1000):∀(k i f:Nat) (m:Int),i+k=ball.length->k<f ->
  q21q_l0 N f (row,m,ball,(ball.length:Int),(i:Int),())=some (.inl (worstL (fun z=>row.getD z.toNat 0) (ball.drop i) m,()))\/q21q_l0 N f (row,m,ball,(ball.length:Int),(i:Int),())=some (.inr (.inl (worstL (fun z=>row.getD z.toNat 0) (ball.drop i) m,()))):=by
 have hmx:ball.length<=maxLen:=by unfold maxLen;omega
 intro k
 induction k with
 | zero=>
  intro i f m h1 h2
  obtain ⟨f,rfl⟩:∃m,f=m+1:=⟨f-1,by omega⟩
  have e:i=ball.length:=by omega
  subst e
  rw [List.drop_of_length_le (Nat.le_refl _)]
  right
  simp [q21q_l0,q21q_l0_r,worstL]
 | succ k ih=>
  intro i f m h1 h2
  obtain ⟨f,rfl⟩:∃m,f=m+1:=⟨f-1,by omega⟩
  have hi:i<ball.length:=by omega
  obtain ⟨y,hy,ey⟩:=hb ball[i] (List.getElem_mem hi)
  have e:at_ I ball i=(y:Int):=(at_get (e:=I) hi).trans ey
  have i2:idxIn (y:Int) row.length=true:=idxIn_nat (by omega)
  have hy':y<row.length:=by omega
  have hv:at_ I row y=row.getD y 0:=by
   rw [at_get (e:=I) hy']
   simp [List.getD_eq_getElem?_getD,hy']
  have hd:ball.drop i=(y:Int)::ball.drop (i+1):=by rw [List.drop_eq_getElem_cons hi,ey]
  have step:q21q_l0 N (f+1) (row,m,ball,(ball.length:Int),(i:Int),())=if row.getD y 0<0 then some (.inl (-1,())) else q21q_l0 N f (row,(if m<row.getD y 0 then row.getD y 0 else m),ball,(ball.length:Int),((i+1:Nat):Int),()):=by
   show q21q_l0_r N (q21q_l0 N f) (row,m,ball,(ball.length:Int),(i:Int),())=_
   unfold q21q_l0_r
   simp only [lt_dec hi,if_true,idxIn_nat hi,Int.toNat_natCast,e,i2,hv,wrap_up hi hmx]
   by_cases h:row.getD y 0<0
   ·simp only [h,decide_true,if_true]
   ·simp only [h,decide_false,Bool.false_eq_true,if_false]
  rw [step,hd]
  simp only [worstL,Int.toNat_natCast]
  by_cases h:row.getD y 0<0
  ·rw [if_pos h,if_pos h]
   exact .inl rfl
  ·rw [if_neg h,if_neg h]
   exact ih (i+1) f _ (by omega) (by omega)
theorem timeAfter_lim (d) (r) (h:G_timeAfter d=some r):∃N,F_q21q N d=some r:=by
 obtain ⟨⟨l,u⟩,row,q,_⟩:=d
 unfold G_timeAfter at h
 split at h
 ·rename_i hc
  simp only [Bool.and_eq_true,decide_eq_true_eq] at hc
  obtain ⟨⟨hn,hrow⟩,hq⟩:=hc
  obtain ⟨q1,q2⟩:=inB_len hq
  have h:=Option.some.inj h
  subst h
  refine ⟨20,?_⟩
  unfold F_q21q
  have hbl:=ballM_len l (q.toNat:Int)
  have hc:=closedM hn u q2
  have hs:=setOfM hn q2
  have:=after_l0 20 l.length row hrow (ballM l (q.toNat:Int)) (ballM_ok hn q.toNat q2) (by omega) (ballM l (q.toNat:Int)).length 0 20 0 (by omega) (by omega)
  simp only [Int.natCast_zero,List.drop_zero] at this
  rw [<- q1] at hc hs this
  simp only [hc,Option.bind_some,hs]
  rcases this with h | h
  ·simp only [h,Option.bind_some]
  ·simp only [h,Option.bind_some]
 ·cases h
theorem at_midS (pre:Tab) (x:List Int) (post:Tab):at_ K_Si (pre++x::post) pre.length=x:=by
 rw [at_get (e:=K_Si) (by simp)]
 simp
theorem set_midS (pre:Tab) (x y:List Int) (post:Tab):List.set (pre++x::post) pre.length y=pre++y::post:=by simp
def allP (p:Nat->Nat->Bool) (n:Nat):Nat->Nat->List E
 | 0,_=>[]
 | k+1,c=>rowE p c n 0++allP p n k (c+1)
theorem rowE_mem2 {p:Nat->Nat->Bool} {x:Nat}:∀{m y:Nat} {e:E},e∈rowE p x m y ↔ ∃z:Nat,y<=z/\z<y+m/\p x z=true/\e=((x:Int),(z:Int),()):=by
 intro m
 induction m with
 | zero=>intro y e;simp only [rowE,List.not_mem_nil,false_iff];rintro ⟨z,h1,h2,_⟩;omega
 | succ m ih=>
  intro y e
  unfold rowE
  by_cases h:p x y=true
  ·rw [if_pos h,List.mem_cons,ih]
   constructor
   ·rintro (rfl | ⟨z,h1,h2,h3⟩)
    ·exact ⟨y,Nat.le_refl _,by omega,h,rfl⟩
    ·exact ⟨z,by omega,by omega,h3⟩
   ·rintro ⟨z,h1,h2,h3,h4⟩
    by_cases ez:z=y
    ·subst ez;exact .inl h4
    ·exact .inr ⟨z,by omega,by omega,h3,h4⟩
  ·rw [if_neg h,ih]
   constructor
   ·rintro ⟨z,h1,h2,h3⟩
    exact ⟨z,by omega,by omega,h3⟩
   ·rintro ⟨z,h1,h2,h3,h4⟩
    by_cases ez:z=y
    ·subst ez;exact absurd h3 h
    ·exact ⟨z,by omega,by omega,h3,h4⟩
theorem allP_mem {p:Nat->Nat->Bool} {n:Nat}:∀{k c:Nat} {e:E},e∈allP p n k c ↔ ∃x z:Nat,c<=x/\x<c+k/\z<n/\p x z=true/\e=((x:Int),(z:Int),()):=by
 intro k
 induction k with
 | zero=>intro c e;simp only [allP,List.not_mem_nil,false_iff];rintro ⟨x,z,h1,h2,_⟩;omega
 | succ k ih=>
  intro c e
  simp only [allP,List.mem_append,rowE_mem2,ih]
  constructor
  ·rintro (⟨z,h1,h2,h3,h4⟩ | ⟨x,z,h1,h2,h3,h4,h5⟩)
   ·exact ⟨c,z,Nat.le_refl _,by omega,by omega,h3,h4⟩
   ·exact ⟨x,z,by omega,by omega,h3,h4,h5⟩
  ·rintro ⟨x,z,h1,h2,h3,h4,h5⟩
   by_cases ex:x=c
   ·subst ex;exact .inl ⟨z,by omega,by omega,h4,h5⟩
   ·exact .inr ⟨x,z,by omega,by omega,h3,h4,h5⟩
def isP (c r:Nat) (e:E):Bool:=e.1==(c:Int)&&e.2.1==(r:Int)
theorem allP_len {p:Nat->Nat->Bool} {n:Nat}:∀{k c:Nat},(allP p n k c).length<=n*k:=by
 intro k
 induction k with
 | zero=>intro c;simp [allP]
 | succ k ih=>
  intro c
  have h1:=rowE_len (p:=p) (x:=c) (m:=n) (y:=0)
  have h2:=ih (c:=c+1)
  simp only [allP,List.length_append,Nat.mul_succ]
  omega
theorem netB_net {n:Nat} (hn:n<=8) {es:List E} (h:es.all (edgeB (n:Int))=true):netB (toI (netN n es))=true/\(toI (netN n es)).length=n:=by
 have hok:=netN_ok hn h
 have hl:(toI (netN n es)).length=n:=by rw [toI_len,hok.1]
 refine ⟨?_,hl⟩
 unfold netB
 rw [small_toI hok hn,Bool.true_and,List.all_eq_true,hl]
 intro m hm
 unfold toI at hm
 obtain ⟨a,ha,rfl⟩:=List.mem_map.1 hm
 obtain ⟨i,hi,rfl⟩:=List.getElem_of_mem ha
 have hlt:(netN n es)[i]<2 ^ n:=by
  refine Nat.lt_pow_two_of_testBit _ fun j hj => ?_
  have hb:=netN_bit hn h i j
  unfold hasN at hb
  simp only [List.getD_eq_getElem?_getD,List.getElem?_eq_getElem hi,Option.getD_some] at hb
  rw [hb,isE_near es h]
  cases hnr:nearI es (i:Int) (j:Int) with
  | false=>rfl
  | true=>have:=near_lt h hnr;omega
 simp only [decide_eq_true_eq]
 omega
theorem ball_same {n:Nat} (hn:n<=8) {es:List E} (h:es.all (edgeB (n:Int))=true) {x:Nat} (hx:x<n):ballM (toI (netN n es)) (x:Int)=ballF n es (x:Int):=by
 unfold ballM ballF
 have hok:=netN_ok hn h
 have hM:isM n ((netN n es).getD x 0|||2 ^ x) (fun y=>nearI es (x:Int) (y:Int)||decide ((y:Int)=(x:Int))):=by
  refine ⟨Nat.or_lt_two_pow (n:=8) (hok.2 x) (pow_small (by omega)),fun w => ?_⟩
  rw [Nat.testBit_or,Nat.testBit_two_pow]
  have hb:=netN_bit hn h x w
  unfold hasN at hb
  rw [hb,isE_near es h]
  apply Bool.eq_iff_iff.2
  simp only [Bool.or_eq_true,Bool.and_eq_true,decide_eq_true_eq]
  constructor
  ·rintro (h' | h')
   ·exact ⟨near_lt h h',.inl h'⟩
   ·subst h'
    exact ⟨hx,.inr rfl⟩
  ·rintro ⟨h1,h2 | h2⟩
   ·exact .inl h2
   ·exact .inr (by omega)
 simp only [toI_from,Int.toNat_natCast]
 exact setF_mask hn hM
theorem graph_grB {n:Int} {l:List E} {v:Unit} (h:graphB (n,l,v)=true) (hl:okL l=true):grB (n,l,v)=true:=by
 have h8:=graphB_n h
 have he:=(graphB_edges h).1
 unfold grB
 have e1:decide (0<=n)=true:=by simp;omega
 have e2:decide (n<=8)=true:=by simp;omega
 simp only [hl,e1,e2,he,Bool.and_self]
end Go.V.W
namespace Go.V.W
open Go.Proofs
theorem loop_keep {H O γ α:Type} {L:Nat->H->Option O} {r:(H->Option O)->H->Option O} (hL:∀k d,L (k+1) d=r (L k) d) (l:List γ) {mk:Nat->List α->H} {f:γ->List α} (hf1:∀x,(f x).length<=1) {o:List α->O}
  (hr:∀back i (hi:i<l.length) A,A.length<=i->r back (mk i A)=back (mk (i+1) (A++f l[i]))) (hf:∀back A,A.length<=l.length->r back (mk l.length A)=some (o A)) :
  ∀k,l.length<=k->L (k+1) (mk 0 [])=some (o (l.flatMap f)):=by
 have key:∀k i A,i<=l.length->l.length<=i+k->A.length<=i->L (k+1) (mk i A)=some (o (A++(l.drop i).flatMap f)):=by
  intro k
  induction k with
  | zero=>
   intro i A h1 h2 h3
   have e:i=l.length:=by omega
   subst e
   rw [hL,hf _ _ h3,List.drop_of_length_le (Nat.le_refl _)]
   simp
  | succ k ih=>
   intro i A h1 h2 h3
   by_cases h:i<l.length
   ·have hh:=hf1 l[i]
    rw [hL,hr _ i h A h3,ih (i+1) _ (by omega) (by omega) (by simp;omega),List.drop_eq_getElem_cons h,List.flatMap_cons,List.append_assoc]
   ·have e:i=l.length:=by omega
    subst e
    rw [hL,hf _ _ h3,List.drop_of_length_le (Nat.le_refl _)]
    simp
 intro k h
 have:=key k 0 [] (Nat.zero_le _) (by omega) (Nat.le_refl _)
 simpa using this
theorem flat_setF (p:Nat->Bool):∀k x,((List.range' x k).flatMap fun y=>if p y=true then [(y:Int)] else [])=setF p k x:=by
 intro k
 induction k with
 | zero=>intro x;rfl
 | succ k ih=>
  intro x
  rw [List.range'_succ,List.flatMap_cons,ih]
  show _=if p x=true then (x:Int)::setF p k (x+1) else setF p k (x+1)
  split<;>simp
theorem one_len {α:Type} {c:Prop} [Decidable c] {x:α}:(if c then [x] else []).length<=1:=by split<;>simp
theorem nat_of {n:Int} (h:0<=n):∃a:Nat,n=(a:Int):=⟨n.toNat,by omega⟩
theorem l2Bits_lim (d) (r) (h:G_l2Bits d=some r):∃N,F_q72q N d=some r:=by
 obtain ⟨n,m,_⟩:=d
 unfold G_l2Bits at h
 split at h
 ·rename_i hc
  simp only [Bool.and_eq_true] at hc
  obtain ⟨hn,hm⟩:=hc
  have hn:=inB_iff.1 hn
  have hm:=inB_iff.1 hm
  obtain ⟨a,rfl⟩:=nat_of hn.1
  obtain ⟨b,rfl⟩:=nat_of hm.1
  have h:=Option.some.inj h
  subst h
  refine ⟨20,?_⟩
  unfold F_q72q
  have:=loop_keep (L:=q72q_l0 20) (r:=q72q_l0_r 20) (fun _ _=>rfl) (List.range' 0 a) (mk:=fun i A=>((a:Int),(b:Int),A,(i:Int),())) (f:=fun y=>if b.testBit y=true then [(y:Int)] else []) (o:=fun A=>.inl (A,())) (fun x=>one_len) (by
    intro back i hi A hA
    simp only [List.length_range'] at hi
    unfold q72q_l0_r
    have hle:decide (A.length+List.length [(i:Int)]<=lim)=true:=by unfold lim;simp;omega
    simp only [lt_dec hi,if_true,nonneg_dec,has_bit (show b<256 by omega) (show i<8 by omega),hle,wrap8 hi (by omega),List.getElem_range',Nat.one_mul,Nat.zero_add]
    by_cases hb:b.testBit i=true
    ·simp only [hb,if_true]
    ·simp only [hb,if_false,List.append_nil,Bool.false_eq_true])
   (by
    intro back A hA
    unfold q72q_l0_r
    simp only [List.length_range',lt_not,Bool.false_eq_true,if_false]) 19 (by simp;omega)
  rw [flat_setF] at this
  simp only [Int.natCast_zero] at this
  simp only [this,Option.bind_some,Int.toNat_natCast]
 ·cases h
theorem before_eq (a b:E) (u:Unit):g_q49q (a,b,u)=(lessE a b,()):=by
 unfold g_q49q lessE
 by_cases h:a.1<b.1
 ·simp [h]
 ·by_cases h2:a.1=b.1
  ·simp [h2]
  ·simp [h,h2]
theorem insE_low (e:E):∀l:List E,∃k,k<=l.length/\(∀j (hj:j<l.length),j<k->lessE l[j] e=true)/\(∀hk:k<l.length,lessE l[k] e=false)/\insE e l=l.take k++[e]++l.drop k:=by
 intro l
 induction l with
 | nil=>exact ⟨0,Nat.le_refl _,fun j hj=>absurd hj (by simp),fun hk=>absurd hk (by simp),rfl⟩
 | cons a l ih=>
  by_cases h:lessE a e=true
  ·obtain ⟨k,h1,h2,h3,h4⟩:=ih
   refine ⟨k+1,by simp;exact h1,fun j hj hjk => ?_,fun hk => ?_,?_⟩
   ·cases j with
    | zero=>exact h
    | succ j=>exact h2 j (by simpa using hj) (by omega)
   ·exact h3 (by simpa using hk)
   ·simp only [insE,h,if_true,h4,List.take_succ_cons,List.drop_succ_cons,List.cons_append]
  ·refine ⟨0,Nat.zero_le _,fun j hj hjk=>absurd hjk (by omega),fun hk=>by simpa using h,?_⟩
   simp only [insE,h,if_false,List.take_zero,List.drop_zero,List.nil_append,List.singleton_append,Bool.false_eq_true]
theorem l2Put_lim (d) (r) (h:G_l2Put d=some r):∃N,F_spec_l2Put N d=some r:=by
 obtain ⟨l,e,_⟩:=d
 unfold G_l2Put at h
 split at h
 ·rename_i hc
  have hl:l.length<=1000:=of_decide_eq_true hc
  have hmx:l.length<=maxLen:=by unfold maxLen;omega
  have h:=Option.some.inj h
  subst h
  obtain ⟨k,h1,h2,h3,h4⟩:=insE_low e l
  refine ⟨l.length+2,?_⟩
  have key:∀q i f,i+q=k->q<f->spec_l2Put_l0 (l.length+2) f (l,e,(i:Int),())=some (.inl (l,e,(k:Int),())):=by
   intro q
   induction q with
   | zero=>
    intro i f e1 e2
    obtain ⟨f,rfl⟩:∃m,f=m+1:=⟨f-1,by omega⟩
    have ei:i=k:=by omega
    subst ei
    show spec_l2Put_l0_r _ _ _=_
    unfold spec_l2Put_l0_r
    by_cases hi:i<l.length
    ·have ea:at_ K_Piiq l i=l[i]:=at_get (e:=K_Piiq) hi
     simp only [lt_dec hi,if_true,idxIn_nat hi,Int.toNat_natCast,ea,before_eq,h3 hi,Bool.false_eq_true,if_false]
    ·have ei:i=l.length:=by omega
     subst ei
     simp only [lt_not,Bool.false_eq_true,if_false]
   | succ q ih=>
    intro i f e1 e2
    obtain ⟨f,rfl⟩:∃m,f=m+1:=⟨f-1,by omega⟩
    have hi:i<l.length:=by omega
    show spec_l2Put_l0_r _ _ _=_
    unfold spec_l2Put_l0_r
    have ea:at_ K_Piiq l i=l[i]:=at_get (e:=K_Piiq) hi
    simp only [lt_dec hi,if_true,idxIn_nat hi,Int.toNat_natCast,ea,before_eq,h2 i hi (by omega),wrap_up hi hmx]
    exact ih (i+1) f (by omega) (by omega)
  have:=key k 0 (l.length+2) (by omega) (by omega)
  simp only [Int.natCast_zero] at this
  unfold F_spec_l2Put
  have c1:(decide (0<=(0:Int))&&decide ((0:Int)<=(k:Int))&&decide ((k:Int)<=(l.length:Int)))=true:=by simp;omega
  have s1:sub_ l 0 (k:Int)=l.take k:=by unfold sub_;simp
  have s2:sub_ l (k:Int) (l.length:Int)=l.drop k:=by unfold sub_;simp
  have c2:decide (List.length ([]:List E)+(l.take k).length<=lim)=true:=by unfold lim;simp;omega
  have c3:decide ((([]:List E)++l.take k).length+List.length [e]<=lim)=true:=by unfold lim;simp;omega
  have c4:(decide (0<=(k:Int))&&decide ((k:Int)<=(l.length:Int))&&decide ((l.length:Int)<=(l.length:Int)))=true:=by simp;omega
  have c5:decide ((([]:List E)++l.take k++[e]).length+(l.drop k).length<=lim)=true:=by unfold lim;simp;omega
  simp only [this,Option.bind_some,c1,if_true,s1,c2,c3,c4,s2,c5]
  rw [h4]
  simp
 ·cases h
theorem cloneI_lim (d) (r) (h:G_toIntS d=some r):∃N,F_q11q N d=some r:=by
 obtain ⟨l,_⟩:=d
 unfold G_toIntS at h
 split at h
 ·rename_i hl
  have hl:l.length<=lim:=of_decide_eq_true hl
  have h:=Option.some.inj h
  subst h
  refine ⟨0,?_⟩
  unfold F_q11q
  have h1:decide (List.length ([]:List Int)+l.length<=lim)=true:=by simp [hl]
  simp only [h1,if_true,List.nil_append]
  split
  ·rename_i h0
   have:l=[]:=List.length_eq_zero_iff.1 (of_decide_eq_true h0)
   subst this
   simp [both]
  ·rfl
 ·cases h
end Go.V.W
namespace Go.V.W
open Go.Proofs
theorem filter_setF (p:Nat->Bool) (q:Int->Bool):∀k x,(setF p k x).filter q=setF (fun y=>p y&&q (y:Int)) k x:=by
 intro k
 induction k with
 | zero=>intro x;rfl
 | succ k ih=>
  intro x
  show (if p x=true then (x:Int)::setF p k (x+1) else setF p k (x+1)).filter q=if (p x&&q (x:Int))=true then (x:Int)::setF (fun y=>p y&&q (y:Int)) k (x+1) else setF (fun y=>p y&&q (y:Int)) k (x+1)
  cases hp:p x with
  | false=>simp [ih]
  | true=>
   simp only [if_true,List.filter_cons,ih,Bool.true_and]
theorem all_mask {n:Nat} (h:n<=8):IntKind.wrap .i64 (shl .i64 1 (n:Int)-1)=((2 ^ n-1:Nat):Int)/\2 ^ n-1<=255:=by
 have:n=0\/n=1\/n=2\/n=3\/n=4\/n=5\/n=6\/n=7\/n=8:=by omega
 rcases this with rfl | rfl | rfl | rfl | rfl | rfl | rfl | rfl | rfl<;>decide
theorem find_idx {α:Type} (p:α->Bool):∀l:List α,l.any p=true -> ∃j,∃hj:j<l.length,p l[j]=true/\(∀i (hi:i<l.length),i<j->p l[i]=false)/\l.find? p=some l[j]:=by
 intro l
 induction l with
 | nil=>intro h;cases h
 | cons a l ih=>
  intro h
  cases hp:p a with
  | true=>exact ⟨0,by simp,hp,fun i hi hij=>absurd hij (by omega),by simp [List.find?_cons,hp]⟩
  | false=>
   rw [List.any_cons,hp,Bool.false_or] at h
   obtain ⟨j,hj,h1,h2,h3⟩:=ih h
   refine ⟨j+1,by simp;exact hj,h1,fun i hi hij => ?_,?_⟩
   ·cases i with
    | zero=>exact hp
    | succ i=>exact h2 i (by simpa using hi) (by omega)
   ·rw [List.find?_cons,hp]
    exact h3
theorem ball_self {n:Nat} (es:List E) {x:Nat} (hx:x<n):(x:Int)∈ballF n es (x:Int):=setF_mem.2 ⟨x,Nat.zero_le _,by omega,by simp,rfl⟩
end Go.V.W
namespace Go.V.W
open Go.Proofs
theorem bit_255 (i:Nat):(255:Nat).testBit i=decide (i<8):=Nat.testBit_two_pow_sub_one 8 i
theorem bits_andNot {a b:Nat} (ha:a<256) (hb:b<256):bits .andNot .i64 (a:Int) (b:Int)=((a&&&(255^^^b):Nat):Int):=by
 have hab:a&&&(255^^^b)<=a:=Nat.and_le_left
 have e:(BitVec.ofInt IntKind.i64.bits (a:Int) &&& ~~~BitVec.ofInt IntKind.i64.bits (b:Int)).toNat=a&&&(255^^^b):=by
  show (BitVec.ofInt 64 (a:Int) &&& ~~~BitVec.ofInt 64 (b:Int)).toNat=a&&&(255^^^b)
  rw [ofInt_nat,ofInt_nat]
  refine Nat.eq_of_testBit_eq fun i => ?_
  rw [BitVec.testBit_toNat,BitVec.getLsbD_and,BitVec.getLsbD_not,BitVec.getLsbD_ofNat,BitVec.getLsbD_ofNat,Nat.testBit_and,Nat.testBit_xor,bit_255]
  by_cases h:i<8
  ·have h2:i<64:=by omega
   simp [h,h2]
  ·have:a.testBit i=false:=Nat.testBit_lt_two_pow (Nat.lt_of_lt_of_le (show a<2 ^ 8 from ha) (Nat.pow_le_pow_right (by omega) (by omega)))
   simp [this]
 unfold bits bitI
 simp only [Option.getD_some]
 rw [e]
 exact wrap_nat (by omega)
theorem maskN_fold (n:Nat) (hn:n<=8):∀(l:List Int) (s:Nat) (p:Nat->Bool),isM n s p->(∀y∈l,0<=y/\y<=(n:Int)-1)->isM n (l.foldl (fun a x=>a|||2 ^ x.toNat) s) (fun y=>p y||hasL l (y:Int)):=by
 intro l
 induction l with
 | nil=>intro s p h _;exact ⟨h.1,fun y=>by simp [h.2 y,hasL]⟩
 | cons x l ih=>
  intro s p h hl
  have hx:=hl x (by simp)
  rw [List.foldl_cons]
  have h2:isM n (s|||2 ^ x.toNat) (fun y=>p y||(x==(y:Int))):=by
   refine ⟨Nat.or_lt_two_pow (n:=8) h.1 (pow_small (by omega)),fun y => ?_⟩
   rw [Nat.testBit_or,h.2 y,Nat.testBit_two_pow,Bool.eq_iff_iff]
   simp only [Bool.or_eq_true,Bool.and_eq_true,decide_eq_true_eq,beq_iff_eq]
   constructor
   ·rintro (⟨a,b⟩ | a)
    ·exact ⟨a,.inl b⟩
    ·exact ⟨by omega,.inr (by omega)⟩
   ·rintro ⟨a,b | b⟩
    ·exact .inl ⟨a,b⟩
    ·exact .inr (by omega)
  have:=ih _ _ h2 fun y hy=>hl y (by simp [hy])
  refine ⟨this.1,fun y => ?_⟩
  rw [this.2 y]
  simp only [hasL,List.any_cons,Bool.or_assoc]
theorem maskN_isM {n:Nat} (hn:n<=8) {l:List Int} (h:∀y∈l,0<=y/\y<=(n:Int)-1):isM n (maskN l) (fun y=>hasL l (y:Int)):=by
 have:=maskN_fold n hn l 0 (fun _=>false) ⟨by omega,fun y=>by simp⟩ h
 exact ⟨this.1,fun y=>by rw [show maskN l=l.foldl (fun a x=>a|||2 ^ x.toNat) 0 from rfl,this.2 y];rfl⟩
theorem net_some {n:Nat} {es:List E} {v u:Unit} (hg:graphB ((n:Int),es,v)=true) (ho:okL es=true):G_netOf (((n:Int),es,v),u)=some ((toI (netN n es),()),()):=by
 obtain ⟨h0,h8⟩:=graphB_n hg
 obtain ⟨g1,g2⟩:=graphB_edges hg
 unfold G_netOf
 have a1:(decide (0<=(n:Int))&&decide ((n:Int)<=8)&&okL es&&es.all (edgeB (n:Int)))=true:=by simp only [h0,h8,ho,g1,decide_true,Bool.and_self]
 simp only [a1,if_true,Int.toNat_natCast]
end Go.V.W
namespace Go.V.W
open Go.Proofs
def InvC (n:Nat) (ball:Int->List Int) (f:Nat->Nat->Int):Prop := ∀c r,c<n->r<n->1<=f c r -> ∃b∈ball (c:Int),0<=afterT ball (tabL n f) b (r:Int)/\afterT ball (tabL n f) b (r:Int)+1=f c r
theorem after_keep {n:Nat} {ball:Int->List Int} (hb:okBall n ball) {t:Nat} {f:Nat->Nat->Int} {b r:Nat} (hbn:b<n) (hr:r<n) (h:0<=afterT ball (tabL n f) (b:Int) (r:Int)) :
  afterT ball (tabL n (stepF n ball (t:Int) f)) (b:Int) (r:Int)=afterT ball (tabL n f) (b:Int) (r:Int):=by
 unfold afterT at h |-
 by_cases hbr:(b:Int)=(r:Int)
 ·rw [if_pos hbr,if_pos hbr]
 ·rw [if_neg hbr] at h |-
  rw [if_neg hbr]
  rcases worst_spec (tab2 (tabL n f) (b:Int)) (ball (r:Int)) 0 with ⟨_,h'⟩ | ⟨hall,_,_⟩
  ·omega
  ·refine worst_congr fun x hx => ?_
   obtain ⟨y,hy,rfl⟩:=hb r hr x hx
   have:=(hall (y:Int) hx).1
   rw [tab2_tabL _ hbn hy] at this
   rw [tab2_tabL _ hbn hy,tab2_tabL _ hbn hy]
   refine if_neg fun hcan => ?_
   unfold canF at hcan
   simp only [Bool.and_eq_true,decide_eq_true_eq] at hcan
   omega
theorem InvC.next {n:Nat} {ball:Int->List Int} (hb:okBall n ball) {t:Nat} {f:Nat->Nat->Int} (hI:InvT n ball t f) (hC:InvC n ball f):InvC n ball (stepF n ball (t:Int) f):=by
 intro c r hc hr h
 by_cases hcan:canF n ball f c r=true
 ·have e:stepF n ball (t:Int) f c r=(t:Int):=if_pos hcan
  rw [e]
  unfold canF at hcan
  simp only [Bool.and_eq_true,decide_eq_true_eq,List.any_eq_true] at hcan
  obtain ⟨hf,b,hbm,h0⟩:=hcan
  have h1:=hI.none c r hc hr hf b hbm
  have h2:=after_high hb hI hc hr hbm
  obtain ⟨b',hb1,rfl⟩:=hb c hc b hbm
  refine ⟨_,hbm,?_⟩
  rw [after_keep hb hb1 hr h0]
  omega
 ·have e:stepF n ball (t:Int) f c r=f c r:=if_neg hcan
  rw [e] at h |-
  obtain ⟨b,hbm,h0,h1⟩:=hC c r hc hr h
  obtain ⟨b',hb1,rfl⟩:=hb c hc b hbm
  refine ⟨_,hbm,?_⟩
  rw [after_keep hb hb1 hr h0]
  exact ⟨h0,h1⟩
theorem timesF_inv {n:Nat} {ball:Int->List Int} (hb:okBall n ball):∀(k t:Nat) (f:Nat->Nat->Int),InvT n ball t f->InvC n ball f -> ∃t',t'<=t+k/\InvT n ball t' (timesF n ball k (t:Int) f)/\InvC n ball (timesF n ball k (t:Int) f):=by
 intro k
 induction k with
 | zero=>intro t f h1 h2;exact ⟨t,by omega,h1,h2⟩
 | succ k ih=>
  intro t f h1 h2
  unfold timesF
  split
  ·obtain ⟨t',k1,k2,k3⟩:=ih (t+1) _ (h1.next hb) (h2.next hb h1)
   exact ⟨t',by omega,k2,k3⟩
  ·exact ⟨t,by omega,h1,h2⟩
theorem times_facts {n:Nat} {ball:Int->List Int} (hb:okBall n ball):sqB n (timesT n ball)=true /\ ∀c r,c<n->r<n->1<=tab2 (timesT n ball) (c:Int) (r:Int)->(ball (c:Int)).any (chaseP ball (timesT n ball) (c:Int) (r:Int))=true:=by
 have hst:InvC n ball startF:=fun c r _ _ h=>by
  unfold startF at h
  split at h<;>omega
 obtain ⟨t',k1,k2,k3⟩:=timesF_inv hb 65 1 startF (InvT.start n ball) hst
 refine ⟨tabL_sqB fun c r hc hr => ?_,fun c r hc hr h => ?_⟩
 ·have h1:=k2.low c r hc hr
  have h2:=k2.high c r hc hr
  constructor
  ·exact h1
  ·have:((t':Nat):Int)<=66:=by omega
   exact Int.le_trans (Int.le_of_lt h2) (by omega)
 ·unfold timesT at h |-
  rw [tab2_tabL _ hc hr] at h
  obtain ⟨b,hbm,h0,h1⟩:=k3 c r hc hr h
  refine List.any_eq_true.2 ⟨b,hbm,?_⟩
  unfold chaseP
  rw [tab2_tabL _ hc hr,Bool.and_eq_true,decide_eq_true_eq,decide_eq_true_eq]
  exact ⟨h1,h0⟩
end Go.V.W
namespace Go.V.W
open Go.Proofs
theorem timesF_zero {n:Nat} {ball:Int->List Int}:∀(k:Nat) (t:Int) (f:Nat->Nat->Int),1<=t->(∀c r,f c r=0↔c=r) -> ∀c r,timesF n ball k t f c r=0↔c=r:=by
 intro k
 induction k with
 | zero=>intro t f _ h;exact h
 | succ k ih=>
  intro t f ht h
  unfold timesF
  split
  ·refine ih (t+1) _ (by omega) fun c r => ?_
   unfold stepF
   split
   ·rename_i hc
    unfold canF at hc
    rw [Bool.and_eq_true,decide_eq_true_eq] at hc
    have:=h c r
    constructor
    ·intro h0;omega
    ·intro h0;have:=this.2 h0;omega
   ·exact h c r
  ·exact h
theorem times_zero {n:Nat} {ball:Int->List Int} {c r:Nat} (hc:c<n) (hr:r<n):tab2 (timesT n ball) (c:Int) (r:Int)=0↔c=r:=by
 unfold timesT
 rw [tab2_tabL _ hc hr]
 refine timesF_zero 65 1 startF (by omega) (fun c r => ?_) c r
 unfold startF
 split<;>simp_all
theorem flee_worst (row:Int->Int):∀(l:List Int) (b:Int),0<=row b->0<=worstL row l (row b)->row (fleeL row l b)=worstL row l (row b)/\(fleeL row l b=b\/fleeL row l b∈l):=by
 intro l
 induction l with
 | nil=>intro b _ _;exact ⟨rfl,.inl rfl⟩
 | cons x l ih=>
  intro b h h2
  simp only [worstL,fleeL] at h2 |-
  by_cases hx:row x<0
  ·rw [if_pos hx] at h2;omega
  ·rw [if_neg hx] at h2 |-
   rw [if_neg hx]
   by_cases hg:row b<row x
   ·have hg':row x>row b:=hg
    rw [if_pos hg] at h2 |-
    rw [if_pos hg']
    obtain ⟨e1,e2⟩:=ih x (by omega) h2
    refine ⟨e1,.inr ?_⟩
    rcases e2 with e2 | e2
    ·rw [e2];exact List.mem_cons_self ..
    ·exact List.mem_cons_of_mem _ e2
   ·have hg':¬row x>row b:=hg
    rw [if_neg hg] at h2 |-
    rw [if_neg hg']
    obtain ⟨e1,e2⟩:=ih b h h2
    refine ⟨e1,?_⟩
    rcases e2 with e2 | e2
    ·exact .inl e2
    ·exact .inr (List.mem_cons_of_mem _ e2)
theorem flee_most {row:Int->Int} {l:List Int} (hl:l≠[]) (h:0<=worstL row l 0):row (fleeL row l (l.headD 0))=worstL row l 0/\fleeL row l (l.headD 0)∈l:=by
 match l,hl with
 | x::l,_=>
  show row (if row x<0 then x else fleeL row l (if row x>row x then x else x))=_/\(if row x<0 then x else fleeL row l (if row x>row x then x else x))∈_
  simp only [worstL] at h |-
  by_cases hx:row x<0
  ·rw [if_pos hx] at h;omega
  ·rw [if_neg hx] at h |-
   rw [if_neg hx,if_neg (show ¬row x>row x by omega)]
   have e:(if 0<row x then row x else 0)=row x:=by split<;>omega
   rw [e] at h |-
   obtain ⟨e1,e2⟩:=flee_worst row l x (by omega) h
   refine ⟨e1,?_⟩
   rcases e2 with e2 | e2
   ·rw [e2];exact List.mem_cons_self ..
   ·exact List.mem_cons_of_mem _ e2
theorem chase_one {n:Nat} {es:List E} {c r:Nat} (hc:c<n) (hr:r<n) (hne:c≠r) (h0:0<=tab2 (timesT n (ballF n es)) (c:Int) (r:Int)) :
  ∃b q:Nat,b<n/\q<n/\copT (ballF n es) (timesT n (ballF n es)) (c:Int) (r:Int)=(b:Int)/\robT (ballF n es) (timesT n (ballF n es)) (b:Int) (r:Int)=(q:Int)/\1<=tab2 (timesT n (ballF n es)) (c:Int) (r:Int) /\
   tab2 (timesT n (ballF n es)) (b:Int) (q:Int)+1=tab2 (timesT n (ballF n es)) (c:Int) (r:Int)/\(b:Int)∈ballF n es (c:Int)/\(q:Int)∈ballF n es (r:Int) /\
   (b≠r -> ∀z∈ballF n es (r:Int),0<=tab2 (timesT n (ballF n es)) (b:Int) z/\tab2 (timesT n (ballF n es)) (b:Int) z<tab2 (timesT n (ballF n es)) (c:Int) (r:Int)):=by
 have hb:=ballF_ok n es
 obtain ⟨f1,f2⟩:=times_facts hb
 generalize hT:timesT n (ballF n es)=T at *
 have hz:=fun (x y:Nat) (hx:x<n) (hy:y<n)=>times_zero (n:=n) (ball:=ballF n es) hx hy
 rw [hT] at hz
 have h1:1<=tab2 T (c:Int) (r:Int):=by
  have:=(hz c r hc hr).1
  by_cases e:tab2 T (c:Int) (r:Int)=0
  ·exact absurd (this e) hne
  ·omega
 have ha:=f2 c r hc hr h1
 obtain ⟨x,hx1,hx2⟩:=List.any_eq_true.1 ha
 have hfind:∃z,(ballF n es (c:Int)).find? (chaseP (ballF n es) T (c:Int) (r:Int))=some z:=by
  cases hf:(ballF n es (c:Int)).find? (chaseP (ballF n es) T (c:Int) (r:Int)) with
  | none=>exact absurd hx2 (List.find?_eq_none.1 hf x hx1)
  | some z=>exact ⟨z,rfl⟩
 obtain ⟨z,hf⟩:=hfind
 have hzm:=List.mem_of_find?_eq_some hf
 have hzp:=List.find?_some hf
 obtain ⟨b,hbn,rfl⟩:=hb c hc z hzm
 have hcop:copT (ballF n es) T (c:Int) (r:Int)=(b:Int):=by
  unfold copT firstL
  rw [hf]
  rfl
 unfold chaseP at hzp
 rw [Bool.and_eq_true,decide_eq_true_eq,decide_eq_true_eq] at hzp
 obtain ⟨a1,a2⟩:=hzp
 by_cases hbr:b=r
 ·subst hbr
  refine ⟨b,b,hbn,hbn,hcop,by unfold robT;rw [if_pos rfl],h1,?_,hzm,ball_self es hr,fun h=>absurd rfl h⟩
  have:afterT (ballF n es) T (b:Int) (b:Int)=0:=by unfold afterT;rw [if_pos rfl]
  rw [(hz b b hbn hbn).2 rfl]
  omega
 ·have hbi:¬(b:Int)=(r:Int):=by omega
  have ea:afterT (ballF n es) T (b:Int) (r:Int)=worstL (tab2 T (b:Int)) (ballF n es (r:Int)) 0:=by unfold afterT;rw [if_neg hbi]
  rw [ea] at a1 a2
  have hnil:ballF n es (r:Int)≠[]:=List.ne_nil_of_mem (ball_self es hr)
  obtain ⟨e1,e2⟩:=flee_most (row:=tab2 T (b:Int)) hnil a2
  obtain ⟨q,hq,eq⟩:=hb r hr _ e2
  refine ⟨b,q,hbn,hq,hcop,?_,h1,?_,hzm,?_,fun _ z hz => ?_⟩
  ·unfold robT
   rw [if_neg hbi,eq]
  ·rw [eq] at e1
   omega
  ·rw [<- eq];exact e2
  ·rcases worst_spec (tab2 T (b:Int)) (ballF n es (r:Int)) 0 with ⟨_,h⟩ | ⟨h,_⟩
   ·omega
   ·have:=h z hz
    omega
end Go.V.W
namespace Go.V.W
open Go.Proofs
theorem same_drop {α:Type} {l m:List α} {i:Nat} (hi:i<l.length) (hi':i<m.length):(l.drop i=m.drop i)=(l[i]=m[i]/\l.drop (i+1)=m.drop (i+1)):=by
 rw [List.drop_eq_getElem_cons hi,List.drop_eq_getElem_cons hi',List.cons.injEq]
theorem l1Same_lim (d) (r) (h:G_l1Same d=some r):∃N,F_q75q N d=some r:=by
 obtain ⟨l,m,_⟩:=d
 unfold G_l1Same at h
 split at h
 ·rename_i hl
  have hl:l.length<=lim:=of_decide_eq_true hl
  have hmx:=lim_max hl
  have h:=Option.some.inj h
  subst h
  refine ⟨l.length+1,?_⟩
  unfold F_q75q
  by_cases hm:l.length=m.length
  ·have hne:((List.length l:Int) != (List.length m:Int))=false:=by simp [hm]
   have key:∀n i,l.length<=i+n->i<=l.length->q75q_l0 (l.length+1) (n+1) (l,m,(i:Int),())=if l.drop i=m.drop i then some (.inr (.inl ())) else some (.inl (false,())):=by
    intro n
    induction n with
    | zero=>
     intro i h1 h2
     have e:i=l.length:=by omega
     subst e
     rw [List.drop_of_length_le (by omega),List.drop_of_length_le (by omega)]
     simp [q75q_l0,q75q_l0_r]
    | succ n ih=>
     intro i h1 h2
     by_cases hi:i<l.length
     ·have hi':i<m.length:=by omega
      show q75q_l0_r _ (q75q_l0 _ (n+1)) (l,m,(i:Int),())=_
      unfold q75q_l0_r
      have e1:at_ I l i=l[i]:=at_get (e:=I) hi
      have e2:at_ I m i=m[i]:=at_get (e:=I) hi'
      simp only [lt_dec hi,if_true,idxIn_nat hi,idxIn_nat hi',Int.toNat_natCast,e1,e2,wrap_up hi hmx,ih (i+1) (by omega) (by omega),same_drop hi hi']
      by_cases he:l[i]=m[i]
      ·simp only [he,bne_self_eq_false,Bool.false_eq_true,if_false,true_and]
      ·have he':(l[i] != m[i])=true:=by simpa using he
       simp only [he',he,if_true,false_and,if_false]
     ·have e:i=l.length:=by omega
      subst e
      rw [List.drop_of_length_le (by omega),List.drop_of_length_le (by omega)]
      simp [q75q_l0,q75q_l0_r]
   have:=key l.length 0 (by omega) (by omega)
   simp only [Int.natCast_zero,List.drop_zero] at this
   simp only [hne,Bool.false_eq_true,if_false,this]
   by_cases he:l=m
   ·simp [he]
   ·simp [he]
  ·have hne:((List.length l:Int) != (List.length m:Int))=true:=by simp;omega
   have he:¬l=m:=fun e=>hm (by rw [e])
   simp [hne,he]
 ·cases h
theorem l4Less_lim (d) (r) (h:G_l4Less d=some r):∃N,F_q67q N d=some r:=by
 obtain ⟨l,m,_⟩:=d
 unfold G_l4Less at h
 split at h
 ·rename_i hc
  simp only [Bool.and_eq_true,decide_eq_true_eq] at hc
  have hl:l.length<=lim:=okL_lim hc.1
  have hm:l.length=m.length:=hc.2
  have hmx:=lim_max hl
  have h:=Option.some.inj h
  subst h
  refine ⟨l.length+1,?_⟩
  unfold F_q67q
  have key:∀n i,l.length<=i+n->i<=l.length -> ∃o,q67q_l0 (l.length+1) (n+1) (l,m,(i:Int),())=some o/\(o=.inl (decide (cmpL (l.drop i) (m.drop i)<0),())\/(o=.inr (.inl ())/\decide (cmpL (l.drop i) (m.drop i)<0)=false)):=by
   intro n
   induction n with
   | zero=>
    intro i h1 h2
    have e:i=l.length:=by omega
    subst e
    rw [List.drop_of_length_le (by omega),List.drop_of_length_le (by omega)]
    exact ⟨_,by simp [q67q_l0,q67q_l0_r],.inr ⟨rfl,rfl⟩⟩
   | succ n ih=>
    intro i h1 h2
    by_cases hi:i<l.length
    ·have hi':i<m.length:=by omega
     show ∃o,q67q_l0_r _ (q67q_l0 _ (n+1)) (l,m,(i:Int),())=some o/\_
     unfold q67q_l0_r
     have e1:at_ I l i=l[i]:=at_get (e:=I) hi
     have e2:at_ I m i=m[i]:=at_get (e:=I) hi'
     rw [List.drop_eq_getElem_cons hi,List.drop_eq_getElem_cons hi']
     simp only [lt_dec hi,if_true,idxIn_nat hi,idxIn_nat hi',Int.toNat_natCast,e1,e2,wrap_up hi hmx,cmpL]
     by_cases he:l[i]=m[i]
     ·have a1:¬l[i]<m[i]:=by omega
      have a2:¬m[i]<l[i]:=by omega
      simp only [he,bne_self_eq_false,Bool.false_eq_true,if_false,Int.lt_irrefl]
      exact ih (i+1) (by omega) (by omega)
     ·have he':(l[i] != m[i])=true:=by simpa using he
      simp only [he',if_true]
      refine ⟨_,rfl,.inl ?_⟩
      by_cases a1:l[i]<m[i]
      ·simp [a1]
      ·have a2:m[i]<l[i]:=by omega
       simp [a1,a2]
    ·have e:i=l.length:=by omega
     subst e
     rw [List.drop_of_length_le (by omega),List.drop_of_length_le (by omega)]
     exact ⟨_,by simp [q67q_l0,q67q_l0_r],.inr ⟨rfl,rfl⟩⟩
  obtain ⟨o,o1,o2⟩:=key l.length 0 (by omega) (by omega)
  simp only [Int.natCast_zero,List.drop_zero] at o1 o2
  simp only [o1,Option.bind_some]
  rcases o2 with rfl | ⟨rfl,o3⟩
  ·rfl
  ·rw [o3]
 ·cases h
theorem l4At_lim (d) (r) (h:G_l4At d=some r):∃N,F_spec_l4At N d=some r:=by
 obtain ⟨xs,x,_⟩:=d
 unfold G_l4At at h
 split at h
 ·rename_i hc
  have hc:(okL xs&&xs.all okL)=true:=hc
  simp only [Bool.and_eq_true] at hc
  have hl:xs.length<=lim:=okL_lim hc.1
  have hmx:=lim_max hl
  have h:=Option.some.inj h
  subst h
  refine ⟨xs.length+1,?_⟩
  unfold F_spec_l4At
  have:=loop_idx (L:=spec_l4At_l0 (xs.length+1)) (r:=spec_l4At_l0_r (xs.length+1)) (fun _ _=>rfl) (e:=K_Si) xs (mk:=fun i=>(xs,x,(i:Int),())) (q:=fun y=>decide (y=x)) (o:=fun i=>.inl ((i:Int),())) (f:=.inr (.inl ()))
   (by
    intro back i hi
    have hx:at_ K_Si xs i=xs[i]:=at_get (e:=K_Si) hi
    have hs:G_l1Same (xs[i],x,())=some (decide (xs[i]=x),()):=by
     unfold G_l1Same
     rw [if_pos (List.all_eq_true.1 hc.2 xs[i] (List.getElem_mem hi))]
    unfold spec_l4At_l0_r
    simp only [lt_dec hi,if_true,idxIn_nat hi,Int.toNat_natCast,wrap_up hi hmx,hx,hs,Option.bind_some])
   (by intro back;unfold spec_l4At_l0_r;simp only [lt_not,Bool.false_eq_true,if_false]) xs.length 0 (by omega) (by omega)
  simp only [Int.natCast_zero,List.drop_zero] at this
  simp only [this,Option.bind_some]
  cases idxN (fun y=>decide (y=x)) xs 0<;>rfl
 ·cases h
end Go.V.W
namespace Go.V.W
open Go.Proofs
theorem putS_low (x:List Int):∀l:List (List Int),∃k,k<=l.length/\(∀j (hj:j<l.length),j<k->cmpL l[j] x<0)/\(∀hk:k<l.length,¬cmpL l[k] x<0) /\
  (∀hk:k<l.length,l[k]=x->putS x l=l)/\((∀hk:k<l.length,¬l[k]=x)->putS x l=l.take k++[x]++l.drop k):=by
 intro l
 induction l with
 | nil=>exact ⟨0,Nat.le_refl _,fun j hj=>absurd hj (by simp),fun hk=>absurd hk (by simp),fun hk=>absurd hk (by simp),fun _=>rfl⟩
 | cons a l ih=>
  by_cases h:cmpL a x<0
  ·obtain ⟨k,h1,h2,h3,h4,h5⟩:=ih
   refine ⟨k+1,by simp;exact h1,fun j hj hjk => ?_,fun hk=>h3 (by simpa using hk),fun hk e => ?_,fun hne => ?_⟩
   ·cases j with
    | zero=>exact h
    | succ j=>exact h2 j (by simpa using hj) (by omega)
   ·simp only [putS,h,if_true]
    rw [h4 (by simpa using hk) e]
   ·simp only [putS,h,if_true,List.take_succ_cons,List.drop_succ_cons,List.cons_append]
    rw [h5 fun hk=>hne (by simpa using hk)]
  ·refine ⟨0,Nat.zero_le _,fun j hj hjk=>absurd hjk (by omega),fun hk=>h,fun hk e => ?_,fun hne => ?_⟩
   ·have e:a=x:=e
    unfold putS
    rw [if_neg h,if_pos e]
   ·have hne:¬a=x:=hne (by simp)
    simp only [putS,h,if_false,hne,List.take_zero,List.drop_zero,List.nil_append,List.singleton_append]
theorem l4Put_lim (d) (r) (h:G_l4Put d=some r):∃N,F_spec_l4Put N d=some r:=by
 obtain ⟨l,x,_⟩:=d
 unfold G_l4Put at h
 split at h
 ·rename_i hc
  simp only [Bool.and_eq_true,decide_eq_true_eq] at hc
  have hl:l.length<=1000:=hc.1.1
  have hox:okL x=true:=hc.1.2
  have hal:∀y∈l,y.length=x.length:=fun y hy=>of_decide_eq_true (List.all_eq_true.1 hc.2 y hy)
  have hoy:∀y∈l,okL y=true:=fun y hy=>decide_eq_true (by rw [hal y hy];exact okL_lim hox)
  have hmx:l.length<=maxLen:=by unfold maxLen;omega
  have h:=Option.some.inj h
  subst h
  obtain ⟨k,h1,h2,h3,h4,h5⟩:=putS_low x l
  refine ⟨l.length+2,?_⟩
  have hless:∀j (hj:j<l.length),G_l4Less (l[j],x,())=some (decide (cmpL l[j] x<0),()):=fun j hj=>by
   unfold G_l4Less
   have e1:=hoy l[j] (List.getElem_mem hj)
   have e2:=hal l[j] (List.getElem_mem hj)
   simp only [e1,e2,decide_true,Bool.and_self,if_true]
  have key:∀q i f,i+q=k->q<f->spec_l4Put_l0 (l.length+2) f (l,x,(i:Int),())=some (.inl (l,x,(k:Int),())):=by
   intro q
   induction q with
   | zero=>
    intro i f e1 e2
    obtain ⟨f,rfl⟩:∃m,f=m+1:=⟨f-1,by omega⟩
    have ei:i=k:=by omega
    subst ei
    show spec_l4Put_l0_r _ _ _=_
    unfold spec_l4Put_l0_r
    by_cases hi:i<l.length
    ·have ea:at_ K_Si l i=l[i]:=at_get (e:=K_Si) hi
     simp only [lt_dec hi,if_true,idxIn_nat hi,Int.toNat_natCast,ea,hless i hi,Option.bind_some,h3 hi,decide_false,Bool.false_eq_true,if_false]
    ·have ei:i=l.length:=by omega
     subst ei
     simp only [lt_not,Bool.false_eq_true,if_false]
   | succ q ih=>
    intro i f e1 e2
    obtain ⟨f,rfl⟩:∃m,f=m+1:=⟨f-1,by omega⟩
    have hi:i<l.length:=by omega
    show spec_l4Put_l0_r _ _ _=_
    unfold spec_l4Put_l0_r
    have ea:at_ K_Si l i=l[i]:=at_get (e:=K_Si) hi
    simp only [lt_dec hi,if_true,idxIn_nat hi,Int.toNat_natCast,ea,hless i hi,Option.bind_some,h2 i hi (by omega),decide_true,wrap_up hi hmx]
    exact ih (i+1) f (by omega) (by omega)
  have:=key k 0 (l.length+2) (by omega) (by omega)
  simp only [Int.natCast_zero] at this
  unfold F_spec_l4Put
  have c1:(decide (0<=(0:Int))&&decide ((0:Int)<=(k:Int))&&decide ((k:Int)<=(l.length:Int)))=true:=by simp;omega
  have s1:sub_ l 0 (k:Int)=l.take k:=by unfold sub_;simp
  have s2:sub_ l (k:Int) (l.length:Int)=l.drop k:=by unfold sub_;simp
  have c2:decide (List.length ([]:List (List Int))+(l.take k).length<=lim)=true:=by unfold lim;simp;omega
  have c3:decide ((([]:List (List Int))++l.take k).length+List.length [x]<=lim)=true:=by unfold lim;simp;omega
  have c4:(decide (0<=(k:Int))&&decide ((k:Int)<=(l.length:Int))&&decide ((l.length:Int)<=(l.length:Int)))=true:=by simp;omega
  have c5:decide ((([]:List (List Int))++l.take k++[x]).length+(l.drop k).length<=lim)=true:=by unfold lim;simp;omega
  simp only [this,Option.bind_some]
  by_cases hk:k<l.length
  ·have ea:at_ K_Si l k=l[k]:=at_get (e:=K_Si) hk
   have hs:G_l1Same (l[k],x,())=some (decide (l[k]=x),()):=by
    unfold G_l1Same
    have:=hoy l[k] (List.getElem_mem hk)
    simp only [this,if_true]
   simp only [lt_dec hk,if_true,idxIn_nat hk,Int.toNat_natCast,ea,hs,Option.bind_some]
   by_cases e:l[k]=x
   ·simp only [e,decide_true,if_true,h4 hk e]
   ·simp only [e,decide_false,Bool.false_eq_true,if_false,c1,if_true,s1,c2,c3,c4,s2,c5]
    rw [h5 fun _=>e]
    simp
  ·have hk2:decide ((k:Int)<(l.length:Int))=false:=decide_eq_false (by omega)
   simp only [hk2,Bool.false_eq_true,if_false,c1,if_true,s1,c2,c3,c4,s2,c5]
   rw [h5 fun h=>absurd h hk]
   simp
 ·cases h
end Go.V.W
namespace Go.V.W
open Go.Proofs
def insA (x:Int):List Int->List Int
 | []=>[x]
 | a::l=>if a<=x then a::insA x l else x::a::l
theorem insA_low (x:Int):∀l:List Int,∃k,k<=l.length/\(∀j (hj:j<l.length),j<k->l[j]<=x)/\(∀hk:k<l.length,¬l[k]<=x)/\insA x l=l.take k++[x]++l.drop k:=by
 intro l
 induction l with
 | nil=>exact ⟨0,Nat.le_refl _,fun j hj=>absurd hj (by simp),fun hk=>absurd hk (by simp),rfl⟩
 | cons a l ih=>
  by_cases h:a<=x
  ·obtain ⟨k,h1,h2,h3,h4⟩:=ih
   refine ⟨k+1,by simp;exact h1,fun j hj hjk => ?_,fun hk=>h3 (by simpa using hk),?_⟩
   ·cases j with
    | zero=>exact h
    | succ j=>exact h2 j (by simpa using hj) (by omega)
   ·simp only [insA,h,if_true,h4,List.take_succ_cons,List.drop_succ_cons,List.cons_append]
  ·refine ⟨0,Nat.zero_le _,fun j hj hjk=>absurd hjk (by omega),fun hk=>h,?_⟩
   simp only [insA,h,if_false,List.take_zero,List.drop_zero,List.nil_append,List.singleton_append]
theorem insA_len (x:Int):∀l:List Int,(insA x l).length=l.length+1:=by
 intro l
 induction l with
 | nil=>rfl
 | cons a l ih=>
  unfold insA
  split<;>simp [ih]
theorem insA_perm (x:Int):∀l:List Int,(insA x l).Perm (x::l):=by
 intro l
 induction l with
 | nil=>exact .refl _
 | cons a l ih=>
  unfold insA
  split
  ·exact (ih.cons a).trans (List.Perm.swap x a l)
  ·exact .refl _
theorem insA_sorted (x:Int):∀l:List Int,l.Pairwise (· <= ·)->(insA x l).Pairwise (· <= ·):=by
 intro l
 induction l with
 | nil=>intro _;simp [insA]
 | cons a l ih=>
  intro h
  rw [List.pairwise_cons] at h
  unfold insA
  split
  ·rename_i hx
   rw [List.pairwise_cons]
   refine ⟨fun b hb => ?_,ih h.2⟩
   rcases List.mem_cons.1 ((insA_perm x l).mem_iff.1 hb) with rfl | hb
   ·exact hx
   ·exact h.1 b hb
  ·rename_i hx
   rw [List.pairwise_cons,List.pairwise_cons]
   refine ⟨fun b hb => ?_,h⟩
   rcases List.mem_cons.1 hb with rfl | hb
   ·omega
   ·have:=h.1 b hb;omega
theorem int_sorted_eq:∀{l m:List Int},l.Pairwise (· <= ·)->m.Pairwise (· <= ·)->l.Perm m->l=m:=by
 intro l
 induction l with
 | nil=>intro m _ _ h;exact List.Perm.nil_eq h
 | cons a l ih=>
  intro m hl hm h
  cases m with
  | nil=>exact absurd h.length_eq (by simp)
  | cons b m=>
   rw [List.pairwise_cons] at hl hm
   have e:a=b:=by
    rcases List.mem_cons.1 (h.mem_iff.1 (List.mem_cons_self (a:=a) (l:=l))) with e | ha
    ·exact e
    rcases List.mem_cons.1 (h.mem_iff.2 (List.mem_cons_self (a:=b) (l:=m))) with e | hb
    ·exact e.symm
    have h1:=hl.1 b hb
    have h2:=hm.1 a ha
    omega
   subst e
   rw [ih hl.2 hm.2 ((List.perm_cons a).1 h)]
theorem sortI_sorted (l:List Int):(sortI l).Pairwise (· <= ·):=by
 have:=List.pairwise_mergeSort (le:=fun x y:Int=>decide (x<=y)) (fun a b c h1 h2=>by simp at h1 h2 |-;omega) (fun a b=>by simp;omega) l
 unfold sortI
 exact this.imp fun h=>by simpa using h
theorem sortI_perm (l:List Int):(sortI l).Perm l:=by
 unfold sortI
 exact List.mergeSort_perm l _
theorem sortA_fold:∀(l o:List Int),o.Pairwise (· <= ·)->(l.foldl (fun o x=>insA x o) o).Pairwise (· <= ·)/\(l.foldl (fun o x=>insA x o) o).Perm (o++l):=by
 intro l
 induction l with
 | nil=>intro o h;exact ⟨h,by simp⟩
 | cons x l ih=>
  intro o h
  obtain ⟨h1,h2⟩:=ih (insA x o) (insA_sorted x o h)
  refine ⟨h1,h2.trans ?_⟩
  refine ((insA_perm x o).append_right l).trans ?_
  show (x::(o++l)).Perm (o++x::l)
  exact List.perm_middle.symm
theorem sortA_eq (l:List Int):l.foldl (fun o x=>insA x o) []=sortI l:=by
 obtain ⟨h1,h2⟩:=sortA_fold l [] .nil
 exact int_sorted_eq h1 (sortI_sorted l) (h2.trans (sortI_perm l).symm)
theorem l4Sorted_lim (d) (r) (h:G_l4Sorted d=some r):∃N,F_q55q N d=some r:=by
 obtain ⟨l,_⟩:=d
 unfold G_l4Sorted at h
 split at h
 ·rename_i hc
  have hl:l.length<=1000:=of_decide_eq_true hc
  have hmx:l.length<=maxLen:=by unfold maxLen;omega
  have h:=Option.some.inj h
  subst h
  refine ⟨l.length+2,?_⟩
  unfold F_q55q
  have inner:∀(i:Nat) (hi:i<l.length) (out:List Int),out.length<=l.length -> ∀k,k<=out.length->(∀j (hj:j<out.length),j<k->out[j]<=l[i])->(∀hk:k<out.length,¬out[k]<=l[i]) -> ∀q j f,j+q=k->q<f ->
    q55q_l2 (l.length+2) f (l,out,(i:Int),(j:Int),())=some (.inl (l,out,(i:Int),(k:Int),())):=by
   intro i hi out ho k hk h2 h3 q
   have hmo:out.length<=maxLen:=by omega
   have ei:at_ I l i=l[i]:=at_get (e:=I) hi
   induction q with
   | zero=>
    intro j f e1 e2
    obtain ⟨f,rfl⟩:∃m,f=m+1:=⟨f-1,by omega⟩
    have e:j=k:=by omega
    subst e
    show q55q_l2_r _ _ _=_
    unfold q55q_l2_r
    by_cases hj:j<out.length
    ·have ea:at_ I out j=out[j]:=at_get (e:=I) hj
     simp only [lt_dec hj,if_true,idxIn_nat hj,idxIn_nat hi,Int.toNat_natCast,ea,ei,h3 hj,decide_false,Bool.false_eq_true,if_false]
    ·have e:j=out.length:=by omega
     subst e
     simp only [lt_not,Bool.false_eq_true,if_false]
   | succ q ih=>
    intro j f e1 e2
    obtain ⟨f,rfl⟩:∃m,f=m+1:=⟨f-1,by omega⟩
    have hj:j<out.length:=by omega
    have ea:at_ I out j=out[j]:=at_get (e:=I) hj
    show q55q_l2_r _ _ _=_
    unfold q55q_l2_r
    simp only [lt_dec hj,if_true,idxIn_nat hj,idxIn_nat hi,Int.toNat_natCast,ea,ei,h2 j hj (by omega),decide_true,wrap_up hj hmo]
    exact ih (j+1) f (by omega) (by omega)
  have key:∀q i f (out:List Int),i+q=l.length->q<f->out.length=i->q55q_l0 (l.length+2) f (l,out,(i:Int),())=some (.inl ((l.drop i).foldl (fun o x=>insA x o) out,())):=by
   intro q
   induction q with
   | zero=>
    intro i f out e1 e2 e3
    obtain ⟨f,rfl⟩:∃m,f=m+1:=⟨f-1,by omega⟩
    have e:i=l.length:=by omega
    subst e
    rw [List.drop_of_length_le (Nat.le_refl _)]
    show q55q_l0_r _ _ _=_
    unfold q55q_l0_r
    simp only [lt_not,Bool.false_eq_true,if_false,List.foldl_nil]
   | succ q ih=>
    intro i f out e1 e2 e3
    obtain ⟨f,rfl⟩:∃m,f=m+1:=⟨f-1,by omega⟩
    have hi:i<l.length:=by omega
    have ei:at_ I l i=l[i]:=at_get (e:=I) hi
    obtain ⟨k,h1,h2,h3,h4⟩:=insA_low l[i] out
    have hin:=inner i hi out (by omega) k h1 h2 h3 k 0 (l.length+2) (by omega) (by omega)
    simp only [Int.natCast_zero] at hin
    have c1:(decide (0<=(0:Int))&&decide ((0:Int)<=(k:Int))&&decide ((k:Int)<=(out.length:Int)))=true:=by simp;omega
    have s1:sub_ out 0 (k:Int)=out.take k:=by unfold sub_;simp
    have s2:sub_ out (k:Int) (out.length:Int)=out.drop k:=by unfold sub_;simp
    have c2:decide (List.length ([]:List Int)+(out.take k).length<=lim)=true:=by unfold lim;simp;omega
    have c3:decide ((([]:List Int)++out.take k).length+List.length [l[i]]<=lim)=true:=by unfold lim;simp;omega
    have c4:(decide (0<=(k:Int))&&decide ((k:Int)<=(out.length:Int))&&decide ((out.length:Int)<=(out.length:Int)))=true:=by simp;omega
    have c5:decide ((([]:List Int)++out.take k++[l[i]]).length+(out.drop k).length<=lim)=true:=by unfold lim;simp;omega
    show q55q_l0_r _ _ _=_
    unfold q55q_l0_r
    simp only [lt_dec hi,if_true,hin,Option.bind_some,c1,s1,c2,idxIn_nat hi,Int.toNat_natCast,ei,c3,c4,s2,c5,wrap_up hi hmx]
    rw [List.drop_eq_getElem_cons hi,List.foldl_cons,h4]
    have:=ih (i+1) f (insA l[i] out) (by omega) (by omega) (by rw [insA_len,e3])
    rw [h4] at this
    exact this
  have:=key l.length 0 (l.length+2) [] (by omega) (by omega) rfl
  simp only [Int.natCast_zero,List.drop_zero,sortA_eq] at this
  simp only [this,Option.bind_some]
 ·cases h
end Go.V.W
namespace Go.V.W
open Go.Proofs
theorem mv_l4 (N:Nat) (cops:List Int) (g:Gr) (now:List (List Int)) (c:Int) (ball:List Int) (hb:ball.length<=8) (j:Nat) (hj:j<now.length) (hlen:now[j].length<=1000):∀q k f (next:List (List Int)),k+q=ball.length->q<f->next.length+q<=1000 ->
  q65q_l4 N f (cops,g,now,c,next,ball,(j:Int),(k:Int),())=some (.inl (cops,g,now,c,next++(ball.drop k).map (fun x=>now[j]++[x]),ball,(j:Int),())):=by
 intro q
 induction q with
 | zero=>
  intro k f next e1 e2 e3
  obtain ⟨f,rfl⟩:∃m,f=m+1:=⟨f-1,by omega⟩
  have e:k=ball.length:=by omega
  subst e
  rw [List.drop_of_length_le (Nat.le_refl _)]
  show q65q_l4_r _ _ _=_
  unfold q65q_l4_r
  simp only [lt_not,Bool.false_eq_true,if_false,List.map_nil,List.append_nil]
 | succ q ih=>
  intro k f next e1 e2 e3
  obtain ⟨f,rfl⟩:∃m,f=m+1:=⟨f-1,by omega⟩
  have hk:k<ball.length:=by omega
  have ek:at_ I ball k=ball[k]:=at_get (e:=I) hk
  have ej:at_ K_Si now j=now[j]:=at_get (e:=K_Si) hj
  have c1:decide (now[j].length+List.length [ball[k]]<=lim)=true:=by unfold lim;simp;omega
  have c2:decide (next.length+List.length [now[j]++[ball[k]]]<=lim)=true:=by unfold lim;simp;omega
  show q65q_l4_r _ _ _=_
  unfold q65q_l4_r
  simp only [lt_dec hk,if_true,idxIn_nat hj,idxIn_nat hk,Int.toNat_natCast,ek,ej,own_some now[j] hlen,Option.bind_some,c1,c2,wrap8 hk hb]
  rw [ih (k+1) f _ (by omega) (by omega) (by simp;omega),List.drop_eq_getElem_cons hk,List.map_cons,List.append_assoc,List.singleton_append]
theorem mv_l2 (N:Nat) (hN:10<=N) (cops:List Int) (g:Gr) (now:List (List Int)) (hnow:now.length<=64) (hle:∀l∈now,l.length<=1000) (c:Int) (ball:List Int) (hb:ball.length<=8):∀q j f (next:List (List Int)),j+q=now.length->q<f->next.length+8*q<=900 ->
  q65q_l2 N f (cops,g,now,c,next,ball,(j:Int),())=some (.inl (cops,g,c,next++(now.drop j).flatMap (fun l=>ball.map fun x=>l++[x]),())):=by
 intro q
 induction q with
 | zero=>
  intro j f next e1 e2 e3
  obtain ⟨f,rfl⟩:∃m,f=m+1:=⟨f-1,by omega⟩
  have e:j=now.length:=by omega
  subst e
  rw [List.drop_of_length_le (Nat.le_refl _)]
  show q65q_l2_r _ _ _=_
  unfold q65q_l2_r
  simp only [lt_not,Bool.false_eq_true,if_false,List.flatMap_nil,List.append_nil]
 | succ q ih=>
  intro j f next e1 e2 e3
  obtain ⟨f,rfl⟩:∃m,f=m+1:=⟨f-1,by omega⟩
  have hj:j<now.length:=by omega
  have hin:=mv_l4 N cops g now c ball hb j hj (hle _ (List.getElem_mem hj)) ball.length 0 N next (by omega) (by omega) (by omega)
  simp only [Int.natCast_zero,List.drop_zero] at hin
  have hw:IntKind.wrap .i64 ((j:Int)+1)=((j+1:Nat):Int):=by
   rw [wrap_in _ (by omega) (by omega)]
   rfl
  show q65q_l2_r _ _ _=_
  unfold q65q_l2_r
  simp only [lt_dec hj,if_true,hin,Option.bind_some,hw]
  rw [ih (j+1) f _ (by omega) (by omega) (by simp;omega),List.drop_eq_getElem_cons hj,List.flatMap_cons,List.append_assoc]
theorem flat_len (ball:List Int):∀now:List (List Int),(now.flatMap fun l=>ball.map fun x=>l++[x]).length=now.length*ball.length:=by
 intro now
 induction now with
 | nil=>simp
 | cons l now ih=>
  rw [List.flatMap_cons,List.length_append,ih,List.length_map,List.length_cons,Nat.succ_mul]
  omega
theorem flat_each {ball:List Int} {now:List (List Int)} {i:Nat} (h:∀l∈now,l.length=i):∀l∈now.flatMap (fun l=>ball.map fun x=>l++[x]),l.length=i+1:=by
 intro l hl
 obtain ⟨a,ha,h2⟩:=List.mem_flatMap.1 hl
 obtain ⟨x,_,rfl⟩:=List.mem_map.1 h2
 simp [h a ha]
theorem chL_facts {ball:Int->List Int}:∀{cs:List Int} {now:List (List Int)} {i:Nat},(∀c∈cs,(ball c).length<=8)->(∀l∈now,l.length=i)->(chL ball cs now).length<=now.length*8 ^ cs.length /\ ∀l∈chL ball cs now,l.length=i+cs.length:=by
 intro cs
 induction cs with
 | nil=>intro now i _ h;exact ⟨by simp [chL],fun l hl=>by simpa using h l hl⟩
 | cons c cs ih=>
  intro now i hb h
  obtain ⟨h1,h2⟩:=ih (fun c hc=>hb c (by simp [hc])) (flat_each (ball:=ball c) h)
  refine ⟨?_,fun l hl=>by rw [h2 l hl];simp;omega⟩
  refine Nat.le_trans h1 ?_
  rw [flat_len,List.length_cons,Nat.pow_succ,Nat.mul_comm (8 ^ cs.length) 8,<- Nat.mul_assoc]
  exact Nat.mul_le_mul_right _ (Nat.mul_le_mul_left _ (hb c (by simp)))
theorem mv_l0 (N:Nat) (hN:100<=N) (g:Gr) (hG:grB g=true) (cops:List Int) (h3:cops.length<=3) (hc:∀c∈cops,inB 0 (g.1-1) c=true):∀q i f (now:List (List Int)),i+q=cops.length->q<f->now.length<=8 ^ i->(∀l∈now,l.length=i) ->
  q65q_l0 N f (cops,g,now,(i:Int),())=some (.inl (chL (ballF g.1.toNat g.2.1) (cops.drop i) now,())):=by
 obtain ⟨g1,g2,g8,g4⟩:=grB_parts hG
 intro q
 induction q with
 | zero=>
  intro i f now e1 e2 e3 e4
  obtain ⟨f,rfl⟩:∃m,f=m+1:=⟨f-1,by omega⟩
  have e:i=cops.length:=by omega
  subst e
  rw [List.drop_of_length_le (Nat.le_refl _)]
  show q65q_l0_r _ _ _=_
  unfold q65q_l0_r
  simp only [lt_not,Bool.false_eq_true,if_false,chL]
 | succ q ih=>
  intro i f now e1 e2 e3 e4
  obtain ⟨f,rfl⟩:∃m,f=m+1:=⟨f-1,by omega⟩
  have hi:i<cops.length:=by omega
  have ei:at_ I cops i=cops[i]:=at_get (e:=I) hi
  obtain ⟨b1,b2⟩:=inB_nat g2 (hc _ (List.getElem_mem hi))
  have hb:=ball_some hG b2
  rw [<- b1] at hb
  have hbl:=ballF_len g.1.toNat g.2.1 cops[i]
  have h64:now.length<=64:=by
   have:8 ^ i<=8 ^ 2:=Nat.pow_le_pow_right (by omega) (by omega)
   omega
  have hin:=mv_l2 N (by omega) cops g now h64 (fun l hl=>by rw [e4 l hl];omega) (i:Int) (ballF g.1.toNat g.2.1 cops[i]) (by omega) now.length 0 N [] (by omega) (by omega) (by simp;omega)
  simp only [Int.natCast_zero,List.drop_zero,List.nil_append] at hin
  have hw:IntKind.wrap .i64 ((i:Int)+1)=((i+1:Nat):Int):=by
   rw [wrap_in _ (by omega) (by omega)]
   rfl
  show q65q_l0_r _ _ _=_
  unfold q65q_l0_r
  simp only [lt_dec hi,if_true,idxIn_nat hi,Int.toNat_natCast,ei,hb,Option.bind_some,hin,hw]
  rw [List.drop_eq_getElem_cons hi]
  refine ih (i+1) f _ (by omega) (by omega) ?_ (flat_each e4)
  rw [flat_len,Nat.pow_succ]
  exact Nat.mul_le_mul e3 (by omega)
theorem mv_l6 (N:Nat) (L:List (List Int)) (hL:L.length<=900) (m:Nat) (hm:m<=900) (hal:∀l∈L,l.length=m):∀q i f (out:List (List Int)),i+q=L.length->q<f->out.length<=i->(∀l∈out,l.length=m) ->
  q65q_l6 N f (L,out,(i:Int),())=some (.inl ((L.drop i).foldl (fun o x=>putS (sortI x) o) out,())):=by
 intro q
 induction q with
 | zero=>
  intro i f out e1 e2 e3 e4
  obtain ⟨f,rfl⟩:∃m,f=m+1:=⟨f-1,by omega⟩
  have e:i=L.length:=by omega
  subst e
  rw [List.drop_of_length_le (Nat.le_refl _)]
  show q65q_l6_r _ _ _=_
  unfold q65q_l6_r
  simp only [lt_not,Bool.false_eq_true,if_false,List.foldl_nil]
 | succ q ih=>
  intro i f out e1 e2 e3 e4
  obtain ⟨f,rfl⟩:∃m,f=m+1:=⟨f-1,by omega⟩
  have hi:i<L.length:=by omega
  have ei:at_ K_Si L i=L[i]:=at_get (e:=K_Si) hi
  have hli:=hal _ (List.getElem_mem hi)
  have hs:G_l4Sorted (L[i],())=some (sortI L[i],()):=by
   unfold G_l4Sorted
   rw [if_pos (decide_eq_true (by show L[i].length<=1000;omega))]
  have hsl:(sortI L[i]).length=m:=by rw [sort_len,hli]
  have hp:G_l4Put (out,sortI L[i],())=some (putS (sortI L[i]) out,()):=by
   unfold G_l4Put
   have c1:decide (out.length<=1000)=true:=decide_eq_true (by omega)
   have c2:okL (sortI L[i])=true:=decide_eq_true (by rw [hsl];unfold lim;omega)
   have c3:out.all (fun l=>decide (l.length=(sortI L[i]).length))=true:=List.all_eq_true.2 fun l hl=>decide_eq_true (by rw [e4 l hl,hsl])
   simp only [c1,c2,c3,Bool.and_self,if_true]
  have hw:IntKind.wrap .i64 ((i:Int)+1)=((i+1:Nat):Int):=by
   rw [wrap_in _ (by omega) (by omega)]
   rfl
  show q65q_l6_r _ _ _=_
  unfold q65q_l6_r
  simp only [lt_dec hi,if_true,idxIn_nat hi,Int.toNat_natCast,ei,hs,Option.bind_some,hp,hw]
  rw [List.drop_eq_getElem_cons hi,List.foldl_cons]
  have hpl:∀l:List (List Int),(putS (sortI L[i]) l).length<=l.length+1:=by
   intro l
   induction l with
   | nil=>simp [putS]
   | cons a l ih=>unfold putS;split<;>(try split)<;>simp<;>omega
  refine ih (i+1) f _ (by omega) (by omega) (by have:=hpl out;omega) fun l hl => ?_
  rcases putS_mem.1 hl with rfl | hl
  ·exact hsl
  ·exact e4 l hl
theorem nodes_parts {n:Int} {cops:List Int} (h:nodesB n cops=true):cops.length<=3 /\ ∀c∈cops,inB 0 (n-1) c=true:=by
 unfold nodesB at h
 simp only [Bool.and_eq_true,decide_eq_true_eq] at h
 exact ⟨h.1,fun c hc=>List.all_eq_true.1 h.2 c hc⟩
theorem l4Moves_lim (d) (r) (h:G_l4Moves d=some r):∃N,F_q65q N d=some r:=by
 obtain ⟨g,cops,_⟩:=d
 unfold G_l4Moves at h
 split at h
 ·rename_i hc
  simp only [Bool.and_eq_true] at hc
  obtain ⟨hG,hc⟩:=hc
  have hG:grB g=true:=hG
  obtain ⟨h3,hin⟩:=nodes_parts hc
  obtain ⟨g1,g2,g8,g4⟩:=grB_parts hG
  have h:=Option.some.inj h
  subst h
  refine ⟨1000,?_⟩
  unfold F_q65q
  have h0:=mv_l0 1000 (by omega) g hG cops h3 hin cops.length 0 1000 [[]] (by omega) (by omega) (by simp) (by simp)
  simp only [Int.natCast_zero,List.drop_zero] at h0
  have hb8:∀c∈cops,(ballF g.1.toNat g.2.1 c).length<=8:=fun c _=>Nat.le_trans (ballF_len _ _ _) g8
  obtain ⟨f1,f2⟩:=chL_facts (ball:=ballF g.1.toNat g.2.1) (cs:=cops) (now:=[[]]) (i:=0) hb8 (by simp)
  have hlen:(chL (ballF g.1.toNat g.2.1) cops [[]]).length<=512:=by
   have:8 ^ cops.length<=8 ^ 3:=Nat.pow_le_pow_right (by omega) h3
   have e:([[]]:List (List Int)).length=1:=rfl
   rw [e] at f1
   omega
  have h6:=mv_l6 1000 (chL (ballF g.1.toNat g.2.1) cops [[]]) (by omega) (0+cops.length) (by omega) f2 (chL (ballF g.1.toNat g.2.1) cops [[]]).length 0 1000 [] (by omega) (by omega) (by simp) (by simp)
  simp only [Int.natCast_zero,List.drop_zero] at h6
  simp only [h0,Option.bind_some,h6]
  show some (_,())=some (movesL (ballF g.1.toNat g.2.1) cops,())
  unfold movesL
  rw [<- puts_comp]
  unfold putsS
  rw [List.foldl_map]
 ·cases h
end Go.V.W
namespace Go.V.W
open Go.Proofs
theorem cm_l4 (N:Nat) (net:Nt) (cop:Int) (list cops:List Int) (n17 i:Int) (moves:List (List Int)) (n23 j:Int) (ball:List Int) (hb:ball.length<=8) (hlen:list.length<=1000):∀q k f (next:List (List Int)),k+q=ball.length->q<f->next.length+q<=1000 ->
  q24q_l4 N f (net,cop,next,list,cops,n17,i,moves,n23,j,ball,(ball.length:Int),(k:Int),())=some (.inl (net,cop,next++(ball.drop k).map (fun x=>list++[x]),cops,n17,i,moves,n23,j,())):=by
 intro q
 induction q with
 | zero=>
  intro k f next e1 e2 e3
  obtain ⟨f,rfl⟩:∃m,f=m+1:=⟨f-1,by omega⟩
  have e:k=ball.length:=by omega
  subst e
  rw [List.drop_of_length_le (Nat.le_refl _)]
  show q24q_l4_r _ _ _=_
  unfold q24q_l4_r
  simp only [lt_not,Bool.false_eq_true,if_false,List.map_nil,List.append_nil]
 | succ q ih=>
  intro k f next e1 e2 e3
  obtain ⟨f,rfl⟩:∃m,f=m+1:=⟨f-1,by omega⟩
  have hk:k<ball.length:=by omega
  have ek:at_ I ball k=ball[k]:=at_get (e:=I) hk
  have ht:G_toIntS (list,())=some (list,()):=by
   unfold G_toIntS
   rw [if_pos (show okL list=true from decide_eq_true (by unfold lim;omega))]
  have c1:decide (list.length+List.length [ball[k]]<=lim)=true:=by unfold lim;simp;omega
  have c2:decide (next.length+List.length [list++[ball[k]]]<=lim)=true:=by unfold lim;simp;omega
  show q24q_l4_r _ _ _=_
  unfold q24q_l4_r
  simp only [lt_dec hk,if_true,idxIn_nat hk,Int.toNat_natCast,ek,ht,Option.bind_some,c1,c2,wrap8 hk hb]
  rw [ih (k+1) f _ (by omega) (by omega) (by simp;omega),List.drop_eq_getElem_cons hk,List.map_cons,List.append_assoc,List.singleton_append]
theorem cm_l2 (N:Nat) (hN:10<=N) {l:List Int} (hn:netB l=true) (u:Unit) (c:Nat) (hc:c<l.length) (cops:List Int) (n17 i:Int) (now:List (List Int)) (hnow:now.length<=64) (hle:∀l∈now,l.length<=1000):∀q j f (next:List (List Int)),j+q=now.length->q<f->next.length+8*q<=900 ->
  q24q_l2 N f ((l,u),(c:Int),next,cops,n17,i,now,(now.length:Int),(j:Int),())=some (.inl ((l,u),next++(now.drop j).flatMap (fun l'=>(ballM l (c:Int)).map fun x=>l'++[x]),cops,n17,i,())):=by
 intro q
 have hb:=ballM_len l (c:Int)
 induction q with
 | zero=>
  intro j f next e1 e2 e3
  obtain ⟨f,rfl⟩:∃m,f=m+1:=⟨f-1,by omega⟩
  have e:j=now.length:=by omega
  subst e
  rw [List.drop_of_length_le (Nat.le_refl _)]
  show q24q_l2_r _ _ _=_
  unfold q24q_l2_r
  simp only [lt_not,Bool.false_eq_true,if_false,List.flatMap_nil,List.append_nil]
 | succ q ih=>
  intro j f next e1 e2 e3
  obtain ⟨f,rfl⟩:∃m,f=m+1:=⟨f-1,by omega⟩
  have hj:j<now.length:=by omega
  have ej:at_ K_Si now j=now[j]:=at_get (e:=K_Si) hj
  have hin:=cm_l4 N (l,u) (c:Int) now[j] cops n17 i now (now.length:Int) (j:Int) (ballM l (c:Int)) hb (hle _ (List.getElem_mem hj)) (ballM l (c:Int)).length 0 N next (by omega) (by omega) (by omega)
  simp only [Int.natCast_zero,List.drop_zero] at hin
  have hw:IntKind.wrap .i64 ((j:Int)+1)=((j+1:Nat):Int):=by
   rw [wrap_in _ (by omega) (by omega)]
   rfl
  show q24q_l2_r _ _ _=_
  unfold q24q_l2_r
  simp only [lt_dec hj,if_true,idxIn_nat hj,Int.toNat_natCast,ej,closedM hn u hc,setOfM hn hc,Option.bind_some,hin,hw]
  rw [ih (j+1) f _ (by omega) (by omega) (by simp;omega),List.drop_eq_getElem_cons hj,List.flatMap_cons,List.append_assoc]
theorem cm_l0 (N:Nat) (hN:100<=N) {l:List Int} (hn:netB l=true) (u:Unit) (cops:List Int) (h3:cops.length<=3) (hc:∀c∈cops,inB 0 ((l.length:Int)-1) c=true):∀q i f (now:List (List Int)),i+q=cops.length->q<f->now.length<=8 ^ i->(∀l∈now,l.length=i) ->
  q24q_l0 N f ((l,u),now,cops,(cops.length:Int),(i:Int),())=some (.inl (chL (ballM l) (cops.drop i) now,())):=by
 intro q
 induction q with
 | zero=>
  intro i f now e1 e2 e3 e4
  obtain ⟨f,rfl⟩:∃m,f=m+1:=⟨f-1,by omega⟩
  have e:i=cops.length:=by omega
  subst e
  rw [List.drop_of_length_le (Nat.le_refl _)]
  show q24q_l0_r _ _ _=_
  unfold q24q_l0_r
  simp only [lt_not,Bool.false_eq_true,if_false,chL]
 | succ q ih=>
  intro i f now e1 e2 e3 e4
  obtain ⟨f,rfl⟩:∃m,f=m+1:=⟨f-1,by omega⟩
  have hi:i<cops.length:=by omega
  have ei:at_ I cops i=cops[i]:=at_get (e:=I) hi
  obtain ⟨b1,b2⟩:=inB_len (hc _ (List.getElem_mem hi))
  have hbl:=ballM_len l cops[i]
  have h64:now.length<=64:=by
   have:8 ^ i<=8 ^ 2:=Nat.pow_le_pow_right (by omega) (by omega)
   omega
  have hin:=cm_l2 N (by omega) hn u cops[i].toNat b2 cops (cops.length:Int) (i:Int) now h64 (fun l hl=>by rw [e4 l hl];omega) now.length 0 N [] (by omega) (by omega) (by simp;omega)
  rw [<- b1] at hin
  simp only [Int.natCast_zero,List.drop_zero,List.nil_append] at hin
  have hw:IntKind.wrap .i64 ((i:Int)+1)=((i+1:Nat):Int):=by
   rw [wrap_in _ (by omega) (by omega)]
   rfl
  show q24q_l0_r _ _ _=_
  unfold q24q_l0_r
  simp only [lt_dec hi,if_true,idxIn_nat hi,Int.toNat_natCast,ei,hin,Option.bind_some,hw]
  rw [List.drop_eq_getElem_cons hi]
  refine ih (i+1) f _ (by omega) (by omega) ?_ (flat_each e4)
  rw [flat_len,Nat.pow_succ]
  exact Nat.mul_le_mul e3 hbl
theorem cm_l6 (N:Nat):∀(rest pre:List (List Int)) f,rest.length<f->pre.length+rest.length<=900->(∀l∈rest,l.length<=900) ->
  q24q_l6 N f (pre++rest,(),((pre.length+rest.length:Nat):Int),(pre.length:Int),())=some (.inl (pre++rest.map sortI,())):=by
 intro rest
 induction rest with
 | nil=>
  intro pre f e1 e2 e3
  obtain ⟨f,rfl⟩:∃m,f=m+1:=⟨f-1,by omega⟩
  show q24q_l6_r _ _ _=_
  unfold q24q_l6_r
  simp only [List.length_nil,Nat.add_zero,lt_not,Bool.false_eq_true,if_false,List.map_nil]
 | cons x rest ih=>
  intro pre f e1 e2 e3
  obtain ⟨f,rfl⟩:∃m,f=m+1:=⟨f-1,by omega⟩
  have e2':pre.length+(rest.length+1)<=900:=by simpa using e2
  have hlt:decide ((pre.length:Int)<((pre.length+(x::rest).length:Nat):Int))=true:=decide_eq_true (by simp;omega)
  have hix:idxIn (pre.length:Int) (pre++x::rest).length=true:=idxIn_nat (by simp)
  have hs:G_sortI (x,())=some (sortI x,()):=by
   unfold G_sortI
   rw [if_pos (decide_eq_true (by have:=e3 x (by simp);unfold lim;show x.length<=_;omega))]
  have hw:IntKind.wrap .i64 ((pre.length:Int)+1)=((pre.length+1:Nat):Int):=by
   rw [wrap_in _ (by omega) (by omega)]
   rfl
  show q24q_l6_r _ _ _=_
  unfold q24q_l6_r
  simp only [hlt,hix,if_true,Int.toNat_natCast,at_midS,hs,Option.bind_some,set_midS,hw]
  have:=ih (pre++[sortI x]) f (by simp at e1;omega) (by simp;omega) (fun l hl=>e3 l (by simp [hl]))
  simp only [List.length_append,List.length_singleton,List.append_assoc,List.singleton_append] at this
  rw [show ((pre.length+(x::rest).length:Nat):Int)=((pre.length+1+rest.length:Nat):Int) by simp;omega]
  rw [this,List.map_cons]
theorem copMoves47_lim (d) (r) (h:G_copMoves d=some r):∃N,F_q24q N d=some r:=by
 obtain ⟨⟨l,u⟩,cops,_⟩:=d
 unfold G_copMoves at h
 split at h
 ·rename_i hc
  simp only [Bool.and_eq_true] at hc
  obtain ⟨hn,hc⟩:=hc
  have hn:netB l=true:=hn
  obtain ⟨h3,hin⟩:=nodes_parts hc
  have h:=Option.some.inj h
  subst h
  refine ⟨1000,?_⟩
  unfold F_q24q
  have h0:=cm_l0 1000 (by omega) hn u cops h3 hin cops.length 0 1000 [[]] (by omega) (by omega) (by simp) (by simp)
  simp only [Int.natCast_zero,List.drop_zero] at h0
  obtain ⟨f1,f2⟩:=chL_facts (ball:=ballM l) (cs:=cops) (now:=[[]]) (i:=0) (fun c _=>ballM_len l c) (by simp)
  have hlen:(chL (ballM l) cops [[]]).length<=512:=by
   have:8 ^ cops.length<=8 ^ 3:=Nat.pow_le_pow_right (by omega) h3
   have e:([[]]:List (List Int)).length=1:=rfl
   rw [e] at f1
   omega
  have h6:=cm_l6 1000 (chL (ballM l) cops [[]]) [] 1000 (by omega) (by simp;omega) (fun l hl=>by rw [f2 l hl];omega)
  simp only [List.nil_append,List.length_nil,Nat.zero_add,Int.natCast_zero] at h6
  have hok:okLL ((chL (ballM l) cops [[]]).map sortI)=true:=by
   unfold okLL
   rw [Bool.and_eq_true]
   refine ⟨decide_eq_true (by rw [List.length_map];unfold lim;omega),List.all_eq_true.2 fun y hy => ?_⟩
   obtain ⟨x,hx,rfl⟩:=List.mem_map.1 hy
   exact decide_eq_true (by rw [sort_len,f2 x hx];unfold lim;omega)
  have hok2:okLL (sortS ((chL (ballM l) cops [[]]).map sortI))=true:=by
   unfold okLL at hok |-
   rw [Bool.and_eq_true] at hok |-
   refine ⟨decide_eq_true (by rw [sortS_len];exact okL_lim hok.1),List.all_eq_true.2 fun y hy => ?_⟩
   exact List.all_eq_true.1 hok.2 y ((sortS_perm _).mem_iff.1 hy)
  simp only [h0,Option.bind_some,h6,G_sortF,hok,if_true,G_compactF,hok2]
  rfl
 ·cases h
end Go.V.W
namespace Go.V.W
open Go.Proofs
theorem cops_nodes {n:Int} {c:List Int} (h:copsB n c=true) (h3:c.length<=3):nodesB n c=true:=by
 unfold copsB at h
 rw [Bool.and_eq_true] at h
 unfold nodesB
 rw [Bool.and_eq_true]
 exact ⟨decide_eq_true h3,h.1⟩
end Go.V.W
namespace Go.V.W
open Go.Proofs
theorem has1 {S:List Int} {y:Int} (h:okL S=true) (u:Unit):G_l1Has (S,y,u)=some (hasL S y,()):=by
 unfold G_l1Has hasL
 simp only [h,if_true]
end Go.V.W
namespace Go.V.W
open Go.Proofs
theorem has2 {S:List Int} {y:Int} (h:okL S=true) (u:Unit):F_q6q 0 (S,y,u)=some (hasL S y,()):=by
 unfold F_q6q G_index
 have hge:=idxI_ge (fun z=>y==z) S 0
 simp only [h,if_true,Option.bind_some,ge_iff_le,hge]
 unfold hasL
 have:(fun z=>y==z)=fun z:Int=>z==y:=by
  funext z
  rw [Bool.beq_comm]
 rw [this]
theorem nodeX {m:Nat} {z:Int} (h:inB 0 ((m:Int)-1) z=true):∃x:Nat,z=(x:Int)/\x<m:=by
 have:=inB_iff.1 h
 exact ⟨z.toNat,by omega,by omega⟩
end Go.V.W
namespace Go.V.W
open Go.Proofs
theorem andN_lt {a b:Nat} (ha:a<256):andN a b<256:=Nat.lt_of_le_of_lt Nat.and_le_left ha
theorem andN_bit (a b y:Nat) (ha:a<256):(andN a b).testBit y=(a.testBit y && !b.testBit y):=by
 unfold andN
 rw [Nat.testBit_and,Nat.testBit_xor,bit_255]
 by_cases h:y<8
 ·simp [h]
 ·have:a.testBit y=false:=Nat.testBit_lt_two_pow (Nat.lt_of_lt_of_le (show a<2 ^ 8 from ha) (Nat.pow_le_pow_right (by omega) (by omega)))
  simp [this]
theorem netB_small {l:List Int} (h:netB l=true):smallN l=true:=by
 unfold netB at h
 rw [Bool.and_eq_true] at h
 exact h.1
theorem around_some {l:List Int} (h:netB l=true) (u v:Unit) {s:Nat} (hs:s<256):G_around ((l,u),(s:Int),v)=some (((arN (fromI l) s l.length 0 s:Nat):Int),()):=by
 unfold G_around
 simp only [netB_small h,nonneg_dec,Bool.and_self,Bool.true_and,Int.toNat_natCast,decide_eq_true (show (s:Int)<256 by omega),if_true]
theorem all_mask2 {l:List Int} (h8:l.length<=8) (u v:Unit):F_q62q 0 ((l,u),v)=some (((2 ^ l.length-1:Nat):Int),()):=by
 unfold F_q62q
 simp only [nonneg_dec,if_true,(all_mask h8).1]
end Go.V.W
namespace Go.V.W
open Go.Proofs
theorem setOf_some {m:Nat} (h:m<256) (u:Unit):G_setOf ((m:Int),u)=some (setF (fun y=>m.testBit y) 8 0,()):=by
 unfold G_setOf
 simp only [nonneg_dec,Bool.true_and,decide_eq_true (show (m:Int)<256 by omega),if_true,Int.toNat_natCast]
end Go.V.W
namespace Go.V.W
open Go.Proofs
theorem lt_snoc1:∀{a b:List Int} {x y:Int},a.length=b.length->cmpL a b<0->cmpL (a++[x]) (b++[y])<0:=by
 intro a
 induction a with
 | nil=>
  intro b x y h1 h2
  cases b with
  | nil=>simp [cmpL] at h2
  | cons c b=>simp at h1
 | cons c a ih=>
  intro b x y h1 h2
  cases b with
  | nil=>simp at h1
  | cons e b=>
   simp only [cmpL,List.cons_append] at h2 |-
   by_cases h3:c<e
   ·rw [if_pos h3];omega
   ·rw [if_neg h3] at h2 |-
    by_cases h4:e<c
    ·rw [if_pos h4] at h2;omega
    ·rw [if_neg h4] at h2 |-
     exact ih (by simpa using h1) h2
theorem lt_snoc2:∀{a:List Int} {x y:Int},x<y->cmpL (a++[x]) (a++[y])<0:=by
 intro a
 induction a with
 | nil=>intro x y h;simp [cmpL,h]
 | cons c a ih=>
  intro x y h
  simp only [cmpL,List.cons_append,Int.lt_irrefl,if_false]
  exact ih h
theorem upTo_mem {a n:Nat} {x:Int}:x∈upTo a n ↔ ∃y:Nat,a<=y/\y<n/\x=(y:Int):=by
 unfold upTo
 simp only [List.mem_map,List.mem_range'_1]
 constructor
 ·rintro ⟨y,hy,rfl⟩
  exact ⟨y,by omega,by omega,rfl⟩
 ·rintro ⟨y,h1,h2,rfl⟩
  exact ⟨y,by omega,rfl⟩
theorem confL_len {n:Nat}:∀{k:Nat} {l:List Int},l∈confL n k->l.length=k:=by
 intro k
 induction k with
 | zero=>intro l h;simp [confL] at h;simp [h]
 | succ k ih=>
  intro l h
  unfold confL at h
  obtain ⟨a,ha,h2⟩:=List.mem_flatMap.1 h
  obtain ⟨x,_,rfl⟩:=List.mem_map.1 h2
  simp [ih ha]
theorem confL_rise (n:Nat):∀k:Nat,(confL n k).Pairwise ltL:=by
 intro k
 induction k with
 | zero=>simp [confL]
 | succ k ih=>
  unfold confL
  rw [List.pairwise_flatMap]
  refine ⟨fun a _ => ?_,?_⟩
  ·rw [List.pairwise_map]
   unfold upTo
   rw [List.pairwise_map]
   refine List.Pairwise.imp (fun {i j} h => ?_) (List.pairwise_lt_range' (s:=(a.getLastD 0).toNat) (n:=n-(a.getLastD 0).toNat))
   exact lt_snoc2 (by omega)
  ·refine List.Pairwise.imp_of_mem (fun {a b} ha hb h x hx y hy => ?_) ih
   obtain ⟨p,_,rfl⟩:=List.mem_map.1 hx
   obtain ⟨q,_,rfl⟩:=List.mem_map.1 hy
   exact lt_snoc1 (by rw [confL_len ha,confL_len hb]) h
theorem ndB_snoc:∀{l:List Int} {x:Int},ndB (l++[x])=(ndB l&&(match l.getLast? with | none=>true | some y=>decide (y<=x))):=by
 intro l
 induction l with
 | nil=>intro x;rfl
 | cons a l ih=>
  intro x
  cases l with
  | nil=>simp [ndB]
  | cons b l=>
   have:=ih (x:=x)
   simp only [List.cons_append,ndB] at this |-
   rw [this,List.getLast?_cons_cons,Bool.and_assoc]
theorem confL_mem {n:Nat}:∀{k:Nat} {l:List Int},l∈confL n k↔l.length=k/\copsB (n:Int) l=true:=by
 intro k
 induction k with
 | zero=>
  intro l
  simp only [confL,List.mem_singleton,List.length_eq_zero_iff]
  constructor
  ·rintro rfl;exact ⟨rfl,rfl⟩
  ·intro h;exact h.1
 | succ k ih=>
  intro l
  unfold confL
  rw [List.mem_flatMap]
  constructor
  ·rintro ⟨a,ha,h2⟩
   obtain ⟨x,hx,rfl⟩:=List.mem_map.1 h2
   obtain ⟨y,h3,h4,rfl⟩:=upTo_mem.1 hx
   obtain ⟨h5,h6⟩:=ih.1 ha
   refine ⟨by simp [h5],?_⟩
   unfold copsB at h6 |-
   rw [Bool.and_eq_true] at h6
   rw [List.all_append,ndB_snoc,h6.1,h6.2]
   simp only [List.all_cons,List.all_nil,Bool.true_and,Bool.and_true,Bool.and_eq_true]
   refine ⟨inB_iff.2 (by omega),?_⟩
   cases hg:a.getLast? with
   | none=>rfl
   | some z=>
    rw [List.getLastD_eq_getLast?,hg] at h3
    simp only [Option.getD_some] at h3
    exact decide_eq_true (by omega)
  ·rintro ⟨h1,h2⟩
   have hne:l≠[]:=fun h=>by simp [h] at h1
   refine ⟨l.dropLast,ih.2 ⟨by simp [h1],?_⟩,List.mem_map.2 ⟨l.getLast hne,?_,List.dropLast_concat_getLast hne⟩⟩
   ·have e:=List.dropLast_concat_getLast hne
    rw [<- e] at h2
    unfold copsB at h2 |-
    rw [List.all_append,ndB_snoc] at h2
    simp only [Bool.and_eq_true] at h2
    rw [Bool.and_eq_true]
    exact ⟨h2.1.1,h2.2.1⟩
   ·have e:=List.dropLast_concat_getLast hne
    rw [<- e] at h2
    unfold copsB at h2
    rw [List.all_append,ndB_snoc] at h2
    simp only [Bool.and_eq_true,List.all_cons,List.all_nil,and_true] at h2
    have h3:=inB_iff.1 h2.1.2
    refine upTo_mem.2 ⟨(l.getLast hne).toNat,?_,by omega,by omega⟩
    rw [List.getLastD_eq_getLast?]
    have h4:=h2.2.2
    cases hg:l.dropLast.getLast? with
    | none=>simp
    | some z=>
     rw [hg] at h4
     have h4:=of_decide_eq_true h4
     simp only [Option.getD_some]
     omega
theorem confL_120 {n k:Nat} (hn:n<=8) (hk:k<=3):(confL n k).length<=120:=by
 have key:∀n:Fin 9,∀k:Fin 4,(confL n.1 k.1).length<=120:=by decide +kernel
 exact key ⟨n,by omega⟩ ⟨k,by omega⟩
theorem riseB_iff:∀{l:List (List Int)},riseB l=true↔l.Pairwise ltL:=by
 intro l
 induction l with
 | nil=>simp [riseB]
 | cons a l ih=>
  cases l with
  | nil=>simp [riseB]
  | cons b l=>
   unfold riseB
   rw [Bool.and_eq_true,ih,decide_eq_true_eq]
   constructor
   ·rintro ⟨h1,h2⟩
    refine List.pairwise_cons.2 ⟨fun c hc => ?_,h2⟩
    rcases List.mem_cons.1 hc with rfl | hc
    ·exact h1
    ·exact ltL_trans h1 ((List.pairwise_cons.1 h2).1 c hc)
   ·intro h
    obtain ⟨h1,h2⟩:=List.pairwise_cons.1 h
    exact ⟨h1 b (by simp),h2⟩
theorem memB_iff {cf:List (List Int)} {c:List Int}:memB cf c=true↔c∈cf:=by
 unfold memB
 rw [List.any_eq_true]
 constructor
 ·rintro ⟨x,h1,h2⟩
  rw [<- of_decide_eq_true h2]
  exact h1
 ·intro h
  exact ⟨c,h,decide_eq_true rfl⟩
theorem idxN_at {α:Type} {q:α->Bool}:∀{l:List α} {i:Nat},(∃x∈l,q x=true) -> ∃j,j<l.length/\idxN q l i=some (i+j) /\ ∃h:j<l.length,q l[j]=true:=by
 intro l
 induction l with
 | nil=>intro i ⟨x,hx,_⟩;simp at hx
 | cons a l ih=>
  intro i ⟨x,hx,hq⟩
  unfold idxN
  by_cases ha:q a=true
  ·rw [if_pos ha]
   exact ⟨0,by simp,by simp,by simp,by simpa using ha⟩
  ·rw [if_neg ha]
   have:∃x∈l,q x=true:=by
    rcases List.mem_cons.1 hx with rfl | hx
    ·exact absurd hq ha
    ·exact ⟨x,hx,hq⟩
   obtain ⟨j,h1,h2,h3,h4⟩:=ih (i:=i+1) this
   exact ⟨j+1,by simp;omega,by rw [h2];congr 1;omega,by simp;omega,by simpa using h4⟩
theorem place_at {cf:List (List Int)} {c:List Int} (h:c∈cf):∃i,i<cf.length/\placeL cf c=(i:Int)/\cf.getD i []=c:=by
 obtain ⟨j,h1,h2,h3,h4⟩:=idxN_at (q:=fun y=>decide (y=c)) (i:=0) ⟨c,h,decide_eq_true rfl⟩
 refine ⟨j,h1,?_,?_⟩
 ·unfold placeL
  rw [h2]
  simp [idxI]
 ·rw [List.getD_eq_getElem?_getD,List.getElem?_eq_getElem h3]
  simpa using h4
theorem place_rng {cf:List (List Int)} {c:List Int} (h:c∈cf):inB 0 ((cf.length:Int)-1) (placeL cf c)=true:=by
 obtain ⟨i,h1,h2,_⟩:=place_at h
 exact inB_iff.2 (by omega)
theorem ndB_of {l:List Int} (h:l.Pairwise (· <= ·)):ndB l=true:=by
 induction l with
 | nil=>rfl
 | cons a l ih=>
  rw [List.pairwise_cons] at h
  cases l with
  | nil=>rfl
  | cons b l=>
   unfold ndB
   rw [Bool.and_eq_true]
   exact ⟨decide_eq_true (h.1 b (by simp)),ih h.2⟩
theorem chL_all {p:Int->Bool} {ball:Int->List Int}:∀{cs:List Int} {now:List (List Int)},(∀c∈cs,∀x∈ball c,p x=true)->(∀l∈now,l.all p=true) -> ∀l∈chL ball cs now,l.all p=true:=by
 intro cs
 induction cs with
 | nil=>intro now _ h;exact h
 | cons c cs ih=>
  intro now hb h
  refine ih (fun c hc=>hb c (by simp [hc])) fun l hl => ?_
  obtain ⟨a,ha,h2⟩:=List.mem_flatMap.1 hl
  obtain ⟨x,hx,rfl⟩:=List.mem_map.1 h2
  rw [List.all_append,h a ha]
  simp [hb c (by simp) x hx]
theorem moves_mem {n:Nat} {ball:Int->List Int} {c:List Int} (hb:∀x∈c,(ball x).length<=8) (hb2:∀x∈c,∀y∈ball x,inB 0 ((n:Int)-1) y=true) {m:List Int} (h:m∈movesL ball c):m∈confL n c.length:=by
 have h2:=(sortS_perm _).mem_iff.1 ((comp_mem m).1 h)
 obtain ⟨x,hx,rfl⟩:=List.mem_map.1 h2
 obtain ⟨f1,f2⟩:=chL_facts (ball:=ball) (cs:=c) (now:=[[]]) (i:=0) hb (by simp)
 have f3:=chL_all (p:=inB 0 ((n:Int)-1)) (ball:=ball) (cs:=c) (now:=[[]]) hb2 (by simp) x hx
 refine confL_mem.2 ⟨by rw [sort_len,f2 x hx];simp,?_⟩
 unfold copsB
 rw [Bool.and_eq_true]
 refine ⟨List.all_eq_true.2 fun y hy=>List.all_eq_true.1 f3 y ((sortI_perm x).mem_iff.1 hy),ndB_of (sortI_sorted x)⟩
theorem moves_len {ball:Int->List Int} {cs:List Int} (h3:cs.length<=3) (hb:∀c∈cs,(ball c).length<=8):(movesL ball cs).length<=512:=by
 obtain ⟨f1,f2⟩:=chL_facts (ball:=ball) (cs:=cs) (now:=[[]]) (i:=0) hb (by simp)
 have hlen:(chL ball cs [[]]).length<=512:=by
  have:8 ^ cs.length<=8 ^ 3:=Nat.pow_le_pow_right (by omega) h3
  have e:([[]]:List (List Int)).length=1:=rfl
  rw [e] at f1
  omega
 unfold movesL compL
 rw [List.length_map]
 refine Nat.le_trans (keepI_le _ _) ?_
 rw [sortS_len,List.length_map]
 exact hlen
theorem copsB_in {n:Int} {l:List Int} (h:copsB n l=true):∀x∈l,inB 0 (n-1) x=true:=by
 unfold copsB at h
 rw [Bool.and_eq_true] at h
 exact List.all_eq_true.1 h.1
theorem board_ok {n:Nat} (hn:n<=8) {k:Nat} (hk:k<=3) {ball:Int->List Int} (hb:∀x:Nat,x<n->(ball (x:Int)).length<=8) (hb2:∀x:Nat,x<n -> ∀y∈ball (x:Int),inB 0 ((n:Int)-1) y=true):gmB n (confL n k) (movesI ball (confL n k))=true:=by
 unfold gmB
 simp only [Bool.and_eq_true,decide_eq_true_eq,List.all_eq_true]
 refine ⟨⟨⟨confL_120 hn hk,by simp [movesI]⟩,fun c hc => ?_⟩,fun l hl => ?_⟩
 ·obtain ⟨h1,h2⟩:=confL_mem.1 hc
  exact ⟨by omega,copsB_in h2⟩
 ·obtain ⟨c,hc,rfl⟩:=List.mem_map.1 hl
  obtain ⟨h1,h2⟩:=confL_mem.1 hc
  have h3:=copsB_in h2
  have g1:∀x∈c,(ball x).length<=8:=fun x hx=>by
   have:=inB_iff.1 (h3 x hx)
   have e:x=((x.toNat:Nat):Int):=by omega
   rw [e]
   exact hb _ (by omega)
  have g2:∀x∈c,∀y∈ball x,inB 0 ((n:Int)-1) y=true:=fun x hx=>by
   have:=inB_iff.1 (h3 x hx)
   have e:x=((x.toNat:Nat):Int):=by omega
   rw [e]
   exact hb2 _ (by omega)
  refine ⟨?_,fun p hp => ?_⟩
  ·rw [List.length_map]
   have:=moves_len (ball:=ball) (cs:=c) (by omega) g1
   omega
  ·obtain ⟨m,hm,rfl⟩:=List.mem_map.1 hp
   have:=moves_mem g1 g2 hm
   rw [h1] at this
   exact place_rng this
theorem okLL_conf {n k:Nat} (hn:n<=8) (hk:k<=3):okLL (confL n k)=true:=by
 have h:=confL_120 hn hk
 unfold okLL
 rw [Bool.and_eq_true]
 refine ⟨decide_eq_true (by unfold lim;omega),List.all_eq_true.2 fun l hl=>decide_eq_true ?_⟩
 rw [confL_len hl]
 unfold lim
 omega
end Go.V.W
namespace Go.V.W
open Go.Proofs
def growL (n:Nat) (l:List Int):List (List Int):=(upTo (l.getLastD 0).toNat n).map fun x=>l++[x]
theorem confL_succ (n k:Nat):confL n (k+1)=(confL n k).flatMap (growL n):=rfl
theorem upTo_cons {a n:Nat} (h:a<n):upTo a n=(a:Int)::upTo (a+1) n:=by
 unfold upTo
 rw [show n-a=(n-(a+1))+1 by omega,List.range'_succ]
 rfl
theorem upTo_nil (n:Nat):upTo n n=[]:=by simp [upTo]
theorem growL_len (n:Nat) (l:List Int):(growL n l).length<=n:=by simp [growL,upTo]
theorem conf_last {n k:Nat} {l:List Int} (h:l∈confL n k):0<=l.getLastD 0/\l.getLastD 0<=(n:Int):=by
 obtain ⟨h1,h2⟩:=confL_mem.1 h
 rw [List.getLastD_eq_getLast?]
 cases hg:l.getLast? with
 | none=>simp
 | some z=>
  have:=inB_iff.1 (copsB_in h2 z (List.mem_of_getLast? hg))
  simp only [Option.getD_some]
  omega
theorem last_at {l:List Int} (h:0<l.length):at_ I l (l.length-1)=l.getLastD 0:=by
 have e:at_ I l (l.length-1)=l[l.length-1]:=at_get (e:=I) (by omega)
 rw [e,List.getLastD_eq_getLast?,List.getLast?_eq_getElem?,List.getElem?_eq_getElem (by omega)]
 rfl
theorem cf_l4 (N n:Nat) (hn:n<=8) (k i:Int) (now:List (List Int)) (j:Nat) (hj:j<now.length) (hlen:now[j].length<=1000):∀q x f (next:List (List Int)),x+q=n->q<f->next.length+q<=1000 ->
  q45q_l4 N f ((n:Int),k,now,i,next,(j:Int),(x:Int),())=some (.inl ((n:Int),k,now,i,next++(upTo x n).map (fun x=>now[j]++[x]),(j:Int),())):=by
 intro q
 induction q with
 | zero=>
  intro x f next e1 e2 e3
  obtain ⟨f,rfl⟩:∃m,f=m+1:=⟨f-1,by omega⟩
  have e:x=n:=by omega
  subst e
  rw [upTo_nil]
  show q45q_l4_r _ _ _=_
  unfold q45q_l4_r
  simp only [lt_not,Bool.false_eq_true,if_false,List.map_nil,List.append_nil]
 | succ q ih=>
  intro x f next e1 e2 e3
  obtain ⟨f,rfl⟩:∃m,f=m+1:=⟨f-1,by omega⟩
  have hx:x<n:=by omega
  have ej:at_ K_Si now j=now[j]:=at_get (e:=K_Si) hj
  have c1:decide (now[j].length+List.length [(x:Int)]<=lim)=true:=by unfold lim;simp;omega
  have c2:decide (next.length+List.length [now[j]++[(x:Int)]]<=lim)=true:=by unfold lim;simp;omega
  show q45q_l4_r _ _ _=_
  unfold q45q_l4_r
  simp only [lt_dec hx,if_true,idxIn_nat hj,Int.toNat_natCast,ej,own_some now[j] hlen,Option.bind_some,c1,c2,wrap8 hx hn]
  rw [ih (x+1) f _ (by omega) (by omega) (by simp;omega),upTo_cons hx,List.map_cons,List.append_assoc,List.singleton_append]
theorem small_wrap {j:Nat} (h:j<=100000):IntKind.wrap .i64 ((j:Int)+1)=((j+1:Nat):Int):=by
 rw [wrap_in _ (by omega) (by omega)]
 rfl
theorem cf_l2 (N:Nat) (hN:10<=N) (n:Nat) (hn:n<=8) (k:Int) (i:Nat) (hi3:i<=3) (now:List (List Int)) (hnow:now.length<=120) (hle:∀l∈now,l.length=i/\0<=l.getLastD 0/\l.getLastD 0<=(n:Int)):∀q j f (next:List (List Int)),j+q=now.length->q<f->next.length+8*q<=990 ->
  q45q_l2 N f ((n:Int),k,now,(i:Int),next,(j:Int),())=some (.inl ((n:Int),k,(i:Int),next++(now.drop j).flatMap (growL n),())):=by
 intro q
 induction q with
 | zero=>
  intro j f next e1 e2 e3
  obtain ⟨f,rfl⟩:∃m,f=m+1:=⟨f-1,by omega⟩
  have e:j=now.length:=by omega
  subst e
  rw [List.drop_of_length_le (Nat.le_refl _)]
  show q45q_l2_r _ _ _=_
  unfold q45q_l2_r
  simp only [lt_not,Bool.false_eq_true,if_false,List.flatMap_nil,List.append_nil]
 | succ q ih=>
  intro j f next e1 e2 e3
  obtain ⟨f,rfl⟩:∃m,f=m+1:=⟨f-1,by omega⟩
  have hj:j<now.length:=by omega
  obtain ⟨h1,h2,h3⟩:=hle _ (List.getElem_mem hj)
  have ej:at_ K_Si now j=now[j]:=at_get (e:=K_Si) hj
  have hin:=cf_l4 N n hn k (i:Int) now j hj (by omega) (n-(now[j].getLastD 0).toNat) (now[j].getLastD 0).toNat N next (by omega) (by omega) (by omega)
  have e4:(((now[j].getLastD 0).toNat:Nat):Int)=now[j].getLastD 0:=by omega
  rw [e4] at hin
  have hg:(upTo (now[j].getLastD 0).toNat n).map (fun x=>now[j]++[x])=growL n now[j]:=rfl
  rw [hg] at hin
  have hgl:=growL_len n now[j]
  have fin:=ih (j+1) f (next++growL n now[j]) (by omega) (by omega) (by simp;omega)
  rw [List.append_assoc,<- List.flatMap_cons,<- List.drop_eq_getElem_cons hj] at fin
  show q45q_l2_r _ _ _=_
  unfold q45q_l2_r
  by_cases hi:0<i
  ·have hp:decide ((i:Int)>0)=true:=by simp;omega
   have hw:IntKind.wrap .i64 ((i:Int)-1)=((i-1:Nat):Int):=wrap_down hi (by unfold maxLen;omega)
   have hx:idxIn ((i-1:Nat):Int) now[j].length=true:=idxIn_nat (by omega)
   have hl:at_ I now[j] (i-1)=now[j].getLastD 0:=by
    rw [<- h1]
    exact last_at (by omega)
   simp only [lt_dec hj,if_true,hp,idxIn_nat hj,hw,Int.toNat_natCast,ej,hx,hl,hin,Option.bind_some,small_wrap (show j<=100000 by omega),fin]
  ·have hp:decide ((i:Int)>0)=false:=by simp;omega
   have hl:now[j].getLastD 0=0:=by
    have:now[j]=[]:=List.length_eq_zero_iff.1 (by omega)
    rw [this]
    rfl
   rw [hl] at hin
   simp only [lt_dec hj,if_true,hp,Bool.false_eq_true,if_false,hin,Option.bind_some,small_wrap (show j<=100000 by omega),fin]
theorem cf_l0 (N:Nat) (hN:200<=N) (n:Nat) (hn:n<=8) (k:Nat) (hk:k<=3):∀q i f,i+q=k->q<f ->
  q45q_l0 N f ((n:Int),(k:Int),confL n i,(i:Int),())=some (.inl (confL n k,())):=by
 intro q
 induction q with
 | zero=>
  intro i f e1 e2
  obtain ⟨f,rfl⟩:∃m,f=m+1:=⟨f-1,by omega⟩
  have e:i=k:=by omega
  subst e
  show q45q_l0_r _ _ _=_
  unfold q45q_l0_r
  simp only [lt_not,Bool.false_eq_true,if_false]
 | succ q ih=>
  intro i f e1 e2
  obtain ⟨f,rfl⟩:∃m,f=m+1:=⟨f-1,by omega⟩
  have hi:i<k:=by omega
  have h120:=confL_120 hn (show i<=3 by omega)
  have hin:=cf_l2 N (by omega) n hn (k:Int) i (by omega) (confL n i) h120 (fun l hl=>⟨confL_len hl,conf_last hl⟩) (confL n i).length 0 N [] (by omega) (by omega) (by simp;omega)
  simp only [Int.natCast_zero,List.drop_zero,List.nil_append] at hin
  show q45q_l0_r _ _ _=_
  unfold q45q_l0_r
  simp only [lt_dec hi,if_true,hin,Option.bind_some,small_wrap (show i<=100000 by omega),<- confL_succ]
  exact ih (i+1) f (by omega) (by omega)
theorem conf_parts {d:Int×Int×Unit} {r} (h:G_configs d=some r):∃n k:Nat,n<=8/\k<=3/\d=((n:Int),(k:Int),())/\r=(confL n k,()):=by
 obtain ⟨n,k,_⟩:=d
 unfold G_configs at h
 split at h
 ·rename_i hc
  simp only [Bool.and_eq_true] at hc
  have h1:=inB_iff.1 hc.1
  have h2:=inB_iff.1 hc.2
  have h:=Option.some.inj h
  subst h
  refine ⟨n.toNat,k.toNat,by omega,by omega,?_,rfl⟩
  rw [show ((n.toNat:Nat):Int)=n by omega,show ((k.toNat:Nat):Int)=k by omega]
 ·cases h
theorem l4Configs_lim (d) (r) (h:G_configs d=some r):∃N,F_q45q N d=some r:=by
 obtain ⟨n,k,hn,hk,rfl,rfl⟩:=conf_parts h
 refine ⟨200,?_⟩
 have:=cf_l0 200 (by omega) n hn k hk k 0 200 (by omega) (by omega)
 unfold F_q45q
 simp only [Int.natCast_zero] at this
 have e:confL n 0=[[]]:=rfl
 rw [e] at this
 simp only [this,Option.bind_some]
theorem cl_l4 (N n:Nat) (hn:n<=8) (l:List Int) (hlen:l.length<=1000) (a b:Int) (now:List (List Int)) (c e:Int):∀q x f (next:List (List Int)),x+q=n->q<f->next.length+q<=1000 ->
  q47q_l4 N f ((n:Int),next,l,(x:Int),a,b,now,c,e,())=some (.inl ((n:Int),next++(upTo x n).map (fun x=>l++[x]),a,b,now,c,e,())):=by
 intro q
 induction q with
 | zero=>
  intro x f next e1 e2 e3
  obtain ⟨f,rfl⟩:∃m,f=m+1:=⟨f-1,by omega⟩
  have e:x=n:=by omega
  subst e
  rw [upTo_nil]
  show q47q_l4_r _ _ _=_
  unfold q47q_l4_r
  simp only [lt_not,Bool.false_eq_true,if_false,List.map_nil,List.append_nil]
 | succ q ih=>
  intro x f next e1 e2 e3
  obtain ⟨f,rfl⟩:∃m,f=m+1:=⟨f-1,by omega⟩
  have hx:x<n:=by omega
  have c0:okL l=true:=okL_of (by omega)
  have c1:decide (l.length+List.length [(x:Int)]<=lim)=true:=by unfold lim;simp;omega
  have c2:decide (next.length+List.length [l++[(x:Int)]]<=lim)=true:=by unfold lim;simp;omega
  show q47q_l4_r _ _ _=_
  unfold q47q_l4_r
  simp only [lt_dec hx,if_true,G_toIntS,c0,Option.bind_some,c1,c2,wrap8 hx hn]
  rw [ih (x+1) f _ (by omega) (by omega) (by simp;omega),upTo_cons hx,List.map_cons,List.append_assoc,List.singleton_append]
theorem cl_l2 (N:Nat) (hN:10<=N) (n:Nat) (hn:n<=8) (a b:Int) (now:List (List Int)) (hnow:now.length<=120) (hle:∀l∈now,l.length<=3/\0<=l.getLastD 0/\l.getLastD 0<=(n:Int)):∀q j f (next:List (List Int)),j+q=now.length->q<f->next.length+8*q<=990 ->
  q47q_l2 N f ((n:Int),next,a,b,now,(now.length:Int),(j:Int),())=some (.inl ((n:Int),next++(now.drop j).flatMap (growL n),a,b,())):=by
 intro q
 induction q with
 | zero=>
  intro j f next e1 e2 e3
  obtain ⟨f,rfl⟩:∃m,f=m+1:=⟨f-1,by omega⟩
  have e:j=now.length:=by omega
  subst e
  rw [List.drop_of_length_le (Nat.le_refl _)]
  show q47q_l2_r _ _ _=_
  unfold q47q_l2_r
  simp only [lt_not,Bool.false_eq_true,if_false,List.flatMap_nil,List.append_nil]
 | succ q ih=>
  intro j f next e1 e2 e3
  obtain ⟨f,rfl⟩:∃m,f=m+1:=⟨f-1,by omega⟩
  have hj:j<now.length:=by omega
  obtain ⟨h1,h2,h3⟩:=hle _ (List.getElem_mem hj)
  have ej:at_ K_Si now j=now[j]:=at_get (e:=K_Si) hj
  have hin:=cl_l4 N n hn now[j] (by omega) a b now (now.length:Int) (j:Int) (n-(now[j].getLastD 0).toNat) (now[j].getLastD 0).toNat N next (by omega) (by omega) (by omega)
  have e4:(((now[j].getLastD 0).toNat:Nat):Int)=now[j].getLastD 0:=by omega
  rw [e4] at hin
  have hg:(upTo (now[j].getLastD 0).toNat n).map (fun x=>now[j]++[x])=growL n now[j]:=rfl
  rw [hg] at hin
  have hgl:=growL_len n now[j]
  have fin:=ih (j+1) f (next++growL n now[j]) (by omega) (by omega) (by simp;omega)
  rw [List.append_assoc,<- List.flatMap_cons,<- List.drop_eq_getElem_cons hj] at fin
  show q47q_l2_r _ _ _=_
  unfold q47q_l2_r
  by_cases hi:0<now[j].length
  ·have hp:decide ((now[j].length:Int)>0)=true:=by simp;omega
   have hw:IntKind.wrap .i64 ((now[j].length:Int)-1)=((now[j].length-1:Nat):Int):=wrap_down hi (by unfold maxLen;omega)
   have hx:idxIn ((now[j].length-1:Nat):Int) now[j].length=true:=idxIn_nat (by omega)
   simp only [lt_dec hj,if_true,idxIn_nat hj,Int.toNat_natCast,ej,hp,hw,hx,last_at hi,hin,Option.bind_some,small_wrap (show j<=100000 by omega),fin]
  ·have hp:decide ((now[j].length:Int)>0)=false:=decide_eq_false (by omega)
   have hl:now[j].getLastD 0=0:=by
    have:now[j]=[]:=List.length_eq_zero_iff.1 (by omega)
    rw [this]
    rfl
   rw [hl] at hin
   simp only [lt_dec hj,if_true,idxIn_nat hj,Int.toNat_natCast,ej,hp,Bool.false_eq_true,if_false,hin,Option.bind_some,small_wrap (show j<=100000 by omega),fin]
theorem cl_l0 (N:Nat) (hN:200<=N) (n:Nat) (hn:n<=8) (k:Nat) (hk:k<=3):∀q i f,i+q=k->q<f ->
  q47q_l0 N f ((n:Int),confL n i,(k:Int),(i:Int),())=some (.inl (confL n k,())):=by
 intro q
 induction q with
 | zero=>
  intro i f e1 e2
  obtain ⟨f,rfl⟩:∃m,f=m+1:=⟨f-1,by omega⟩
  have e:i=k:=by omega
  subst e
  show q47q_l0_r _ _ _=_
  unfold q47q_l0_r
  simp only [lt_not,Bool.false_eq_true,if_false]
 | succ q ih=>
  intro i f e1 e2
  obtain ⟨f,rfl⟩:∃m,f=m+1:=⟨f-1,by omega⟩
  have hi:i<k:=by omega
  have h120:=confL_120 hn (show i<=3 by omega)
  have hin:=cl_l2 N (by omega) n hn (k:Int) (i:Int) (confL n i) h120 (fun l hl=>⟨by rw [confL_len hl];omega,conf_last hl⟩) (confL n i).length 0 N [] (by omega) (by omega) (by simp;omega)
  simp only [Int.natCast_zero,List.drop_zero,List.nil_append] at hin
  show q47q_l0_r _ _ _=_
  unfold q47q_l0_r
  simp only [lt_dec hi,if_true,hin,Option.bind_some,small_wrap (show i<=100000 by omega),<- confL_succ]
  exact ih (i+1) f (by omega) (by omega)
theorem copLists_lim (d) (r) (h:G_configs d=some r):∃N,F_q47q N d=some r:=by
 obtain ⟨n,k,hn,hk,rfl,rfl⟩:=conf_parts h
 refine ⟨200,?_⟩
 have:=cl_l0 200 (by omega) n hn k hk k 0 200 (by omega) (by omega)
 unfold F_q47q
 simp only [Int.natCast_zero] at this
 have e:confL n 0=[[]]:=rfl
 rw [e] at this
 simp only [this,Option.bind_some]
theorem mid_eq {i j:Nat} (h:i+j<=100000):IntKind.wrap .i64 (shr .u64 (IntKind.wrap .u64 (IntKind.wrap .i64 ((i:Int)+(j:Int)))) (1:Int))=(((i+j) / 2:Nat):Int):=by
 have e1:IntKind.wrap .i64 ((i:Int)+(j:Int))=((i+j:Nat):Int):=by
  rw [wrap_in _ (by omega) (by omega)]
  omega
 have e2:IntKind.wrap .u64 ((i+j:Nat):Int)=((i+j:Nat):Int):=Go.IntWalk.u64_in _ (by omega)
 have e3:shr .u64 ((i+j:Nat):Int) 1=(((i+j) / 2:Nat):Int):=by
  show ((i+j:Nat):Int).fdiv 2=_
  rw [Int.fdiv_eq_ediv_of_nonneg _ (by omega)]
  omega
 rw [e1,e2,e3]
 exact wrap_in _ (by omega) (by omega)
theorem bs_l0 (N:Nat) (cf:List (List Int)) (hr:cf.Pairwise ltL) (h1000:cf.length<=1000) (hok:okLL cf=true) (c:List Int) (hc:okL c=true) (p:Nat) (hp:p<cf.length) (hpc:cf[p]=c) (n:Int) (u:Unit×Unit):∀q i j f,i+q=j->i<=p->p<=j->j<=cf.length->q<f ->
  q0q_l0 N f (cf,c,u,n,(i:Int),(j:Int),())=some (.inl (cf,c,u,n,(p:Int),())):=by
 have hrise:=List.pairwise_iff_getElem.1 hr
 intro q
 induction q using Nat.strongRecOn with
 | ind q ih=>
  intro i j f e1 e2 e3 e4 e5
  obtain ⟨f,rfl⟩:∃m,f=m+1:=⟨f-1,by omega⟩
  by_cases hij:i<j
  ·have hm:(i+j) / 2<cf.length:=by omega
   have em:at_ K_Si cf ((i+j) / 2)=cf[(i+j) / 2]:=at_get (e:=K_Si) hm
   have hokm:okL cf[(i+j) / 2]=true:=by
    unfold okLL at hok
    rw [Bool.and_eq_true] at hok
    exact List.all_eq_true.1 hok.2 _ (List.getElem_mem hm)
   have hcmp:FV_q7q (cf[(i+j) / 2],c,u,())=some (cmpL cf[(i+j) / 2] c,()):=by
    unfold FV_q7q G_compare
    simp only [hokm,hc,Bool.and_self,if_true]
   have h01:decide ((0:Int)<=1)=true:=by decide
   show q0q_l0_r _ _ _=_
   unfold q0q_l0_r
   simp only [lt_dec hij,if_true,h01,mid_eq (show i+j<=100000 by omega),idxIn_nat hm,Int.toNat_natCast,em,hcmp,Option.bind_some]
   by_cases hlt:cmpL cf[(i+j) / 2] c<0
   ·have hpm:(i+j) / 2<p:=by
     rcases Nat.lt_trichotomy ((i+j) / 2) p with h | h | h
     ·exact h
     ·subst h
      rw [hpc,cmpL_self] at hlt
      omega
     ·have:=hrise p ((i+j) / 2) hp hm h
      rw [hpc] at this
      exact absurd (ltL_trans this hlt) (ltL_irr c)
    simp only [hlt,decide_true,if_true,small_wrap (show (i+j) / 2<=100000 by omega)]
    exact ih (j-((i+j) / 2+1)) (by omega) ((i+j) / 2+1) j f (by omega) (by omega) e3 e4 (by omega)
   ·have hpm:p<=(i+j) / 2:=by
     rcases Nat.lt_or_ge ((i+j) / 2) p with h | h
     ·have:=hrise ((i+j) / 2) p hm hp h
      rw [hpc] at this
      exact absurd this hlt
     ·exact h
    simp only [hlt,decide_false,Bool.false_eq_true,if_false]
    exact ih ((i+j) / 2-i) (by omega) i ((i+j) / 2) f (by omega) e2 hpm (by omega) (by omega)
  ·have e:i=j:=by omega
   subst e
   have e:i=p:=by omega
   subst e
   show q0q_l0_r _ _ _=_
   unfold q0q_l0_r
   simp only [lt_not,Bool.false_eq_true,if_false]
theorem binSearch_lim (d) (r) (h:G_bin d=some r):∃N,F_q0q N d=some r:=by
 obtain ⟨cf,c,u,_⟩:=d
 unfold G_bin at h
 split at h
 ·rename_i hc
  simp only [Bool.and_eq_true,decide_eq_true_eq] at hc
  obtain ⟨⟨⟨⟨h1,h2⟩,h3⟩,h4⟩,h5⟩:=hc
  have h:=Option.some.inj h
  subst h
  obtain ⟨p,p1,p2,p3⟩:=place_at (memB_iff.1 h5)
  have p4:cf[p]=c:=by
   rw [List.getD_eq_getElem?_getD,List.getElem?_eq_getElem p1] at p3
   simpa using p3
  refine ⟨2000,?_⟩
  have hl:=bs_l0 2000 cf (riseB_iff.1 h4) h1 h2 c h3 p p1 p4 (cf.length:Int) ((),()) cf.length 0 cf.length 2000 (by omega) (by omega) (by omega) (by omega) (by omega)
  have ep:at_ K_Si cf p=cf[p]:=at_get (e:=K_Si) p1
  have hokm:okL cf[p]=true:=by rw [p4];exact h3
  have hcmp:FV_q7q (cf[p],c,((),()),())=some (0,()):=by
   unfold FV_q7q G_compare
   simp only [hokm,h3,Bool.and_self,if_true,p4,cmpL_self]
  unfold F_q0q
  simp only [Int.natCast_zero] at hl
  simp only [hl,Option.bind_some,lt_dec p1,if_true,idxIn_nat p1,Int.toNat_natCast,ep,hcmp,p2,beq_self_eq_true]
 ·cases h
end Go.V.W
namespace Go.V.W
open Go.Proofs
theorem at_place {cf:List (List Int)} (h:okLL cf=true) (c:List Int):G_l4At (cf,c,())=some (placeL cf c,()):=by
 unfold G_l4At
 simp only [h,if_true]
 rfl
theorem mk_l2 (N:Nat) (g:Gr) (z y:Gm) (cf:List (List Int)) (hy:y.1=cf) (hok:okLL cf=true) (i:Int) (L:List (List Int)) (hL:L.length<=512):∀q j f (acc:List Int),j+q=L.length->q<f->acc.length+q<=1000 ->
  q73q_l2 N f (g,z,y,i,L,acc,(j:Int),())=some (.inl (g,z,y,i,acc++(L.drop j).map (placeL cf),())):=by
 intro q
 induction q with
 | zero=>
  intro j f acc e1 e2 e3
  obtain ⟨f,rfl⟩:∃m,f=m+1:=⟨f-1,by omega⟩
  have e:j=L.length:=by omega
  subst e
  rw [List.drop_of_length_le (Nat.le_refl _)]
  show q73q_l2_r _ _ _=_
  unfold q73q_l2_r
  simp only [lt_not,Bool.false_eq_true,if_false,List.map_nil,List.append_nil]
 | succ q ih=>
  intro j f acc e1 e2 e3
  obtain ⟨f,rfl⟩:∃m,f=m+1:=⟨f-1,by omega⟩
  have hj:j<L.length:=by omega
  have ej:at_ K_Si L j=L[j]:=at_get (e:=K_Si) hj
  have c1:decide (acc.length+List.length [placeL cf L[j]]<=lim)=true:=by unfold lim;simp;omega
  show q73q_l2_r _ _ _=_
  unfold q73q_l2_r
  simp only [lt_dec hj,if_true,idxIn_nat hj,Int.toNat_natCast,ej,hy,at_place hok,Option.bind_some,c1,small_wrap (show j<=100000 by omega)]
  rw [ih (j+1) f _ (by omega) (by omega) (by simp;omega),List.drop_eq_getElem_cons hj,List.map_cons,List.append_assoc,List.singleton_append]
theorem conf_nodes {n k:Nat} (hk:k<=3) {c:List Int} (h:c∈confL n k):nodesB (n:Int) c=true:=by
 obtain ⟨h1,h2⟩:=confL_mem.1 h
 exact cops_nodes h2 (by omega)
theorem mk_l0 (N:Nat) (hN:1000<=N) (g:Gr) (hG:grB g=true) (z:Gm) (k:Nat) (hk:k<=3):∀q i f (acc:List (List Int)),i+q=(confL g.1.toNat k).length->q<f->acc.length+q<=1000 ->
  q73q_l0 N f (g,z,(confL g.1.toNat k,acc,[],()),(i:Int),())=some (.inl (g,z,(confL g.1.toNat k,acc++((confL g.1.toNat k).drop i).map (fun c=>(movesL (ballF g.1.toNat g.2.1) c).map (placeL (confL g.1.toNat k))),[],()),())):=by
 obtain ⟨g1,g2,g3,g4⟩:=grB_parts hG
 have h120:=confL_120 g3 hk
 have hok:=okLL_conf g3 hk
 intro q
 induction q with
 | zero=>
  intro i f acc e1 e2 e3
  obtain ⟨f,rfl⟩:∃m,f=m+1:=⟨f-1,by omega⟩
  have e:i=(confL g.1.toNat k).length:=by omega
  subst e
  rw [List.drop_of_length_le (Nat.le_refl _)]
  show q73q_l0_r _ _ _=_
  unfold q73q_l0_r
  simp only [lt_not,Bool.false_eq_true,if_false,List.map_nil,List.append_nil]
 | succ q ih=>
  intro i f acc e1 e2 e3
  obtain ⟨f,rfl⟩:∃m,f=m+1:=⟨f-1,by omega⟩
  have hi:i<(confL g.1.toNat k).length:=by omega
  have ei:at_ K_Si (confL g.1.toNat k) i=(confL g.1.toNat k)[i]:=at_get (e:=K_Si) hi
  have hnb:=conf_nodes hk (List.getElem_mem hi)
  have hnb2:nodesB g.1 (confL g.1.toNat k)[i]=true:=by
   rw [<- g2] at hnb
   exact hnb
  have hmv:G_l4Moves (g,(confL g.1.toNat k)[i],())=some (movesL (ballF g.1.toNat g.2.1) (confL g.1.toNat k)[i],()):=by
   unfold G_l4Moves
   simp only [hG,hnb2,Bool.and_self,if_true]
  obtain ⟨n1,n2⟩:=nodes_parts hnb
  have hml:=moves_len (ball:=ballF g.1.toNat g.2.1) n1 (fun c hc=>by have:=ballF_len g.1.toNat g.2.1 c;omega)
  have hin:=mk_l2 N g z (confL g.1.toNat k,acc,[],()) (confL g.1.toNat k) rfl hok (i:Int) (movesL (ballF g.1.toNat g.2.1) (confL g.1.toNat k)[i]) hml (movesL (ballF g.1.toNat g.2.1) (confL g.1.toNat k)[i]).length 0 N [] (by omega) (by omega) (by simp;omega)
  simp only [Int.natCast_zero,List.drop_zero,List.nil_append] at hin
  have c1:∀l:List Int,decide (acc.length+List.length [l]<=lim)=true:=fun l=>by unfold lim;simp;omega
  show q73q_l0_r _ _ _=_
  unfold q73q_l0_r
  simp only [lt_dec hi,if_true,idxIn_nat hi,Int.toNat_natCast,ei,hmv,Option.bind_some,hin,c1,small_wrap (show i<=100000 by omega)]
  rw [ih (i+1) f _ (by omega) (by omega) (by simp;omega),List.drop_eq_getElem_cons hi,List.map_cons,List.append_assoc,List.singleton_append]
theorem mk_l4 (N:Nat) (g:Gr) (hG:grB g=true) (z:Gm) (cf mv:List (List Int)):∀q x f (acc:List (List Int)),x+q=g.1.toNat->q<f->acc.length+q<=1000 ->
  q73q_l4 N f (g,z,(cf,mv,acc,()),(x:Int),())=some (.inl (z,(cf,mv,acc++(List.range' x q).map (fun y:Nat=>ballF g.1.toNat g.2.1 (y:Int)),()),())):=by
 obtain ⟨g1,g2,g3,g4⟩:=grB_parts hG
 intro q
 induction q with
 | zero=>
  intro x f acc e1 e2 e3
  obtain ⟨f,rfl⟩:∃m,f=m+1:=⟨f-1,by omega⟩
  have e:x=g.1.toNat:=by omega
  have hlt:decide ((x:Int)<g.1)=false:=decide_eq_false (by omega)
  show q73q_l4_r _ _ _=_
  unfold q73q_l4_r
  simp only [hlt,Bool.false_eq_true,if_false,List.range'_zero,List.map_nil,List.append_nil]
 | succ q ih=>
  intro x f acc e1 e2 e3
  obtain ⟨f,rfl⟩:∃m,f=m+1:=⟨f-1,by omega⟩
  have hlt:decide ((x:Int)<g.1)=true:=decide_eq_true (by omega)
  have c1:∀l:List Int,decide (acc.length+List.length [l]<=lim)=true:=fun l=>by unfold lim;simp;omega
  show q73q_l4_r _ _ _=_
  unfold q73q_l4_r
  simp only [hlt,if_true,ball_some hG (show x<g.1.toNat by omega),Option.bind_some,c1,small_wrap (show x<=100000 by omega)]
  rw [ih (x+1) f _ (by omega) (by omega) (by simp;omega),List.range'_succ,List.map_cons,List.append_assoc,List.singleton_append]
theorem l4Make_lim (d) (r) (h:G_l4Make d=some r):∃N,F_q73q N d=some r:=by
 obtain ⟨g,k,_⟩:=d
 unfold G_l4Make at h
 split at h
 ·rename_i hc
  simp only [Bool.and_eq_true] at hc
  obtain ⟨hG,hk⟩:=hc
  have hk2:=inB_iff.1 hk
  obtain ⟨g1,g2,g3,g4⟩:=grB_parts hG
  have h:=Option.some.inj h
  subst h
  refine ⟨1000,?_⟩
  have h120:=confL_120 g3 (show k.toNat<=3 by omega)
  have hcf:G_configs (g.1,k,())=some (confL g.1.toNat k.toNat,()):=by
   unfold G_configs
   have i1:inB 0 8 g.1=true:=inB_iff.2 (by omega)
   simp only [i1,hk,Bool.and_self,if_true]
  have h0:=mk_l0 1000 (by omega) g hG ([],[],[],()) k.toNat (by omega) (confL g.1.toNat k.toNat).length 0 1000 [] (by omega) (by omega) (by simp;omega)
  simp only [Int.natCast_zero,List.drop_zero,List.nil_append] at h0
  have h4:=mk_l4 1000 g hG ([],[],[],()) (confL g.1.toNat k.toNat) ((confL g.1.toNat k.toNat).map (fun c=>(movesL (ballF g.1.toNat g.2.1) c).map (placeL (confL g.1.toNat k.toNat)))) g.1.toNat 0 1000 [] (by omega) (by omega) (by simp;omega)
  simp only [Int.natCast_zero,List.nil_append,<- List.range_eq_range'] at h4
  unfold F_q73q
  simp only [hcf,Option.bind_some,h0,h4]
  rfl
 ·cases h
theorem place_some {cf:List (List Int)} (h1:cf.length<=120) (h2:okLL cf=true) (h3:cf.Pairwise ltL) {c:List Int} (hm:c∈cf) (net:Nt) (mv:List (List Int)) (T:Tab) (u v:Unit):F_q19q 0 ((net,cf,mv,T,u),c,v)=some (placeL cf c,()):=by
 unfold F_q19q G_bin
 have a1:decide (cf.length<=1000)=true:=decide_eq_true (by omega)
 have a2:okL c=true:=List.all_eq_true.1 (okLL_of h2).2 c hm
 simp only [a1,h2,a2,riseB_iff.2 h3,memB_iff.2 hm,Bool.and_self,if_true,Option.bind_some]
theorem cb_l2 (N:Nat) (w:Nt) (cf:List (List Int)) (h1:cf.length<=120) (h2:okLL cf=true) (h3:cf.Pairwise ltL) (net:Nt) (mv:List (List Int)) (T:Tab) (u:Unit) (a:List (List Int)) (b c:Int) (L:List (List Int)) (hL:L.length<=512) (hLm:∀m∈L,m∈cf):∀q j f (acc:List Int),j+q=L.length->q<f->acc.length+q<=1000 ->
  q23q_l2 N f (w,(net,cf,mv,T,u),acc,a,b,c,L,(L.length:Int),(j:Int),())=some (.inl (w,(net,cf,mv,T,u),acc++(L.drop j).map (placeL cf),a,b,c,())):=by
 intro q
 induction q with
 | zero=>
  intro j f acc e1 e2 e3
  obtain ⟨f,rfl⟩:∃m,f=m+1:=⟨f-1,by omega⟩
  have e:j=L.length:=by omega
  subst e
  rw [List.drop_of_length_le (Nat.le_refl _)]
  show q23q_l2_r _ _ _=_
  unfold q23q_l2_r
  simp only [lt_not,Bool.false_eq_true,if_false,List.map_nil,List.append_nil]
 | succ q ih=>
  intro j f acc e1 e2 e3
  obtain ⟨f,rfl⟩:∃m,f=m+1:=⟨f-1,by omega⟩
  have hj:j<L.length:=by omega
  have ej:at_ K_Si L j=L[j]:=at_get (e:=K_Si) hj
  have c1:decide (acc.length+List.length [placeL cf L[j]]<=lim)=true:=by unfold lim;simp;omega
  show q23q_l2_r _ _ _=_
  unfold q23q_l2_r
  simp only [lt_dec hj,if_true,idxIn_nat hj,Int.toNat_natCast,ej,place_some h1 h2 h3 (hLm _ (List.getElem_mem hj)),Option.bind_some,c1,small_wrap (show j<=100000 by omega)]
  rw [ih (j+1) f _ (by omega) (by omega) (by simp;omega),List.drop_eq_getElem_cons hj,List.map_cons,List.append_assoc,List.singleton_append]
theorem ballM_in {l:List Int} (h:netB l=true) {x:Nat} (hx:x<l.length):∀y∈ballM l (x:Int),inB 0 ((l.length:Int)-1) y=true:=fun y hy=>by
 obtain ⟨z,hz,rfl⟩:=ballM_ok h x hx y hy
 exact inB_iff.2 (by omega)
theorem ballF_in {n:Nat} (es:List E) (x:Int):∀y∈ballF n es x,inB 0 ((n:Int)-1) y=true:=fun y hy=>by
 obtain ⟨z,hz,rfl⟩:=setF_nat y hy
 exact inB_iff.2 (by omega)
theorem conf_moves {l:List Int} (h:netB l=true) {k:Nat} {c:List Int} (hc:c∈confL l.length k):∀m∈movesL (ballM l) c,m∈confL l.length k:=by
 obtain ⟨h1,h2⟩:=confL_mem.1 hc
 have h3:=copsB_in h2
 intro m hm
 have:=moves_mem (n:=l.length) (fun x _=>ballM_len l x) (fun x hx=>by
  have:=inB_iff.1 (h3 x hx)
  have e:x=((x.toNat:Nat):Int):=by omega
  rw [e]
  exact ballM_in h (by omega)) hm
 rw [h1] at this
 exact this
theorem cb_l0 (N:Nat) (hN:1000<=N) (l:List Int) (hl:netB l=true) (v:Unit) (k:Nat) (hk:k<=3) (T:Tab) (u:Unit):∀q i f (acc:List (List Int)),i+q=(confL l.length k).length->q<f->acc.length+q<=1000 ->
  q23q_l0 N f ((l,v),((l,v),confL l.length k,acc,T,u),confL l.length k,((confL l.length k).length:Int),(i:Int),())=some (.inl (((l,v),confL l.length k,acc++((confL l.length k).drop i).map (fun c=>(movesL (ballM l) c).map (placeL (confL l.length k))),T,u),())):=by
 obtain ⟨p1,p2,p3,p4⟩:=netB_parts hl
 have h120:=confL_120 p3 hk
 have hok:=okLL_conf p3 hk
 have hrise:=confL_rise l.length k
 intro q
 induction q with
 | zero=>
  intro i f acc e1 e2 e3
  obtain ⟨f,rfl⟩:∃m,f=m+1:=⟨f-1,by omega⟩
  have e:i=(confL l.length k).length:=by omega
  subst e
  rw [List.drop_of_length_le (Nat.le_refl _)]
  show q23q_l0_r _ _ _=_
  unfold q23q_l0_r
  simp only [lt_not,Bool.false_eq_true,if_false,List.map_nil,List.append_nil]
 | succ q ih=>
  intro i f acc e1 e2 e3
  obtain ⟨f,rfl⟩:∃m,f=m+1:=⟨f-1,by omega⟩
  have hi:i<(confL l.length k).length:=by omega
  have ei:at_ K_Si (confL l.length k) i=(confL l.length k)[i]:=at_get (e:=K_Si) hi
  have hnb:=conf_nodes hk (List.getElem_mem hi)
  have hmv:G_copMoves ((l,v),(confL l.length k)[i],())=some (movesL (ballM l) (confL l.length k)[i],()):=by
   unfold G_copMoves
   simp only [hl,hnb,Bool.and_self,if_true]
  obtain ⟨n1,n2⟩:=nodes_parts hnb
  have hml:=moves_len (ball:=ballM l) n1 (fun c hc=>ballM_len l c)
  have hin:=cb_l2 N (l,v) (confL l.length k) h120 hok hrise (l,v) acc T u (confL l.length k) ((confL l.length k).length:Int) (i:Int) (movesL (ballM l) (confL l.length k)[i]) hml (conf_moves hl (List.getElem_mem hi)) (movesL (ballM l) (confL l.length k)[i]).length 0 N [] (by omega) (by omega) (by simp;omega)
  simp only [Int.natCast_zero,List.drop_zero,List.nil_append] at hin
  have c1:∀x:List Int,decide (acc.length+List.length [x]<=lim)=true:=fun x=>by unfold lim;simp;omega
  show q23q_l0_r _ _ _=_
  unfold q23q_l0_r
  simp only [lt_dec hi,if_true,idxIn_nat hi,Int.toNat_natCast,ei,hmv,Option.bind_some,hin,c1,small_wrap (show i<=100000 by omega)]
  rw [ih (i+1) f _ (by omega) (by omega) (by simp;omega),List.drop_eq_getElem_cons hi,List.map_cons,List.append_assoc,List.singleton_append]
theorem copBoard_lim (d) (r) (h:G_copBoard d=some r):∃N,F_q23q N d=some r:=by
 obtain ⟨⟨l,v⟩,k,_⟩:=d
 unfold G_copBoard at h
 split at h
 ·rename_i hc
  simp only [Bool.and_eq_true] at hc
  obtain ⟨hl,hk⟩:=hc
  have hk2:=inB_iff.1 hk
  obtain ⟨p1,p2,p3,p4⟩:=netB_parts hl
  have h:=Option.some.inj h
  subst h
  refine ⟨1000,?_⟩
  have h120:=confL_120 p3 (show k.toNat<=3 by omega)
  have hcf:G_configs ((l.length:Int),k,())=some (confL l.length k.toNat,()):=by
   unfold G_configs
   have i1:inB 0 8 (l.length:Int)=true:=inB_iff.2 (by omega)
   simp only [i1,hk,Bool.and_self,if_true,Int.toNat_natCast]
  have h0:=cb_l0 1000 (by omega) l hl v k.toNat (by omega) [] () (confL l.length k.toNat).length 0 1000 [] (by omega) (by omega) (by simp;omega)
  simp only [Int.natCast_zero,List.drop_zero,List.nil_append] at h0
  unfold F_q23q g_q54q
  simp only [hcf,Option.bind_some,h0]
  rfl
 ·cases h
end Go.V.W
