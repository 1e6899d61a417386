/- What the law FnCopNumbers leans on, part 2: an interpreter of the model as plain data, its soundness, the functions as it tells them, and their laws. -/
import Derived.Laws.MakeOwn
import Derived.Great.BuildSlice
import Derived.Laws.IdiomStrings
import Derived.Laws.CopyRow
import Derived.Test.YtjniohefdfbeoaaGreatVA
set_option linter.unusedVariables false
set_option linter.unusedSimpArgs false
set_option maxRecDepth 100000
namespace Go.V
section
variable {P:Program} {Γ:Ctx} {Kp:Keep} {B0:World} {n:Nat} {G:Gh} {s:State} {a:Act} {w w':World} {id:Nat} {o:Oper} {Q:Exit->Act->World->Prop} {ws:Writes}
theorem fromOf_nil {own:Bool} {y:Got} {r:Nat} {p:Path} (h:fromOf own y=some (r,p)):p=[] /\ ∃c,y.from_=some (r,c):=by
 unfold fromOf at h
 rcases bif_some h with ⟨_,h⟩ | ⟨_,h⟩
 ·cases hf:y.from_ with
  | none=>rw [hf] at h;simp at h
  | some x=>rw [hf] at h;simp at h;exact ⟨h.2,x.2,by rw [<- h.1]⟩
 ·simp at h
theorem leave_root {own:Bool} {y:Got} {r:Nat} (h:∀c,y.from_≠some (r,c)) (s:State):(s.put (leave own y)) (rt r)=s (rt r):=by
 unfold leave
 cases hf:y.from_ with
 | none=>rfl
 | some x=>
  obtain ⟨r',c⟩:=x
  simp only [State.put]
  exact State.set_other _ _ (fun e=>h c (by rw [hf,rt_inj e]))
theorem GotOk.keep {G1:Gh} {s1:State} {x:Value} {y:Got} (h:GotOk G w s x y) (hs:∀r c,y.from_=some (r,c)->s1 (rt r)=s (rt r)) (hn:∀b,G.φ b=none->G1.φ b=none)
  (ho:∀b f r q,G.φ b=some (f,r,q)->(∃c,y.from_=some (r,c))->G1.φ b=some (f,r,q)):GotOk G1 w s1 x y:=by
 obtain ⟨cs,h1,h⟩:=h
 refine ⟨cs,h1,?_⟩
 rcases h with h | ⟨hf,hd,hr⟩ | ⟨r,k,d,dep,m,box,frz,ver,p,hf,hm,hs',hr,hd⟩
 ·exact .inl h
 ·exact .inr (.inl ⟨hf,hd,hr.frame fun q b _ hb _=>⟨rfl,hn b hb⟩⟩)
 ·refine .inr (.inr ⟨r,k,d,dep,m,box,frz,ver,p,hf,hm,(hs r _ hf).trans hs',hr.frame fun q b _ hb _=>⟨rfl,?_⟩,hd⟩)
  rcases ownS_lev hb with ⟨hl,hb⟩ | ⟨hl,hb⟩
  ·simp only [ownS,hl,if_true];exact ho b _ _ _ hb ⟨_,hf⟩
  ·simp only [ownS,Nat.not_lt.2 hl,if_false];exact hn b hb
theorem GotC.keep {G1:Gh} {s1:State} {x:Value} {y:Got} (h:GotC G w s x y) (hs:∀r c,y.from_=some (r,c)->s1 (rt r)=s (rt r)) (hn:∀b,G.φ b=none->G1.φ b=none)
  (ho:∀b f r q,G.φ b=some (f,r,q)->(∃c,y.from_=some (r,c))->G1.φ b=some (f,r,q)):GotC G1 w s1 x y:=by
 rcases h with h | ⟨h1,h2,d,h3,h4⟩
 ·exact .inl (h.keep hs hn ho)
 ·exact .inr ⟨h1,h2,d,h3,h4.keep hs hn ho⟩
theorem Holds.keep {G1:Gh} {s1:State} {v:V} {cs:List Value} {dp:Nat} {ro:Option (Nat×Path)} (h:Holds G w s v cs dp ro) (hs:∀r p,ro=some (r,p)->s1 (rt r)=s (rt r)) (hn:∀b,G.φ b=none->G1.φ b=none)
  (ho:∀b f r q,G.φ b=some (f,r,q)->(∃p,ro=some (r,p))->G1.φ b=some (f,r,q)):Holds G1 w s1 v cs dp ro:=by
 cases h with
 | free _ h=>exact .free _ h
 | shared h=>exact .shared (h.frame fun q b _ hb _=>⟨rfl,hn b hb⟩)
 | dead r p _ hr h=>
  refine .dead r p _ ((hs r p rfl).trans hr) (h.frame fun q b _ hb _=>⟨rfl,?_⟩)
  rcases ownS_lev hb with ⟨hl,hb⟩ | ⟨hl,hb⟩
  ·simp only [ownS,hl,if_true];exact ho b _ _ _ hb ⟨_,rfl⟩
  ·simp only [ownS,Nat.not_lt.2 hl,if_false];exact hn b hb
theorem Holds.cells {v:V} {cs:List Value} {dp:Nat} {ro:Option (Nat×Path)} (h:Holds G w s v cs dp ro):(mkVal v.k cs).cells=cs.toArray:=by
 have:(mkVal v.k cs).cells.toList=cs:=by
  cases h with
  | free _ h=>exact mkVal_cells h
  | shared h=>exact mkVal_cells h
  | dead _ _ _ _ h=>exact mkVal_cells h
 apply Array.ext'
 simpa using this
inductive Gots (G:Gh) (w:World) (s:State) (a:Act):List (Nat×Operand)->List (Nat×Got)->Prop
 | nil:Gots G w s a [] []
 | cons {i:Nat} {x:Operand} {y:Got} {ps:List (Nat×Operand)} {gs:List (Nat×Got)}:GotC G w s (a.eval x) y->Gots G w s a ps gs->Gots G w s a ((i,x)::ps) ((i,y)::gs)
inductive Helds (G:Gh) (w:World) (s:State) (a:Act) (own:Bool):List (Nat×Operand)->List (Nat×Got)->Prop
 | nil:Helds G w s a own [] []
 | cons {i:Nat} {x:Operand} {y:Got} {ps:List (Nat×Operand)} {gs:List (Nat×Got)} (cs:List Value):a.eval x=mkVal y.v.k cs->Holds G w s y.v cs (bif own then y.dp else 0) (fromOf own y)->Helds G w s a own ps gs->Helds G w s a own ((i,x)::ps) ((i,y)::gs)
theorem gotAll_ok (g:GOk Kp G s a w) {ty:Nat->Option Kd}:∀{ps:List (Nat×Operand)} {gs:List (Nat×Got)},(gotAll Γ ty ps).out s=some gs->Gots G w s a ps gs:=by
 intro ps
 induction ps with
 | nil=>intro gs h;simp only [gotAll,Rd.out,Option.some.injEq] at h;subst h;exact .nil
 | cons x ps ih=>
  intro gs h
  obtain ⟨i,x⟩:=x
  simp only [gotAll,Rd.out_bind,Option.bind_eq_some_iff,Rd.out,Option.some.injEq] at h
  obtain ⟨c,h1,y0,h2,y,h2',gs',h3,h4⟩:=h
  subst h4
  exact .cons (regotO_ok (got_ok g (rdK_ok g h1) h2) h2').1 (ih h3)
theorem fromIs_spec {y:Got} {r:Nat} (h:fromIs y r=false):∀c,y.from_≠some (r,c):=by
 intro c e
 unfold fromIs at h
 rw [e] at h
 simp at h
theorem leaveAll_ok (own:Bool):∀{ps:List (Nat×Operand)} {gs:List (Nat×Got)} {G:Gh} {s:State},GOk Kp G s a w->Gots G w s a ps gs->distinctFrom gs=true ->
  ∃G',GOk Kp G' (s.put (gs.flatMap fun g=>leave own g.2)) a w/\Helds G' w (s.put (gs.flatMap fun g=>leave own g.2)) a own ps gs/\G'.C=G.C/\G'.β=G.β /\
   (∀b,G.φ b=none->G'.φ b=none)/\(∀b f r q,G.φ b=some (f,r,q)->(∀g∈gs,∀c,g.2.from_≠some (r,c))->G'.φ b=some (f,r,q)) /\
   (∀r,(∀g∈gs,∀c,g.2.from_≠some (r,c))->(s.put (gs.flatMap fun g=>leave own g.2)) (rt r)=s (rt r)):=by
 intro ps
 induction ps with
 | nil=>
  intro gs G s g h _
  cases h
  exact ⟨G,g,.nil,rfl,rfl,fun _ h=>h,fun _ _ _ _ h _=>h,fun _ _=>rfl⟩
 | cons x ps ih=>
  intro gs G s g h hd
  cases h with
  | @cons i x y _ gs h1 h2=>
   simp only [distinctFrom,Bool.and_eq_true] at hd
   obtain ⟨hd1,hd2⟩:=hd
   have hdis:∀z∈gs,∀r c c',y.from_=some (r,c)->z.2.from_≠some (r,c'):=by
    intro z hz r c c' hy
    rw [hy] at hd1
    simp only [Bool.not_eq_true',List.any_eq_false] at hd1
    exact fromIs_spec (by simpa using hd1 z hz) c'
   obtain ⟨G1,cs,g1,e1,hh1,eC,eβ,n1,o1,_⟩:=leave_okC g h1 own
   have hgots:Gots G1 w (s.put (leave own y)) a ps gs:=by
    have:∀{ps':List (Nat×Operand)} {gs':List (Nat×Got)},Gots G w s a ps' gs'->(∀z∈gs',∀r c c',y.from_=some (r,c)->z.2.from_≠some (r,c'))->Gots G1 w (s.put (leave own y)) a ps' gs':=by
     intro ps' gs' h
     induction h with
     | nil=>intro _;exact .nil
     | cons k1 k2 ih2=>
      intro hdis
      refine .cons (k1.keep (fun r c hr=>leave_root (fun c' e=>hdis _ (List.mem_cons_self ..) r c' c e hr) s) n1 (fun b f r q hb hr => ?_)) (ih2 fun z hz=>hdis z (List.mem_cons_of_mem _ hz))
      obtain ⟨c,hr⟩:=hr
      exact o1 b f r q hb fun c' e=>hdis _ (List.mem_cons_self ..) r c' c e hr
    exact this h2 hdis
   obtain ⟨G2,g2,hh2,eC2,eβ2,n2,o2,r2⟩:=ih g1 hgots hd2
   have eput:s.put (((i,y)::gs).flatMap fun g=>leave own g.2)=(s.put (leave own y)).put (gs.flatMap fun g=>leave own g.2):=by
    simp only [List.flatMap_cons]
    exact State.put_append _ _ _
   rw [eput]
   refine ⟨G2,g2,.cons cs e1 (hh1.keep (fun r p hr => ?_) n2 (fun b f r q hb hr => ?_)) hh2,eC2.trans eC,eβ2.trans eβ,fun b h=>n2 b (n1 b h),fun b f r q hb hr => ?_,fun r hr => ?_⟩
   ·obtain ⟨_,c,hc⟩:=fromOf_nil hr
    exact r2 r fun z hz c'=>hdis z hz r c c' hc
   ·obtain ⟨p,hp⟩:=hr
    obtain ⟨_,c,hc⟩:=fromOf_nil hp
    exact o2 b f r q hb fun z hz c'=>hdis z hz r c c' hc
   ·exact o2 b f r q (o1 b f r q hb (hr _ (List.mem_cons_self ..))) fun z hz=>hr z (List.mem_cons_of_mem _ hz)
   ·rw [r2 r fun z hz=>hr z (List.mem_cons_of_mem _ hz)]
    exact leave_root (hr _ (List.mem_cons_self ..)) s
theorem dstOk_right {o:Oper} {x y:Writes} (h:dstOk o (x++y)=true):dstOk o y=true:=by
 unfold dstOk at h |-
 simp only [Bool.or_eq_true,List.all_append,Bool.and_eq_true] at h |-
 rcases h with h | ⟨_,h⟩
 ·exact .inl h
 ·exact .inr h
theorem move_dm_ok (S:Set_ P Γ Kp B0 n G s a w o) {x:Operand} (ho:o.op=.move x\/o.op=.assign x) (hnp:isNilP x=false) (hdm:Γ.dm (o.dst.getD 4095)=true) (h:(opD Γ id o).out s=some ws) (hok:dstOk o ws=true) :
  o.wp P a w (fun a' w'=>Inv P Kp B0 n (s.put ws) a' w') Q:=by
 have h':((rdOp Γ o.type x).bind fun c=>(got Γ x c).bind fun g=>.ret (leave false g++[(sl (o.dst.getD 4095),.val g.v.k g.v.d)])).out s=some ws:=by
  rcases ho with ho | ho<;>(unfold opD at h;rw [ho] at h;simp only [hnp,hdm,cond_true,cond_false] at h;exact h)
 simp only [Rd.out_bind,Option.bind_eq_some_iff,Rd.out,Option.some.injEq] at h'
 obtain ⟨c,h1,y,h2,h3⟩:=h'
 subst h3
 have hrun:(execOp a.eval o).run P w=.ok (.value (a.eval x)) w:=by
  unfold execOp
  rcases ho with ho | ho<;>rw [ho]<;>rfl
 obtain ⟨G1,cs,g1,e1,hh,_⟩:=leave_ok S.g (got_ok S.g (rdOp_ok S.g h1) h2) false
 have e0:fromOf false y=none:=rfl
 rw [e0] at hh
 have S1:Set_ P Γ Kp B0 n G1 (s.put (leave false y)) a w o:=⟨S.tab,S.w1,S.eqt,⟨S.inv.defers,S.inv.size,S.inv.base,G1,g1⟩,g1,S.dst⟩
 rw [State.put_append]
 refine slot_ok S1 (dstOk_right hok) hrun ⟨cs,e1,?_⟩
 cases hh with
 | free _ h=>exact h.move fun _ _ hb _=>hb.elim
 | shared h=>exact h
theorem loadSh_ok {d:Nat} {t:TypeId} {v:V} {z:Bool} (h:(loadSh Γ d t v z).out s=some ws):(v.k.allsh=true\/z=true)/\Γ.tk t=some v.k.bare/\ws=[(sl d,.val v.k.bare (v.k.bareD v.d))]:=by
 unfold loadSh at h
 rw [bif_out] at h
 rcases bif_some h with ⟨h1,h2⟩ | ⟨_,h2⟩
 ·simp only [Bool.and_eq_true,Bool.or_eq_true,decide_eq_true_eq] at h1
  simp only [Rd.out,Option.some.injEq] at h2
  exact ⟨h1.1,h1.2,h2.symm⟩
 ·simp [Rd.out] at h2
theorem load_ok (S:Set_ P Γ Kp B0 n G s a w o) {t:TypeId} {x:Operand} (ho:o.op=.load t x) (h:(opD Γ id o).out s=some ws) (hok:dstOk o ws=true) :
  o.wp P a w (fun a' w'=>Inv P Kp B0 n (s.put ws) a' w') Q:=by
 unfold opD at h
 rw [ho] at h
 simp only [Rd.out_bind,Option.bind_eq_some_iff] at h
 obtain ⟨c,h1,h⟩:=h
 have hc:=rdB_ok S.g h1
 have hrun:∀(k:Kd) (B O:Nat),Γ.tk t=some k->a.eval x=.pointer (some ⟨B,O,none⟩)->BlockOk w B (O+k.size)->(execOp a.eval o).run P w=.ok (.value (mkVal k (cellsAt w B O k.size))) w:=by
  intro k B O ht hx hb
  unfold execOp
  rw [ho]
  simp [Instr.loadAt,hx,Instr.sureAddr,run_loadVar S.tab ht hb]
 cases c with
 | ptr r p ver=>
  simp only [Rd.out] at h
  cases hs:s (rt r) with
  | root k0 d0 dep box frz ver'=>
   rw [hs] at h
   simp only [bif_out,Rd.out] at h
   rcases bif_some h with ⟨hv,h⟩ | ⟨_,h⟩
   ·simp only [Rd.out_bind,Rd.out_opt,Option.bind_eq_some_iff,bif_out,Rd.out] at h
    obtain ⟨v,h2,h4⟩:=h
    obtain ⟨y,B,O,e1,e2,e3,e4,e5,e6,e7,hro⟩:=ptr_open S.g hc hs hv
    rw [h2] at e1
    injection e1 with e1
    subst e1
    rcases bif_some h4 with ⟨ht,h4⟩ | ⟨_,h4⟩
    rotate_left
    ·obtain ⟨h5,h6,h7⟩:=loadSh_ok h4
     subst h7
     refine slot_ok S hok (hrun _ B O h6 e4 (by rw [Kd.bare_size];exact e6)) ?_
     rw [Kd.bare_size,mkVal_bare]
     refine ⟨_,(mkVal_bare _ _).symm,e7.bare [] (fun p b hs _=>shAt_own.1 hs) (h5.imp _root_.id fun h5 p' b hs _ => ?_)⟩
     rcases ownS_lev hs with ⟨hl,_⟩ | ⟨_,hs⟩
     ·have:=Nat.le_of_ble_eq_true h5;rw [lev_append] at hl;omega
     ·exact hs
    have ht:=of_decide_eq_true ht
    rcases bif_some h4 with ⟨_,h4⟩ | ⟨_,h4⟩
    ·rcases bif_some h4 with ⟨hc2,h4⟩ | ⟨_,h4⟩
     ·simp only [Bool.and_eq_true,Bool.not_eq_true',decide_eq_true_eq] at hc2
      obtain ⟨hfz,hlv⟩:=hc2
      obtain ⟨hid,rfl⟩:=newAt_ok h4
      obtain ⟨d,hd⟩:=dst_some (c:=.al id [] 0) hok (by simp)
      have g1:=kill_ok S.g ⟨k0,d0,dep,box,frz,ver',hs⟩
      have hne:r≠id:=fun e=>by subst e;rw [hid] at hs;cases hs
      have hid1:(s.set (rt r) .dead) (rt id)=.none:=by rw [State.set_other _ _ (fun e=>hne (rt_inj e).symm)];exact hid
      have hh:Holds G w (s.set (rt r) .dead) v (cellsAt w B O v.k.size) (dep-lev p) (some (r,p)):=.dead r p _ (State.set_same _ _ _) (by rw [show lev p+(dep-lev p)=dep by omega];exact e7)
      have hrep:=holds_move (w':=w) (id:=id) (pre:=[]) (nb:=none) (dep:=dep-lev p) (M:=fun _ q=>some (q.drop p.length)) hh (fun _ _=>rfl) (by simp [lev]) (fun r' p' hr q=>by
       simp only [Option.some.injEq,Prod.mk.injEq] at hr
       obtain ⟨rfl,rfl⟩:=hr
       simp)
      have:=value_root (Q:=Q) (k:=v.k) (x:=v.d) S g1 hd hid1 (cellsAt w B O v.k.size) (fun _ q=>some (q.drop p.length)) hrep (hrun _ B O ht e4 e6)
      rw [hd]
      exact this
     ·simp [Rd.out] at h4
    rcases bif_some h4 with ⟨h5,h6⟩ | ⟨_,h6⟩
    ·simp only [Option.some.injEq] at h6
     subst h6
     refine slot_ok S hok (hrun _ B O ht e4 e6) ?_
     simp only [Bool.or_eq_true] at h5
     rcases h5 with h5 | h5
     ·exact flatCell h5 ⟨_,_,_,rfl,e7⟩
     ·have h5:=Nat.le_of_ble_eq_true h5
      exact ⟨_,rfl,e7.move fun q b hs _=>by
       rcases ownS_lev hs with ⟨hl,_⟩ | ⟨_,hs⟩
       ·rw [lev_append] at hl;omega
       ·exact hs⟩
    ·rcases bif_some h6 with ⟨_,h6⟩ | ⟨_,h6⟩
     ·simp only [Option.some.injEq] at h6
      subst h6
      have hm:(bif Γ.thin (o.dst.getD 4095) then min dep (lev p) else 0)<=dep/\(bif Γ.thin (o.dst.getD 4095) then min dep (lev p) else 0)<=lev p:=by cases Γ.thin (o.dst.getD 4095)<;>simp<;>omega
      generalize (bif Γ.thin (o.dst.getD 4095) then min dep (lev p) else 0)=m at hm hok |-
      have hg:GotOk G w s (mkVal v.k (cellsAt w B O v.k.size)) ⟨v,0,some (r,.root k0 d0 m box frz ver')⟩:=⟨_,rfl,.inr (.inr ⟨r,k0,d0,dep,m,box,frz,ver',p,rfl,hm,hs,e7,.inl rfl⟩)⟩
      obtain ⟨G1,cs,g1,x1,hh,_⟩:=leave_ok S.g hg false
      have e0:fromOf false (⟨v,0,some (r,.root k0 d0 m box frz ver')⟩:Got)=none:=rfl
      rw [e0] at hh
      have S1:Set_ P Γ Kp B0 n G1 (s.put (leave false ⟨v,0,some (r,.root k0 d0 m box frz ver')⟩)) a w o:=⟨S.tab,S.w1,S.eqt,⟨S.inv.defers,S.inv.size,S.inv.base,G1,g1⟩,g1,S.dst⟩
      rw [State.put_append]
      refine slot_ok S1 (dstOk_right hok) (hrun _ B O ht e4 e6) ⟨cs,x1,?_⟩
      cases hh with
      | free _ h=>exact h.move fun _ _ hb _=>hb.elim
      | shared h=>exact h
     simp only [Option.some.injEq] at h6
     subst h6
     refine slot_ok S hok (hrun _ B O ht e4 e6) ?_
     simp only [CellOk]
     rw [hs]
     exact ⟨Nat.le_refl _,fun _=>⟨v,h2,e2,by rw [e5]⟩⟩
   ·simp at h
  | _=>rw [hs] at h;simp [Rd.out] at h
 | sptr k d=>
  simp only [bif_out] at h
  rcases bif_some h with ⟨h2,h⟩ | ⟨_,h⟩
  ·simp only [Rd.out,Option.some.injEq] at h
   subst h
   simp only [Bool.and_eq_true] at h2
   obtain ⟨B,O,e1,e2,e3,e4⟩:=hc
   refine slot_ok S hok (v:=mkVal k (cellsAt w B O k.size)) ?_ ⟨_,rfl,e4⟩
   unfold execOp
   rw [ho]
   simp [Instr.loadAt,e1,Instr.sureAddr,run_loadOne (S.w1 t h2.1) h2.2 e3]
  obtain ⟨B,O,e1,e2,e3,e4⟩:=hc
  rcases bif_some h with ⟨h2,h⟩ | ⟨_,h⟩
  ·simp only [Rd.out,Option.some.injEq] at h
   subst h
   exact slot_ok S hok (hrun _ B O (of_decide_eq_true h2) e1 e3) ⟨_,rfl,e4⟩
  ·obtain ⟨h5,h6,h7⟩:=loadSh_ok h
   subst h7
   refine slot_ok S hok (hrun _ B O h6 e1 (by rw [Kd.bare_size];exact e3)) ?_
   rw [Kd.bare_size,mkVal_bare]
   exact ⟨_,(mkVal_bare _ _).symm,e4.bare [] (fun p b hs _=>shAt_sh.1 hs) (.inr fun p b hs _=>hs)⟩
 | _=>simp [Rd.out] at h
theorem zcells_arr {t:TypeId} {k:Kd} {i:TypeInfo} {z:Value} (h:Row P t k i z):z.cells=(zeroC k).toArray:=by
 rw [<- h.zcells]
theorem alloc_ok (S:Set_ P Γ Kp B0 n G s a w o) {t:TypeId} (ho:o.op=.alloc t) (h:(opD Γ id o).out s=some ws) (hok:dstOk o ws=true) :
  o.wp P a w (fun a' w'=>Inv P Kp B0 n (s.put ws) a' w') Q:=by
 unfold opD at h
 rw [ho] at h
 simp only [Rd.out_bind,Option.bind_eq_some_iff] at h
 obtain ⟨k,h1,h2⟩:=h
 obtain ⟨hid,rfl⟩:=newAt_ok h2
 obtain ⟨i,z,hr⟩:=row_of S.tab (kindOf_ok h1)
 obtain ⟨d,hd⟩:=dst_some (c:=.ptr id [] 0) hok (by simp)
 rw [hd]
 refine box_root S S.g hd hid t (zeroC k) (ro:=none) (.free _ (zeroC_rep k [] (tab_pure S.tab (kindOf_ok h1)))) (fun _ _ h=>by cases h) ?_
 unfold execOp
 rw [ho]
 simp [Instr.alloc,run_zero hr,newVar,newRow,zcells_arr hr]
theorem leave_id (hid:s (rt id)=.none) {x:Value} {y:Got} (hg:GotOk G w s x y) (own:Bool):(s.put (leave own y)) (rt id)=.none:=by
 by_cases hf:∀c,y.from_≠some (id,c)
 ·rw [leave_root hf];exact hid
 ·have:∃c,y.from_=some (id,c):=by
   by_cases h:∃c,y.from_=some (id,c)
   ·exact h
   ·exact absurd (fun c e=>h ⟨c,e⟩) hf
  obtain ⟨c,hc⟩:=this
  obtain ⟨_,_,hq⟩:=hg
  rcases hq with ⟨hf,_⟩ | ⟨hf,_⟩ | ⟨r,_,_,_,_,_,_,_,_,hf,_,hs,_⟩
  ·rw [hc] at hf;cases hf
  ·rw [hc] at hf;cases hf
  ·rw [hc] at hf
   injection hf with hf
   injection hf with hf _
   subst hf
   rw [hid] at hs
   cases hs
theorem box_ok (S:Set_ P Γ Kp B0 n G s a w o) {t:TypeId} {x:Operand} (ho:o.op=.box t x) (h:(opD Γ id o).out s=some ws) (hok:dstOk o ws=true) :
  o.wp P a w (fun a' w'=>Inv P Kp B0 n (s.put ws) a' w') Q:=by
 unfold opD at h
 rw [ho] at h
 simp only [bif_out] at h
 rcases bif_some h with ⟨_,h⟩ | ⟨_,h⟩
 ·simp only [Rd.out_bind,Option.bind_eq_some_iff] at h
  obtain ⟨c,h2,y,h3,h5⟩:=h
  obtain ⟨hid,rfl⟩:=newAt_ok h5
  have hg:=got_ok S.g (rdOp_ok S.g h2) h3
  obtain ⟨d,hd⟩:=dst_some (c:=.sptr y.v.k y.v.d) hok (by simp)
  obtain ⟨G1,cs,g1,e1,hh,eC,eβ,n1,o1,m1⟩:=leave_ok S.g hg false
  simp only [cond_false] at hh
  have hid':(s.put (leave false y)) (rt id)=.none:=by
   by_cases hf:∀c,y.from_≠some (id,c)
   ·rw [leave_root hf];exact hid
   ·have:∃c,y.from_=some (id,c):=by
     by_cases h:∃c,y.from_=some (id,c)
     ·exact h
     ·exact absurd (fun c e=>h ⟨c,e⟩) hf
    obtain ⟨c,hc⟩:=this
    obtain ⟨_,_,hq⟩:=hg
    rcases hq with ⟨hf,_⟩ | ⟨hf,_⟩ | ⟨r,_,_,_,_,_,_,_,_,hf,_,hs,_⟩
    ·rw [hc] at hf;cases hf
    ·rw [hc] at hf;cases hf
    ·rw [hc] at hf
     injection hf with hf
     injection hf with hf _
     subst hf
     rw [hid] at hs
     cases hs
  have e2:(a.eval x).cells=cs.toArray:=by
   rw [e1]
   exact hh.cells
  have hrun:(execOp a.eval o).run P w=.ok (.value (.pointer (some ⟨w.heap.size,0,none⟩))) (w.alloc (.cells cs.toArray t)):=by
   unfold execOp
   rw [ho]
   simp [Instr.box,newVar,newRow,e2]
  have hw:∀b,b<w.heap.size->(w.alloc (.cells cs.toArray t)).heap[b]? = w.heap[b]?:=alloc_old w _
  have hdn:=S.dst d hd
  have hrep:Rep w (shS G1.φ) y.v.k [] cs y.v.d:=by
   have e0:fromOf false y=none:=rfl
   rw [e0] at hh
   cases hh with
   | free _ h=>exact h.move fun _ _ hb _=>hb.elim
   | shared h=>exact h
  have hlen:=hrep.length
  rw [hd,State.put_append]
  refine wp_new hd hrun ?_
  obtain ⟨G',g',_⟩:=mk_root g1 (w':=w.alloc (.cells cs.toArray t)) (fun x=>some x) none [] hw (fun f r q h=>rfl) rfl (by simp)
   (fun x hx=>by cases hx) hid' (cell:=.dead) (d:=d) (v:=.pointer (some ⟨w.heap.size,0,none⟩)) (sc:=.sptr y.v.k y.v.d) (by rw [S.inv.size];exact hdn) trivial (.inl rfl)
   ⟨w.heap.size,0,rfl,by simp [reφ],⟨cs.toArray,t,_,alloc_new _ _,by simp;omega⟩,by
    have hc:cellsAt (w.alloc (.cells cs.toArray t)) w.heap.size 0 y.v.k.size=cs:=by
     unfold cellsAt
     rw [alloc_new]
     simp only [List.drop_zero]
     exact List.take_of_length_le (by omega)
    rw [hc]
    exact hrep.frame fun q b _ hb hlt=>⟨hw b hlt,by simp only [shS] at hb;simp [shS,reφ,hlt,hb]⟩⟩
  exact ⟨by simp [Act.put,S.inv.defers],by simp [Act.put,S.inv.size],S.inv.base.alloc _,G',g'⟩
 simp only [Rd.out_bind,Option.bind_eq_some_iff,Rd.out_opt] at h
 obtain ⟨k,h1,c,h2,y,h3,v,h4,h5⟩:=h
 simp only [bif_out] at h5
 rcases bif_some h5 with ⟨_,h5⟩ | ⟨_,h5⟩
 ·obtain ⟨hid,hws⟩:=newAt_ok h5
  subst hws
  have hg:=got_ok S.g (rdOp_ok S.g h2) h3
  obtain ⟨d,hd⟩:=dst_some (c:=.ptr id [] 0) hok (by simp)
  have h6:=cast?_eq h4
  obtain ⟨G1,cs,g1,e1,hh,eC,eβ,n1,o1,m1⟩:=leave_ok S.g hg false
  have hid':=leave_id hid hg false
  have e2:(a.eval x).cells=cs.toArray:=by
   rw [e1]
   exact hh.cells
  have hrun:(execOp a.eval o).run P w=.ok (.value (.pointer (some ⟨w.heap.size,0,none⟩))) (w.alloc (.cells cs.toArray t)):=by
   unfold execOp
   rw [ho]
   simp [Instr.box,newVar,newRow,e2]
  rw [hd,State.put_append]
  rw [h6] at hh
  simp only [cond_false] at hh
  exact box_root S g1 hd hid' t cs hh (fun r p hr=>(fromOf_nil hr).1) hrun
 have hn:s (rt id)=.none/\(ws=leave true y++[(rt id,.root k v y.dp true false 0),(sl (o.dst.getD 4095),.ptr id [] 0)] \/
   ∃t',ws=leave true y++[(rt id,.root k v y.dp true true 0),(sl (o.dst.getD 4095),.ptr id [] 0)]++[(sl t',.fal id)]/\x=.tmp t'/\t'≠o.dst.getD 4095):=by
  split at h5
  ·obtain ⟨h6,h7⟩:=newAt_ok h5
   exact ⟨h6,.inl h7⟩
  ·rename_i t' ht
   obtain ⟨h6,h7⟩:=newAt_ok h5
   refine ⟨h6,.inr ⟨t',h7,?_⟩⟩
   unfold lentOf at ht
   split at ht
   ·rename_i t0
    rcases bif_some ht with ⟨h8,h9⟩ | ⟨_,h9⟩
    ·have h9:=Option.some.inj h9
     subst h9
     simp only [Bool.and_eq_true,Bool.not_eq_true'] at h8
     exact ⟨rfl,fun e=>by have:=h8.2;rw [<- e,Nat.beq_refl] at this;cases this⟩
    ·cases h9
   ·cases ht
 obtain ⟨hid,hws⟩:=hn
 have hg:=got_ok S.g (rdOp_ok S.g h2) h3
 obtain ⟨d,hd⟩:=dst_some (c:=.ptr id [] 0) hok (by rcases hws with rfl | ⟨t',rfl,_⟩<;>simp)
 have h6:=cast?_eq h4
 obtain ⟨G1,cs,g1,e1,hh,eC,eβ,n1,o1,m1⟩:=leave_ok S.g hg true
 have hid':(s.put (leave true y)) (rt id)=.none:=by
  by_cases hf:∀c,y.from_≠some (id,c)
  ·rw [leave_root hf];exact hid
  ·have:∃c,y.from_=some (id,c):=by
    by_cases h:∃c,y.from_=some (id,c)
    ·exact h
    ·exact absurd (fun c e=>h ⟨c,e⟩) hf
   obtain ⟨c,hc⟩:=this
   obtain ⟨_,_,hq⟩:=hg
   rcases hq with ⟨hf,_⟩ | ⟨hf,_⟩ | ⟨r,_,_,_,_,_,_,_,_,hf,_,hs,_⟩
   ·rw [hc] at hf;cases hf
   ·rw [hc] at hf;cases hf
   ·rw [hc] at hf
    injection hf with hf
    injection hf with hf _
    subst hf
    rw [hid] at hs
    cases hs
 have e2:(a.eval x).cells=cs.toArray:=by
  rw [e1]
  exact hh.cells
 have hrun:(execOp a.eval o).run P w=.ok (.value (.pointer (some ⟨w.heap.size,0,none⟩))) (w.alloc (.cells cs.toArray t)):=by
  unfold execOp
  rw [ho]
  simp [Instr.box,newVar,newRow,e2]
 rcases hws with rfl | ⟨t',rfl,rfl,hne⟩
 ·rw [hd,State.put_append]
  rw [h6] at hh
  exact box_root S g1 hd hid' t cs hh (fun r p hr=>(fromOf_nil hr).1) hrun
 ·rw [hd,State.put_append,State.put_append]
  rw [hd] at hne
  have e3:a.eval (.tmp t')=mkVal k cs:=by rw [e1,h6]
  rw [h6] at hh
  simp only [cond_true] at hh
  refine Oper.wp_mono (fun a' w' hh' => ?_) (box_root' true S g1 hd hid' t cs hh (fun r p hr=>(fromOf_nil hr).1) hrun)
  obtain ⟨u,rfl,hb,G',g',hC⟩:=hh'
  refine ⟨by simp [Act.put,S.inv.defers],by simp [Act.put,S.inv.size],hb,G',?_⟩
  refine g'.recell ?_
  have e4:((s.put (leave true y)).put [(rt id,Cell.root k v y.dp true true 0),(sl d,.ptr id [] 0)]) (rt id)=.root k v y.dp true true 0:=by
   simp only [State.put];rw [State.set_other _ _ (sl_rt d id).symm,State.set_same]
  simp only [CellOk]
  rw [e4]
  refine ⟨rfl,rfl,?_⟩
  rw [hC,<- e3,getD_put,if_neg (fun h=>hne (by have:=h.1;simp only [Option.some.injEq,Option.getD_some] at this |-;exact this.symm))]
  simp [Act.eval,Array.getD_eq_getD_getElem?]
theorem madeCells_at (z:List Value) (m i:Nat) (hi:i<m) (hz:0<z.length):(((madeCells z.toArray (m*z.length)).toList.drop (i*z.length)).take z.length)=z:=by
 have hle:(i+1)*z.length<=m*z.length:=Nat.mul_le_mul_right _ hi
 rw [Nat.add_mul,Nat.one_mul] at hle
 apply List.ext_getElem?
 intro j
 simp only [List.getElem?_take,List.getElem?_drop]
 by_cases hj:j<z.length
 ·simp only [hj,if_true]
  unfold madeCells
  simp only [Array.getElem?_toList,Array.getElem?_map,Array.getElem?_range]
  rw [if_pos (by omega)]
  have:(i*z.length+j) % z.toArray.size=j:=by
   simp only [List.size_toArray]
   rw [Nat.mul_comm,Nat.mul_add_mod,Nat.mod_eq_of_lt hj]
  simp only [Option.map_some,this]
  rw [List.getElem?_eq_getElem hj]
  simp [getElem!_pos,hj]
 ·simp only [hj,if_false]
  rw [List.getElem?_eq_none (by omega)]
theorem makeSlice_ok (S:Set_ P Γ Kp B0 n G s a w o) {t:TypeId} {x y:Operand} (ho:o.op=.makeSlice t x y) (h:(opD Γ id o).out s=some ws) (hok:dstOk o ws=true) :
  o.wp P a w (fun a' w'=>Inv P Kp B0 n (s.put ws) a' w') Q:=by
 unfold opD at h
 rw [ho] at h
 simp only [Rd.out_bind,Option.bind_eq_some_iff] at h
 obtain ⟨k,h1,h⟩:=h
 cases k with
 | slice e=>
  simp only [Rd.out_bind,Option.bind_eq_some_iff] at h
  obtain ⟨v1,h2,x1,h3,v2,h4,x2,h5,h6⟩:=h
  have:=asInt_ok h3
  subst this
  have:=asInt_ok h5
  subst this
  have e1:=(rdV_ok S.g h2).int
  have e2:=(rdV_ok S.g h4).int
  simp only [Rd.out] at h6
  split at h6
  ·rename_i hc
   simp only [Bool.and_eq_true,decide_eq_true_eq] at hc
   obtain ⟨⟨c1,c2⟩,c3⟩:=hc
   obtain ⟨hid,rfl⟩:=newAt_ok h6
   obtain ⟨d,hd⟩:=dst_some (c:=.al id [] 0) hok (by simp)
   obtain ⟨te,u1,u2,u3⟩:=under_slice S.tab (kindOf_ok h1)
   obtain ⟨i,z,hr⟩:=row_of S.tab u2
   rw [hd]
   have hb:(i.bytes:Int)*x2.2<=281474976710656:=by
    have hb:=hr.bytes
    have:(i.bytes:Int)*x2.2<=128*x2.2:=Int.mul_le_mul_of_nonneg_right (by omega) (by omega)
    unfold lim at c3
    omega
   have hrun:=run_make w t te i z u1 hr.info hr.zero x1.1 x2.1 x1.2 x2.2 c1 c2 hb (by unfold lim at c3;omega)
   have hz:z.cells=(zeroC e).toArray:=zcells_arr hr
   rw [hz,hr.size] at hrun
   have hzl:=zeroC_length e
   refine slice_root S S.g S.inv.base hd hid te (madeCells (zeroC e).toArray (x2.2.toNat*e.size)) x2.2.toNat (fun _ _=>none) (by omega) (by simp;omega) (by simp [madeCells]) (fun j hj => ?_) ?_
   ·simp only [List.length_replicate] at hj
    have hm:=madeCells_at (zeroC e) x2.2.toNat j (by omega) (by omega)
    rw [hzl] at hm
    refine ⟨99,none,?_,by omega,fun _ _ h=>by cases h⟩
    rw [hm]
    refine .free 99 ?_
    simp only [List.get_eq_getElem,List.getElem_replicate]
    exact zeroC_rep e [] (tab_pure S.tab u2)
   ·unfold execOp
    rw [ho]
    simp [e1,e2,hrun]
  ·simp [Rd.out] at h6
 | _=>simp [Rd.out] at h
theorem convert_ok (S:Set_ P Γ Kp B0 n G s a w o) {t t':TypeId} {x:Operand} (ho:o.op=.convert t t' x) (h:(opD Γ id o).out s=some ws) (hok:dstOk o ws=true) :
  o.wp P a w (fun a' w'=>Inv P Kp B0 n (s.put ws) a' w') Q:=by
 unfold opD at h
 rw [ho] at h
 simp only [Rd.out_bind,Option.bind_eq_some_iff] at h
 obtain ⟨p,h1,u,h2,k,h3,h4⟩:=h
 have hp:=rdVt_ok S.g h1
 have hs:=kindIs_ok h2
 have hk:=kindOf_ok h3
 split at h4
 ·simp only [Rd.out,Option.some.injEq] at h4
  subst h4
  refine slot_ok S hok (v:=_) ?_ (intCell _ _)
  unfold execOp
  rw [ho]
  simp [hp.int,convert,run_underlying (under_int S.tab hs),run_underlying (under_int S.tab hk),Conv.intToInt]
 ·simp only [Rd.out,Option.some.injEq] at h4
  subst h4
  refine slot_ok S hok (v:=_) ?_ (strCell _)
  unfold execOp
  rw [ho]
  simp [hp.str,convert,run_underlying (under_str S.tab hs),run_underlying (under_str S.tab hk)]
 ·simp only [Rd.out,Option.some.injEq] at h4
  subst h4
  refine slot_ok S hok (v:=_) ?_ (strCell _)
  unfold execOp
  rw [ho]
  obtain ⟨e,hu,he,_⟩:=under_slice S.tab hs
  have hr:=bytes_run S.tab he hu (under_str S.tab hk) hp
  simp [hr]
 ·rename_i st
  obtain ⟨hid,rfl⟩:=newAt_ok h4
  obtain ⟨d,hd⟩:=dst_some (c:=.al id [] 0) hok (by simp)
  obtain ⟨e,hu,he,_⟩:=under_slice S.tab hk
  have hrun:=run_bytes_of_string (P:=P) w t t' e st (under_str S.tab hs) hu (under_int S.tab he)
  generalize hcap:grownCap w st.size 0 e=cap at hrun
  have hcap':st.size<=cap:=by rw [<- hcap];exact grownCap_ge _ _ _ _
  have hsz:(bytesRow st cap).size=cap:=by unfold bytesRow;simp;omega
  have hlen:(byteList st).length=st.size:=by unfold byteList;simp
  rw [hd]
  refine slice_rootF (e:=.int .u8) (l:=byteList st) (dep:=99) S S.g.drew S.inv.base.drew hd hid e (bytesRow st cap) ((bytesRow st cap).size,(bytesRow st cap).size+1) (.inr (Nat.le_refl _)) cap (fun _ _=>none) (by omega) (by rw [hlen];exact hcap') (by rw [hsz];simp [Kd.size]) (fun j hj => ?_) ?_
  ·refine ⟨99,none,?_,by omega,fun _ _ h=>by cases h⟩
   refine .free _ ?_
   show ((bytesRow st cap).toList.drop (j*1)).take 1=[.int .u8 ((byteList st).get ⟨j,hj⟩)]
   have hj2:j<st.size:=by rw [<- hlen];exact hj
   have hjr:j<(bytesRow st cap).toList.length:=by rw [Array.length_toList,hsz];omega
   have hjd:j<st.data.size:=hj2
   rw [Nat.mul_one,List.drop_eq_getElem_cons hjr,List.take_succ_cons,List.take_zero]
   congr 1
   simp only [List.get_eq_getElem]
   unfold bytesRow byteList
   simp [Array.getElem_append,hjd]
   rw [List.getElem_append_left (by simpa using hjd)]
   simp
  ·unfold execOp
   rw [ho,hlen]
   simp [hp.str,hrun]
 ·simp [Rd.out] at h4
end
end Go.V
namespace Go.V
def over (cs:List Value) (off:Nat) (x:List Value):List Value:=cs.take off++x++cs.drop (off+x.length)
theorem over_length {cs x:List Value} {off:Nat} (h:off+x.length<=cs.length):(over cs off x).length=cs.length:=by
 simp [over]
 omega
theorem fold_over (off:Nat):∀(x:List Value) (start:Nat) (cells:Array Value),off+start+x.length<=cells.size ->
  (x.zipIdx start).foldl (fun (cs:Array Value) (p:Value×Nat)=>cs.setIfInBounds (off+p.2) p.1) cells=(over cells.toList (off+start) x).toArray:=by
 intro x
 induction x with
 | nil=>intro start cells _;simp [over]
 | cons v x ih=>
  intro start cells h
  simp only [List.length_cons] at h
  simp only [List.zipIdx_cons,List.foldl_cons]
  rw [ih (start+1) _ (by simp;omega)]
  apply Array.ext'
  simp only [over,Array.toList_setIfInBounds,List.length_cons]
  apply List.ext_getElem?
  intro j
  have hl:cells.toList.length=cells.size:=by simp
  simp only [List.getElem?_append,List.getElem?_take,List.getElem?_drop,List.getElem?_set,List.length_take,List.length_append,List.length_set,List.length_cons]
  by_cases h1:j<off+start
  ·simp only [show j<min (off+(start+1)) cells.toList.length by omega,show j<min (off+start) cells.toList.length by omega,show ¬(off+start=j) by omega,if_true,if_false,show j<off+(start+1) by omega,h1,
    show j<min (off+(start+1)) cells.toList.length+x.length by omega,show j<min (off+start) cells.toList.length+(x.length+1) by omega]
  ·by_cases h2:j=off+start
   ·subst h2
    simp only [show off+start<min (off+(start+1)) cells.toList.length by omega,show ¬(off+start<min (off+start) cells.toList.length) by omega,if_true,if_false,show off+start<off+(start+1) by omega,show off+start<cells.toList.length by omega,
     show off+start<min (off+(start+1)) cells.toList.length+x.length by omega,show off+start<min (off+start) cells.toList.length+(x.length+1) by omega,show off+start-min (off+start) cells.toList.length=0 by omega,List.getElem?_cons_zero]
   ·have e1:¬(j<min (off+(start+1)) cells.toList.length):=by omega
    have e2:¬(j<min (off+start) cells.toList.length):=by omega
    have e3:j-min (off+start) cells.toList.length=(j-min (off+(start+1)) cells.toList.length)+1:=by omega
    by_cases h3:j<min (off+(start+1)) cells.toList.length+x.length
    ·simp only [e1,e2,if_false,h3,if_true,show j<min (off+start) cells.toList.length+(x.length+1) by omega]
     rw [e3,List.getElem?_cons_succ]
    ·simp only [h3,if_false,show ¬(j<min (off+start) cells.toList.length+(x.length+1)) by omega]
     have e4:¬(off+start=off+(start+1)+x.length+(j-(min (off+(start+1)) cells.toList.length+x.length))):=by omega
     simp only [e4,if_false]
     congr 1
     omega
theorem fill_step {place:Nat->Option (Nat×Nat)} {cells:Array Value} {i off:Nat} {v:Value} {x:List Value} {rest:List (Nat×Value)} (hp:place i=some (off,x.length)) (hv:v.cells=x.toArray) (hl:off+x.length<=cells.size) :
  Instr.fill place cells ((i,v)::rest)=Instr.fill place (over cells.toList off x).toArray rest:=by
 simp only [Instr.fill,hp,hv,List.size_toArray]
 rw [if_neg (by simp;omega)]
 congr 1
 have:=fold_over off x 0 cells (by omega)
 simp only [Nat.add_zero] at this
 rw [<- this,<- Array.foldl_toList]
 simp
theorem setP_fld:∀{j:Nat} {k:Kd} {d d':k.den} {y:V},setP (fld j) k d y=some d' -> ∃z,getP (fld j) k d=some z/\z.k=y.k/\offF j k+y.k.size<=k.size:=by
 intro j
 induction j with
 | zero=>
  intro k d d' y h
  cases k with
  | pair a b=>
   simp only [fld,setP,Option.map_eq_some_iff] at h
   obtain ⟨z,h1,_⟩:=h
   have:=cast?_k h1
   exact ⟨⟨a,d.1⟩,rfl,this.symm,by simp [offF,Kd.size,this]⟩
  | _=>simp [fld,setP] at h
 | succ j ih=>
  intro k d d' y h
  cases k with
  | pair a b=>
   simp only [fld,setP,Option.map_eq_some_iff] at h
   obtain ⟨z,h1,_⟩:=h
   obtain ⟨u,h2,h3,h4⟩:=ih h1
   exact ⟨u,h2,h3,by simp only [offF,Kd.size];omega⟩
  | _=>simp [fld,setP] at h
theorem rep_setfld {w:World} {S:OwnS}:∀{j:Nat} {k:Kd} {q:Path} {cells x:List Value} {d d':k.den} {y:V},Rep w S k q cells d->Rep w S y.k (q++fld j) x y.d->setP (fld j) k d y=some d'->Rep w S k q (over cells (offF j k) x) d':=by
 intro j
 induction j with
 | zero=>
  intro k q cells x d d' y h hy hs
  cases k with
  | pair a b=>
   simp only [fld,setP,Option.map_eq_some_iff] at hs
   obtain ⟨z,h1,rfl⟩:=hs
   have:=cast?_eq h1
   subst this
   have hl:=hy.length
   simp only at hl
   simp only [Rep] at h |-
   simp only [over,offF,List.take_zero,List.nil_append,Nat.zero_add]
   rw [List.take_append_of_le_length (by omega),List.take_of_length_le (by omega),List.drop_append_of_le_length (by omega),List.drop_of_length_le (by omega),List.nil_append,hl]
   exact ⟨hy,h.2⟩
  | _=>simp [fld,setP] at hs
 | succ j ih=>
  intro k q cells x d d' y h hy hs
  cases k with
  | pair a b=>
   have hlen:=h.length
   simp only [fld,setP,Option.map_eq_some_iff] at hs
   obtain ⟨z,h1,rfl⟩:=hs
   simp only [Rep] at h |-
   have key:=ih h.2 (by simpa [fld] using hy) h1
   obtain ⟨_,_,_,hle⟩:=setP_fld h1
   have hx:=hy.length
   simp only [Kd.size] at hlen
   have e1:(over cells (a.size+offF j b) x).take a.size=cells.take a.size:=by
    simp only [over,List.append_assoc]
    rw [List.take_append_of_le_length (by simp;omega),List.take_take]
    congr 1
    omega
   have e2:(over cells (a.size+offF j b) x).drop a.size=over (cells.drop a.size) (offF j b) x:=by
    simp only [over,List.append_assoc]
    rw [List.drop_append_of_le_length (by simp;omega),List.drop_take,List.drop_drop]
    congr 2
    ·congr 1;omega
    ·congr 1;omega
   simp only [offF]
   rw [e1,e2]
   exact ⟨h.1,key⟩
  | _=>simp [fld,setP] at hs
section
variable {P:Program} {Γ:Ctx} {Kp:Keep} {B0:World} {n:Nat} {G:Gh} {s:State} {a:Act} {w w':World} {id:Nat} {o:Oper} {Q:Exit->Act->World->Prop} {ws:Writes}
theorem fill_ok {S:OwnS} {own:Bool} {k:Kd} {place:Nat->Option (Nat×Nat)} (hpl:∀j d y,getP (fld j) k d=some y->place j=some (offF j k,y.k.size)) :
  ∀{ps:List (Nat×Operand)} {gs:List (Nat×Got)} {cells:Array Value} {d v:k.den},Helds G w s a own ps gs ->
   (∀i y cs,(i,y)∈gs->Holds G w s y.v cs (bif own then y.dp else 0) (fromOf own y)->Rep w' S y.v.k (fld i) cs y.v.d) ->
   Rep w' S k [] cells.toList d->placeF k d (gs.map fun g=>(g.1,g.2.v))=some v ->
   ∃cells':Array Value,Instr.fill place cells (ps.map fun x=>(x.1,a.eval x.2))=some cells'/\Rep w' S k [] cells'.toList v:=by
 intro ps
 induction ps with
 | nil=>
  intro gs cells d v h _ hr hp
  cases h
  simp only [List.map_nil,placeF,Option.some.injEq] at hp
  subst hp
  exact ⟨cells,rfl,hr⟩
 | cons x ps ih=>
  intro gs cells d v h hc hr hp
  cases h with
  | @cons i x y _ gs cs h1 h2 h3=>
   simp only [List.map_cons,placeF] at hp
   split at hp
   ·rename_i d' hd
    have hy:=hc i y cs (List.mem_cons_self ..) h2
    obtain ⟨z,k1,k2,k3⟩:=setP_fld hd
    have hlen:=hr.length
    have hcs:=h2.length
    simp only [Array.length_toList] at hlen
    have hr':=rep_setfld hr (by simpa using hy) hd
    obtain ⟨cells',e1,e2⟩:=ih (cells:=(over cells.toList (offF i k) cs).toArray) h3 (fun i' y' cs' hm=>hc i' y' cs' (List.mem_cons_of_mem _ hm)) (by simpa using hr') hp
    refine ⟨cells',?_,e2⟩
    simp only [List.map_cons]
    rw [fill_step (x:=cs) (by rw [hpl i d z k1,hcs,k2]) (by rw [h1];exact h2.cells) (by omega)]
    exact e1
   ·simp at hp
theorem places_ok (hT:TabOk P Γ.tk Γ.ar):∀{fs:List Field} {off:Nat} {k:Kd},fieldsOk P Γ.tk fs off k=true -> ∃places,fs.mapM (fun f=>(P.info? f.type).map fun i=>(f.offset,i.size))=some places /\
  ∀j d y,getP (fld j) k d=some y->places[j]? = some (off+offF j k,y.k.size):=by
 intro fs
 induction fs with
 | nil=>
  intro off k h
  cases k<;>simp [fieldsOk] at h
  exact ⟨[],rfl,fun j d y hg=>by cases j<;>simp [fld,getP] at hg⟩
 | cons f fs ih=>
  intro off k h
  cases k with
  | pair a b=>
   simp only [fieldsOk,Bool.and_eq_true,decide_eq_true_eq] at h
   obtain ⟨⟨⟨h1,h2⟩,h3⟩,h4⟩:=h
   obtain ⟨places,e1,e2⟩:=ih h4
   simp only [Bool.or_eq_true,decide_eq_true_eq] at h2
   obtain ⟨ka,hka,hsz⟩:∃ka,Γ.tk f.type=some ka/\ka.size=a.size:=h2.elim (fun h=>⟨_,h,rfl⟩) fun h=>⟨_,h,Kd.bare_size _⟩
   obtain ⟨i,z,hr⟩:=row_of hT hka
   refine ⟨(f.offset,i.size)::places,?_,fun j d y hg => ?_⟩
   ·rw [List.mapM_cons,hr.info]
    simp only [Option.map_some]
    rw [e1]
    rfl
   ·cases j with
    | zero=>
     simp only [fld,getP,Option.some.injEq] at hg
     subst hg
     simp [offF,Nat.eq_of_beq_eq_true h1,hr.size,hsz]
    | succ j=>
     simp only [fld,getP] at hg
     rw [List.getElem?_cons_succ,e2 j d.2 y hg]
     simp only [offF]
     congr 2
     omega
  | _=>simp [fieldsOk] at h
def partM (gs:List (Nat×Got)) (st:Nat->Path):Nat->Path->Option Path:=fun r q=>(gs.find? fun g=>fromIs g.2 r).map fun g=>st g.1++q
theorem partM_ok:∀{gs:List (Nat×Got)} {st:Nat->Path} {i:Nat} {y:Got} {r:Nat} {c:Cell} {q:Path},distinctFrom gs=true->(i,y)∈gs->y.from_=some (r,c)->partM gs st r q=some (st i++q):=by
 intro gs
 induction gs with
 | nil=>intro st i y r c q _ h _;simp at h
 | cons x gs ih=>
  intro st i y r c q hd hm hy
  obtain ⟨j,z⟩:=x
  simp only [distinctFrom,Bool.and_eq_true] at hd
  unfold partM
  simp only [List.find?_cons]
  rcases List.mem_cons.1 hm with hm | hm
  ·injection hm with h1 h2
   subst h1 h2
   have:fromIs y r=true:=by simp [fromIs,hy]
   simp [this]
  ·have:fromIs z r=false:=by
    cases hz:fromIs z r with
    | false=>rfl
    | true=>
     unfold fromIs at hz
     cases hzf:z.from_ with
     | none=>rw [hzf] at hz;simp at hz
     | some u=>
      rw [hzf] at hz
      obtain ⟨r',c'⟩:=u
      have:=Nat.eq_of_beq_eq_true hz
      subst this
      rw [hzf] at hd
      simp only [Bool.not_eq_true',List.any_eq_false] at hd
      have:=hd.1 _ hm
      simp [fromIs,hy] at this
   simp only [this]
   exact ih hd.2 hm hy
theorem gots_id {ps:List (Nat×Operand)} {gs:List (Nat×Got)} (h:Gots G w s a ps gs) (hid:s (rt id)=.none):∀g∈gs,∀c,g.2.from_≠some (id,c):=by
 induction h with
 | nil=>intro g hg;simp at hg
 | cons k1 k2 ih=>
  intro g hg c hc
  rcases List.mem_cons.1 hg with hg | hg
  ·subst hg
   simp only at hc
   obtain ⟨y0,hc,_,_,_,hq⟩:∃y0:Got,y0.from_=some (id,c) /\ ∃x,GotOk G w s x y0:=k1.elim (fun h=>⟨_,hc,_,h⟩) fun ⟨_,_,d,_,h⟩=>⟨⟨_,0,_⟩,hc,_,h⟩
   rcases hq with ⟨hf,_⟩ | ⟨hf,_⟩ | ⟨r,_,_,_,_,_,_,_,_,hf,_,hs,_⟩
   ·rw [hc] at hf;cases hf
   ·rw [hc] at hf;cases hf
   ·rw [hc] at hf
    injection hf with hf
    injection hf with hf _
    subst hf
    rw [hid] at hs
    cases hs
  ·exact ih g hg c hc
theorem minDp_le:∀{gs:List (Nat×Got)} {i:Nat} {y:Got},(i,y)∈gs->minDp gs<=y.dp:=by
 intro gs
 induction gs with
 | nil=>intro i y h;simp at h
 | cons x gs ih=>
  intro i y h
  obtain ⟨j,z⟩:=x
  simp only [minDp]
  rcases List.mem_cons.1 h with h | h
  ·injection h with h1 h2;subst h1 h2;omega
  ·have:=ih h;omega
theorem minDpA_le:∀{gs:List (Nat×Got)} {i:Nat} {y:Got},(i,y)∈gs->y.v.k.allsh=true\/minDpA gs<=y.dp:=by
 intro gs
 induction gs with
 | nil=>intro i y h;simp at h
 | cons x gs ih=>
  intro i y h
  obtain ⟨j,z⟩:=x
  simp only [minDpA]
  rcases List.mem_cons.1 h with h | h
  ·injection h with h1 h2
   subst h1 h2
   cases hz:y.v.k.allsh with
   | true=>exact .inl rfl
   | false=>exact .inr (by simp only [cond_false];omega)
  ·refine (ih h).imp _root_.id fun h => ?_
   cases z.v.k.allsh with
   | true=>exact h
   | false=>simp only [cond_false];omega
theorem lev_fld:∀j,lev (fld j)=0:=by
 intro j
 induction j with
 | zero=>rfl
 | succ j ih=>exact ih
theorem build_run (hT:TabOk P Γ.tk Γ.ar) {t:TypeId} {k:Kd} (hk:Γ.tk t=some k) (hp:isPair k=true):∃place,(∀j d y,getP (fld j) k d=some y->place j=some (offF j k,y.k.size)) /\
  ∀(w:World) (parts:Array (Nat×Value)) (cells:Array Value),Instr.fill place (zeroC k).toArray parts.toList=some cells->(Instr.build t parts).run P w=.ok (.agg cells) w:=by
 obtain ⟨i,z,hr⟩:=row_of hT hk
 have hz:=zcells_arr hr
 have ha:k.agg=true:=by cases k<;>first | rfl | simp [isPair] at hp
 rcases under_agg hT hk ha with ⟨fs,u1,u2,u3⟩ | ⟨m,e,u1,u2,u3⟩
 ·obtain ⟨places,e1,e2⟩:=places_ok hT u3
  refine ⟨(places.toArray[·]?),fun j d y hg=>by simpa using e2 j d y hg,fun w parts cells h=>run_build w t parts cells ?_⟩
  unfold Program.built
  simp only [hr.info,u1,hr.zero,e1,hz]
  exact h
 ·cases k with
  | pair ka kb=>
   cases m with
   | zero=>simp [arrOk] at u3
   | succ m=>
    have hka:Γ.tk e=some ka:=by simp only [arrOk,Bool.and_eq_true,decide_eq_true_eq] at u3;exact u3.1
    obtain ⟨ie,ze,hre⟩:=row_of hT hka
    refine ⟨fun i=>some (i*ie.size,ie.size),fun j d y hg => ?_,fun w parts cells h=>run_build w t parts cells ?_⟩
    ·obtain ⟨f1,f2⟩:=arr_at u3 hg
     have:ka=y.k:=Option.some.inj (hka.symm.trans f1)
     rw [f2,hre.size,this]
    ·unfold Program.built
     simp only [hr.info,u1,hr.zero,hre.info,hz]
     exact h
  | _=>simp [isPair] at hp
theorem build_ok (S:Set_ P Γ Kp B0 n G s a w o) {t:TypeId} {ps:Array (Nat×Operand)} (ho:o.op=.build t ps) (h:(opD Γ id o).out s=some ws) (hok:dstOk o ws=true) :
  o.wp P a w (fun a' w'=>Inv P Kp B0 n (s.put ws) a' w') Q:=by
 unfold opD at h
 rw [ho] at h
 simp only [Rd.out_bind,Option.bind_eq_some_iff,bif_out,Rd.out_opt] at h
 obtain ⟨k,h1,h⟩:=h
 rcases bif_some h with ⟨hp,h⟩ | ⟨_,h⟩
 ·simp only [Rd.out_bind,Option.bind_eq_some_iff,bif_out,Rd.out_opt] at h
  obtain ⟨gs,h2,v,h3,h4⟩:=h
  rcases bif_some h4 with ⟨hd,h5⟩ | ⟨_,h5⟩
  ·obtain ⟨hid,rfl⟩:=newAt_ok h5
   have hg:=gotAll_ok S.g h2
   have hk:=kindOf_ok h1
   obtain ⟨place,hpl,hrun⟩:=build_run S.tab hk hp
   have ha:k.agg=true:=by cases k<;>first | rfl | simp [isPair] at hp
   obtain ⟨G1,g1,hh,eC,eβ,n1,o1,r1⟩:=leaveAll_ok (!Nat.beq (minDpA gs) 0) S.g hg hd
   have hid1:=(r1 id (gots_id hg hid)).trans hid
   have hexec:∀cells,Instr.fill place (zeroC k).toArray (ps.toList.map fun x=>(x.1,a.eval x.2))=some cells->(execOp a.eval o).run P w=.ok (.value (mkVal k cells.toList)) w:=by
    intro cells hf
    unfold execOp
    rw [ho]
    have:(ps.map fun (i,x)=>(i,a.eval x)).toList=ps.toList.map fun x=>(x.1,a.eval x.2):=by simp
    simp [hrun w _ cells (by rw [this];exact hf),mkVal,ha]
   cases hz:Nat.beq (minDpA gs) 0 with
   | true=>
    rw [hz] at hh g1 hid1
    simp only [Bool.not_true] at hh g1 hid1
    obtain ⟨cells,e1,e2⟩:=fill_ok (S:=shS G1.φ) (w':=w) hpl hh (fun i y cs hm hx=>by
     simp only [cond_false] at hx
     cases hx with
     | free _ hx=>exact (hx.move fun p b hs _=>hs.elim)
     | shared hx=>exact hx.move fun p b hs _=>hs) (by simpa using zeroC_rep k [] (tab_pure S.tab hk)) h3
    have em:made id (o.dst.getD 4095) ⟨k,v⟩ (minDpA gs)=[(sl (o.dst.getD 4095),.val k v)]:=by simp [made,hz]
    simp only [hz,Bool.not_true]
    rw [hz,em] at hok
    rw [em,State.put_append]
    obtain ⟨d,hd'⟩:=dst_some (c:=.val k v) hok (by simp)
    rw [hd']
    refine wp_new hd' (hexec cells e1) ?_
    simp only [Option.getD_some]
    exact ⟨by simp [Act.put,S.inv.defers],by simp [Act.put,S.inv.size],S.inv.base,G1,g1.slot (by rw [S.inv.size];exact S.dst d hd') ⟨_,rfl,e2⟩⟩
   | false=>
    rw [hz] at hh g1 hid1
    simp only [Bool.not_false] at hh g1 hid1
    obtain ⟨cells,e1,e2⟩:=fill_ok (S:=ownS (reφ G1.φ (moveT (s.put (gs.flatMap fun g=>leave true g.2)) id (minDpA gs) (partM gs fld)) w.heap.size none) id (minDpA gs)) (w':=w) hpl hh (fun i y cs hm hx=>by
     simp only [cond_true] at hx
     rcases minDpA_le hm with hsh | hle
     ·exact holds_moveA hx hsh fun _ _=>rfl
     refine holds_move hx (fun _ _=>rfl) (by rw [lev_fld];omega) (fun r p hr q => ?_)
     obtain ⟨rfl,c,hc⟩:=fromOf_nil hr
     simpa using partM_ok (st:=fld) (q:=q) hd hm hc) (by simpa using zeroC_rep k [] (tab_pure S.tab hk)) h3
    simp only [hz,Bool.not_false]
    cases hf:k.flat with
    | true=>
     have em:made id (o.dst.getD 4095) ⟨k,v⟩ (minDpA gs)=[(sl (o.dst.getD 4095),.val k v)]:=by simp [made,hf]
     rw [hz,em] at hok
     rw [em,State.put_append]
     obtain ⟨d,hd'⟩:=dst_some (c:=.val k v) hok (by simp)
     rw [hd']
     refine wp_new hd' (hexec cells e1) ?_
     simp only [Option.getD_some]
     exact ⟨by simp [Act.put,S.inv.defers],by simp [Act.put,S.inv.size],S.inv.base,G1,g1.slot (by rw [S.inv.size];exact S.dst d hd') ⟨_,rfl,e2.flat w _ [] hf⟩⟩
    | false=>
     have em:made id (o.dst.getD 4095) ⟨k,v⟩ (minDpA gs)=[(rt id,.root k v (minDpA gs) false false 0),(sl (o.dst.getD 4095),.al id [] 0)]:=by simp [made,hf,hz]
     rw [hz,em] at hok
     rw [em,State.put_append]
     obtain ⟨d,hd'⟩:=dst_some (c:=.al id [] 0) hok (by simp)
     rw [hd']
     exact value_root S g1 hd' hid1 cells.toList (partM gs fld) e2 (hexec cells e1)
  ·simp [Rd.out] at h5
 ·simp [Rd.out] at h
theorem over_elem {cs x:List Value} {e i j:Nat} (hx:x.length=e) (hle:i*e+e<=cs.length):((over cs (i*e) x).drop (j*e)).take e=if j=i then x else (cs.drop (j*e)).take e:=by
 apply List.ext_getElem?
 intro m
 simp only [over,List.getElem?_take,List.getElem?_drop,List.getElem?_append,List.length_take,List.length_append]
 by_cases hm:m<e
 ·simp only [hm,if_true]
  by_cases hj:j=i
  ·subst hj
   simp only [if_true]
   rw [if_pos (by omega),if_neg (by omega)]
   congr 1
   omega
  ·simp only [hj,if_false]
   rcases Nat.lt_or_gt_of_ne hj with hlt | hgt
   ·have:(j+1)*e<=i*e:=Nat.mul_le_mul_right _ hlt
    rw [Nat.add_mul] at this
    rw [if_pos (by omega),if_pos (by omega),if_pos (by omega)]
    simp [hm]
   ·have:(i+1)*e<=j*e:=Nat.mul_le_mul_right _ hgt
    rw [Nat.add_mul] at this
    rw [if_neg (by omega)]
    simp only [List.getElem?_take,hm,if_true,List.getElem?_drop]
    congr 1
    omega
 ·simp only [hm,if_false]
  by_cases hj:j=i
  ·simp only [hj,if_true]
   rw [List.getElem?_eq_none (by omega)]
  ·simp only [hj,if_false]
   rw [List.getElem?_eq_none (by simp;omega)]
theorem minDp_99:∀l:List (Nat×Got),minDp l<=99:=by
 intro l
 induction l with
 | nil=>simp [minDp]
 | cons x l ih=>obtain ⟨i,g⟩:=x;simp only [minDp];omega
theorem Holds.flat {v:V} {cs:List Value} {dp:Nat} {ro:Option (Nat×Path)} (h:Holds G w s v cs dp ro) (hf:v.k.flat=true) (w':World) (S:OwnS) (q:Path):Rep w' S v.k q cs v.d:=by
 cases h with
 | free _ h=>exact h.flat w' S q hf
 | shared h=>exact h.flat w' S q hf
 | dead _ _ _ _ h=>exact h.flat w' S q hf
theorem fillS_ok {own:Bool} {e:Kd} {len:Nat} {Pr:Nat->List Value->e.den->Prop} :
  ∀{ps:List (Nat×Operand)} {gs:List (Nat×Got)} {cells:Array Value} {l v:List e.den},Helds G w s a own ps gs ->
   (∀i y cs x,(i,y)∈gs->y.v=⟨e,x⟩->Holds G w s ⟨e,x⟩ cs (bif own then y.dp else 0) (fromOf own y)->Pr i cs x) ->
   cells.size=len*e.size->l.length=len->(∀g∈gs,g.1<len)->(∀i (h:i<l.length),Pr i ((cells.toList.drop (i*e.size)).take e.size) (l.get ⟨i,h⟩)) ->
   place e l (gs.map fun g=>(g.1,g.2.v))=some v ->
   ∃cells':Array Value,Instr.fill (fun i=>some (i*e.size,e.size)) cells (ps.map fun x=>(x.1,a.eval x.2))=some cells'/\cells'.size=len*e.size/\v.length=len /\
    ∀i (h:i<v.length),Pr i ((cells'.toList.drop (i*e.size)).take e.size) (v.get ⟨i,h⟩):=by
 intro ps
 induction ps with
 | nil=>
  intro gs cells l v h _ h1 h2 _ h3 hp
  cases h
  simp only [List.map_nil,place,Option.some.injEq] at hp
  subst hp
  exact ⟨cells,rfl,h1,h2,h3⟩
 | cons x ps ih=>
  intro gs cells l v h hc h1 h2 hlt h3 hp
  cases h with
  | @cons i x y _ gs cs k1 k2 k3=>
   simp only [List.map_cons,place] at hp
   split at hp
   ·rename_i z hz
    have hy:=cast?_eq hz
    have hcs:=k2.length
    rw [hy] at hcs
    simp only at hcs
    have hi:i<len:=hlt _ (List.mem_cons_self ..)
    have hle:i*e.size+e.size<=cells.toList.length:=by
     have:(i+1)*e.size<=len*e.size:=Nat.mul_le_mul_right _ hi
     rw [Nat.add_mul] at this
     simp
     omega
    have hcell:=k2.cells
    rw [hy] at hcell k1 k2
    have hpr:=hc i y cs z (List.mem_cons_self ..) hy k2
    obtain ⟨cells',e1,e2,e3,e4⟩:=ih (cells:=(over cells.toList (i*e.size) cs).toArray) (l:=l.set i z) k3 (fun i' y' cs' x' hm=>hc i' y' cs' x' (List.mem_cons_of_mem _ hm))
     (by simp only [List.size_toArray];rw [over_length (by omega)];simpa using h1) (by simpa using h2) (fun g hg=>hlt g (List.mem_cons_of_mem _ hg)) (fun j hj=>by
      simp only [List.length_set] at hj
      have:=over_elem (j:=j) hcs hle
      rw [this]
      by_cases hji:j=i
      ·subst hji
       simp only [if_true,List.get_eq_getElem,List.getElem_set_self]
       exact hpr
      ·simp only [hji,if_false,List.get_eq_getElem,ne_eq,Ne.symm hji,not_false_eq_true,List.getElem_set_ne]
       have:=h3 j hj
       simpa using this) hp
    refine ⟨cells',?_,e2,e3,e4⟩
    simp only [List.map_cons]
    rw [fill_step (x:=cs) (off:=i*e.size) (by rw [hcs]) (by rw [k1];exact hcell) (by simp at hle;omega)]
    exact e1
   ·simp at hp
theorem buildSlice_ok (S:Set_ P Γ Kp B0 n G s a w o) {t:TypeId} {m:Nat} {ps:Array (Nat×Operand)} (ho:o.op=.buildSlice t m ps) (h:(opD Γ id o).out s=some ws) (hok:dstOk o ws=true) :
  o.wp P a w (fun a' w'=>Inv P Kp B0 n (s.put ws) a' w') Q:=by
 unfold opD at h
 rw [ho] at h
 simp only [Rd.out_bind,Option.bind_eq_some_iff] at h
 obtain ⟨k,h1,h⟩:=h
 cases k with
 | slice e=>
  simp only [Rd.out_bind,Option.bind_eq_some_iff,bif_out,Rd.out_opt] at h
  obtain ⟨gs,h2,l,h3,h4⟩:=h
  rcases bif_some h4 with ⟨hd,h5⟩ | ⟨_,h5⟩
  ·obtain ⟨hid,rfl⟩:=newAt_ok h5
   simp only [Bool.and_eq_true,decide_eq_true_eq,List.all_eq_true] at hd
   obtain ⟨⟨hd,hlt⟩,hsmall⟩:=hd
   have hg:=gotAll_ok S.g h2
   have hk:=kindOf_ok h1
   obtain ⟨te,u1,u2,u3⟩:=under_slice S.tab hk
   obtain ⟨i,z,hr⟩:=row_of S.tab u2
   obtain ⟨d,hd'⟩:=dst_some (c:=.al id [] 0) hok (by simp)
   let dep:=bif e.flat then 99 else minDp gs+1
   have hdep:dep=bif e.flat then 99 else minDp gs+1:=rfl
   obtain ⟨G1,g1,hh,eC,eβ,n1,o1,r1⟩:=leaveAll_ok (decide (2<=dep)) S.g hg hd
   have hid1:=(r1 id (gots_id hg hid)).trans hid
   have hzl:=zeroC_length e
   obtain ⟨cells,e1,e2,e3,e4⟩:=fillS_ok (len:=m) (cells:=madeCells (zeroC e).toArray (m*e.size)) (l:=List.replicate m e.zero) (v:=l)
    (Pr:=fun j cs x => ∃dp ro,Holds G1 w (s.put (gs.flatMap fun g=>leave (decide (2<=dep)) g.2)) ⟨e,x⟩ cs dp ro/\dep<=dp+1 /\ ∀r p,ro=some (r,p) -> ∀q,partM gs (fun j=>[.i j]) r (p++q)=some (.i j::q)) hh
    (fun j y cs x hm hy hx=>by
     have hmin:=minDp_le hm
     cases hf:e.flat with
     | true=>
      exact ⟨99,none,.free 99 (hx.flat hf _ _ _),by simp [hdep,hf],fun _ _ h=>by cases h⟩
     | false=>
      have hdd:dep=minDp gs+1:=by simp [hdep,hf]
      by_cases h2:2<=dep
      ·simp only [h2,decide_true,cond_true] at hx |-
       refine ⟨_,_,hx,by omega,fun r p hr q => ?_⟩
       obtain ⟨rfl,c,hc⟩:=fromOf_nil hr
       simpa using partM_ok (st:=fun j=>[.i j]) (q:=q) hd hm hc
      ·simp only [h2,decide_false,cond_false] at hx |-
       exact ⟨0,_,hx,by omega,fun r p hr q=>by simp [fromOf] at hr⟩)
    (by simp [madeCells]) (by simp) (fun g hg=>by simpa using hlt g hg) (fun j hj=>by
     simp only [List.length_replicate] at hj
     have hm:=madeCells_at (zeroC e) m j hj (by omega)
     rw [hzl] at hm
     rw [hm]
     have hd99:dep<=100:=by
      have:=minDp_99 gs
      simp only [hdep]
      cases e.flat<;>simp<;>omega
     refine ⟨99,none,.free 99 ?_,by omega,fun _ _ h=>by cases h⟩
     simp only [List.get_eq_getElem,List.getElem_replicate]
     exact zeroC_rep e [] (show (Kd.slice e).pure=true from tab_pure S.tab hk)) h3
   rw [hd',State.put_append]
   have hz:=zcells_arr hr
   refine slice_root S g1 S.inv.base hd' hid1 te cells m (partM gs fun j=>[.i j]) (by cases e.flat<;>simp) (by omega) (by omega) e4 ?_
   unfold execOp
   rw [ho,e3]
   by_cases hz0:m=0
   ·subst hz0
    have:ps.toList=[]:=by
     have hl:ps.toList.length=gs.length:=by
      have:∀{ps':List (Nat×Operand)} {gs':List (Nat×Got)},Gots G w s a ps' gs'->ps'.length=gs'.length:=by
       intro ps' gs' h
       induction h with
       | nil=>rfl
       | cons _ _ ih=>simp [ih]
      exact this hg
     cases gs with
     | nil=>simpa using hl
     | cons x xs=>have:=hlt x (List.mem_cons_self ..);simp at this
    rw [this] at e1
    simp only [List.map_nil,Instr.fill,Option.some.injEq] at e1
    rw [Nat.zero_mul] at e1
    have hm0:madeCells (zeroC e).toArray 0 = #[]:=by simp [madeCells]
    rw [hm0] at e1
    subst e1
    have hps0:ps = #[]:=by apply Array.ext';simpa using this
    subst hps0
    have h0:(Array.map (fun _=>(default:Value)) (Array.range 0)) = #[]:=by simp [Array.range_zero']
    simp [Instr.buildSlice,run_underlying u1,run_size hr,newRow,Instr.fill,h0]
   ·have hps:(ps.map fun (i,x)=>(i,a.eval x)).toList=ps.toList.map fun x=>(x.1,a.eval x.2):=by simp
    have hpos:¬m*i.size=0:=by rw [hr.size];exact Nat.ne_of_gt (Nat.mul_pos (by omega) u3)
    have hs:¬m*i.size>2 ^ 24:=by rw [hr.size];omega
    have hrun:=run_buildSlice w t te m (ps.map fun (i,x)=>(i,a.eval x)) cells i z u1 hr.info hr.zero hs hpos (by
     rw [hps,hr.size,hz]
     exact e1)
    simp [hrun]
  ·simp [Rd.out] at h5
 | _=>simp [Rd.out] at h
end
end Go.V
namespace Go.V
theorem rep_one {w:World} {S:OwnS}:∀{k:Kd} {q:Path} {c:List Value} {d:k.den},Rep w S k q c d -> ∀v∈c,v.oneCell'=true:=by
 intro k
 induction k with
 | int ik=>intro q c d h v hv;simp only [Rep] at h;subst h;simp at hv;subst hv;rfl
 | bool=>intro q c d h v hv;simp only [Rep] at h;subst h;simp at hv;subst hv;rfl
 | str=>intro q c d h v hv;simp only [Rep] at h;subst h;simp at hv;subst hv;rfl
 | slice e ih=>
  intro q c d h v hv
  simp only [Rep] at h
  rcases h with ⟨⟨_,h⟩,_⟩ | ⟨b,off,cap,h,_⟩<;>subst h<;>simp at hv<;>subst hv<;>rfl
 | unit=>intro q c d h v hv;simp only [Rep] at h;subst h;simp at hv
 | pair a b iha ihb=>
  intro q c d h v hv
  simp only [Rep] at h
  rw [<- List.take_append_drop a.size c] at hv
  rcases List.mem_append.1 hv with hv | hv
  ·exact iha h.1 v hv
  ·exact ihb h.2 v hv
 | bx k ih=>intro q c d h v hv;obtain ⟨b,off,h,_⟩:=h;subst h;simp at hv;subst hv;rfl
 | clo f a b iha ihb=>intro q c d h v hv;obtain ⟨c1,c2,h,_⟩:=h;subst h;simp at hv;subst hv;rfl
 | ssl e ih=>
  intro q c d h v hv
  simp only [Rep] at h
  rcases h with ⟨⟨_,h⟩,_⟩ | ⟨b,off,cap,h,_⟩<;>subst h<;>simp at hv<;>subst hv<;>rfl
theorem chunk_mem {l:List Value} {e m:Nat} (he:0<e) (hl:l.length=m*e) {v:Value} (hv:v∈l):∃i,i<m/\v∈(l.drop (i*e)).take e:=by
 obtain ⟨j,hj,rfl⟩:=List.getElem_of_mem hv
 refine ⟨j / e,?_,?_⟩
 ·rw [hl] at hj
  exact Nat.div_lt_of_lt_mul (by rw [Nat.mul_comm];exact hj)
 ·have hm:=Nat.div_add_mod j e
  have hlt:=Nat.mod_lt j he
  rw [List.mem_iff_getElem?]
  refine ⟨j % e,?_⟩
  rw [List.getElem?_take,if_pos hlt,List.getElem?_drop]
  rw [show j / e*e+j % e=j by rw [Nat.mul_comm];exact hm]
  exact List.getElem?_eq_getElem hj
theorem cellsAt_chunk {w:World} {b off n i e:Nat} (h:i*e+e<=n):((cellsAt w b off n).drop (i*e)).take e=cellsAt w b (off+i*e) e:=by
 unfold cellsAt
 split
 ·rw [List.drop_take,List.take_take,List.drop_drop]
  congr 1
  omega
 ·simp
theorem run_firstCells_zero {P:Program} (w:World) (size:Nat) (sb:Option Addr) (cap:Nat):(Builtin.firstCells size 0 (.slice sb 0 cap)).run P w=.ok #[] w:=by
 cases sb with
 | none=>simp [Builtin.firstCells]
 | some a=>exact run_firstCells_some (P:=P) w size 0 a 0 cap [] (by simp) fun j u hu=>by simp at hu
theorem slice_cells {P:Program} {w:World} {S:OwnS} {e:Kd} {q:Path} {v:Value} {l:List e.den} (he:0<e.size) (h:Rep w S (.slice e) q [v] l) :
  ∃(ad:Option Addr) (cap:Nat) (news:List Value),v=.slice ad l.length cap/\news.length=l.length*e.size/\(∀w1:World,w1.heap=w.heap->(Builtin.firstCells e.size l.length v).run P w1=.ok news.toArray w1) /\
   (∀i (h:i<l.length),Rep w S e (q++[.i i]) ((news.drop (i*e.size)).take e.size) (l.get ⟨i,h⟩))/\(∀u∈news,u.oneCell'=true)/\l.length<=cap /\
   (cap=0 \/ ∃b off,ad=some ⟨b,off,none⟩/\S q b/\BlockOk w b (off+cap*e.size) /\ ∀j (h:j<l.length),cellsAt w b (off+j*e.size) e.size=(news.drop (j*e.size)).take e.size):=by
 have hone:∀news:List Value,news.length=l.length*e.size->(∀i (h:i<l.length),Rep w S e (q++[.i i]) ((news.drop (i*e.size)).take e.size) (l.get ⟨i,h⟩)) -> ∀u∈news,u.oneCell'=true:=by
  intro news hl hr u hu
  obtain ⟨i,hi,hm⟩:=chunk_mem he hl hu
  exact rep_one (hr i hi) u hm
 have h0:=h
 simp only [Rep] at h
 rcases h with ⟨⟨sb,h1⟩,h2⟩ | ⟨b,off,cap,h1,h2,h3,h4,h5⟩
 ·simp only [List.cons.injEq,and_true] at h1
  subst h1 h2
  exact ⟨sb,0,[],rfl,by simp,fun w1 _=>run_firstCells_zero w1 e.size sb 0,fun i hi=>by simp at hi,by simp,by simp,.inl rfl⟩
 ·simp only [List.cons.injEq,and_true] at h1
  subst h1
  have hle:l.length*e.size<=cap*e.size:=Nat.mul_le_mul_right _ h2
  have hb:BlockOk w b (off+l.length*e.size):=by
   obtain ⟨cs,T,fr,k1,k2⟩:=h4
   exact ⟨cs,T,fr,k1,by omega⟩
  have hlen:=cellsAt_length hb
  have hch:∀i (h:i<l.length),Rep w S e (q++[.i i]) (((cellsAt w b off (l.length*e.size)).drop (i*e.size)).take e.size) (l.get ⟨i,h⟩):=by
   intro i hi
   have:(i+1)*e.size<=l.length*e.size:=Nat.mul_le_mul_right _ hi
   rw [Nat.add_mul] at this
   rw [cellsAt_chunk (by omega)]
   exact h5 i hi
  refine ⟨_,cap,cellsAt w b off (l.length*e.size),rfl,hlen,fun w1 hw1 => ?_,hch,hone _ hlen hch,h2,.inr ⟨b,off,rfl,h3,h4,fun j hj => ?_⟩⟩
  rotate_left
  ·have:(j+1)*e.size<=l.length*e.size:=Nat.mul_le_mul_right _ hj
   rw [Nat.add_mul] at this
   rw [cellsAt_chunk (by omega)]
  refine run_firstCells_some (P:=P) w1 e.size l.length ⟨b,off,none⟩ l.length cap (cellsAt w b off (l.length*e.size)) hlen fun j u hu => ?_
  have:=cell?_cellsAt hb j u hu
  unfold World.cell? at this |-
  rw [hw1]
  exact this
section
variable {P:Program} {Γ:Ctx} {Kp:Keep} {B0:World} {n:Nat} {G:Gh} {s:State} {a:Act} {w w':World} {id:Nat} {o:Oper} {Q:Exit->Act->World->Prop} {ws:Writes}
theorem run_append_grown {t ty te:TypeId} {i:TypeInfo} {z:Value} (ht:P.underlying t=some (.slice te)) (hi:P.info? te=some i) (hz:i.zero=some z) (sb xb:Option Addr) (sLen sCap xLen xCap:Nat) (olds news:List Value)
  (hs:∀w1:World,w1.heap=w.heap->(Builtin.firstCells i.size sLen (.slice sb sLen sCap)).run P w1=.ok olds.toArray w1) (hx:∀w1:World,w1.heap=w.heap->(Builtin.firstCells i.size xLen (.slice xb xLen xCap)).run P w1=.ok news.toArray w1)
  (hg:sCap<sLen+xLen) (h63:((sLen+xLen:Nat):Int)<=9223372036854775807) (hfit:Builtin.nextslicecap (sLen+xLen) sCap*i.bytes<=281474976710656) :
  (Builtin.append_ #[t,t] ty #[.slice sb sLen sCap,.slice xb xLen xCap]).run P w =
   .ok (.slice (some ⟨w.heap.size,0,none⟩) (sLen+xLen) (grownCap w (sLen+xLen) sCap te))
    (w.drew.alloc (.cells (olds.toArray++news.toArray++Builtin.zeroCells z.cells (grownCap w (sLen+xLen) sCap te-(sLen+xLen))) te)):=by
 have hn:¬(sLen+xLen<=sCap):=by omega
 have h63':¬(9223372036854775807<((sLen:Int)+(xLen:Int))):=by omega
 have h48':¬(281474976710656<Builtin.nextslicecap (sLen+xLen) sCap*i.bytes):=by omega
 have hf:=hx w.drew rfl
 have hfo:=hs w.drew rfl
 simp [Builtin.append_,run_underlying ht,sizeOf,typeInfo,zeroValue,hi,hz,Builtin.lenOf,hn,h63',h48',Question.forced,hf,hfo,newRow,grownCap]
 congr 2
 apply Array.ext'
 simp [List.append_assoc]
theorem run_storeCells_live (g o:Nat) (t:TypeId) (fr:Nat×Nat):∀(vs:List Value) (i:Nat) (cur:Array Value) (w:World),w.heap[g]? = some (.cells cur t fr)->(fr.2=0\/cur.size<=fr.1)->o+i+vs.length<=cur.size->(∀v∈vs,v.oneCell'=true) ->
  (storeCells ⟨g,o,none⟩ vs i).run P w=.ok () (w.setRow g (cur.toList.take (o+i)++vs++cur.toList.drop (o+i+vs.length)).toArray)
 | [],i,cur,w,hg,_,_,_=>by
  simp only [storeCells,List.append_nil,List.length_nil,Nat.add_zero,List.take_append_drop,Array.toArray_toList]
  rw [setRow_self w g cur t fr hg]
  rfl
 | v::rest,i,cur,w,hg,ht,hl,h1=>by
  have hi:o+i<cur.size:=by simp at hl;omega
  have hadd:(⟨g,o,none⟩:Addr).add i=⟨g,o+i,none⟩:=add_mk _ _ _
  have hcell:w.cell? ⟨g,o+i,none⟩=some cur[o+i]:=by simp [World.cell?,hg,hi]
  have hfro:w.frozen? ⟨g,o+i,none⟩=false:=by
   obtain ⟨f1,f2⟩:=fr
   unfold World.frozen?
   rw [hg]
   simp only at ht
   simp
   omega
  have hst:(store ((⟨g,o,none⟩:Addr).add i) v).run P w=.ok () (w.setRow g (cur.setIfInBounds (o+i) v)):=by
   rw [hadd,run_store P w _ v _ (h1 v (by simp)),hcell]
   simp [hfro,setCell_eq_setRow w g (o+i) cur t fr v hg]
  have ih:=run_storeCells_live g o t fr rest (i+1) (cur.setIfInBounds (o+i) v) (w.setRow g (cur.setIfInBounds (o+i) v)) (setRow_heap w g cur _ t _ hg) (by simpa using ht) (by simp at hl |-;omega) (fun x hx=>h1 x (by simp [hx]))
  simp only [storeCells,Sem.run_bind,hst,Result.andThen_ok,ih,setRow_setRow]
  congr 3
  have e:=list_seg_step cur.toList (o+i) v rest (by simp at hl |-;omega)
  simpa [Array.toList_setIfInBounds,Nat.add_assoc] using e
theorem run_append_into {t ty te:TypeId} {i:TypeInfo} (ht:P.underlying t=some (.slice te)) (hi:P.info? te=some i) (b off sLen sCap:Nat) (xb:Option Addr) (xLen xCap:Nat) (news:List Value) {cur:Array Value} {T:TypeId} {fr:Nat×Nat}
  (hx:∀w1:World,w1.heap=w.heap->(Builtin.firstCells i.size xLen (.slice xb xLen xCap)).run P w1=.ok news.toArray w1) (hb:w.heap[b]? = some (.cells cur T fr)) (hth:fr.2=0\/cur.size<=fr.1) (h1:∀u∈news,u.oneCell'=true)
  (hroom:sLen+xLen<=sCap) (hfit:off+sLen*i.size+news.length<=cur.size) :
  (Builtin.append_ #[t,t] ty #[.slice (some ⟨b,off,none⟩) sLen sCap,.slice xb xLen xCap]).run P w =
   .ok (.slice (some ⟨b,off,none⟩) (sLen+xLen) sCap) (w.setRow b (cur.toList.take (off+sLen*i.size)++news++cur.toList.drop (off+sLen*i.size+news.length)).toArray):=by
 have hf:=hx w rfl
 have hst:=run_storeCells_live (P:=P) b (off+sLen*i.size) T fr news 0 cur w hb hth (by simpa using hfit) h1
 simp only [Nat.add_zero] at hst
 simp [Builtin.append_,run_underlying ht,sizeOf,typeInfo,hi,Builtin.lenOf,hroom,hf,add_mk,hst]
theorem run_append_none {t ty te:TypeId} {i:TypeInfo} (ht:P.underlying t=some (.slice te)) (hi:P.info? te=some i) (sb xb:Option Addr) (xCap:Nat)
  (hx:∀w1:World,w1.heap=w.heap->(Builtin.firstCells i.size 0 (.slice xb 0 xCap)).run P w1=.ok #[] w1) :
  (Builtin.append_ #[t,t] ty #[.slice sb 0 0,.slice xb 0 xCap]).run P w=.ok (.slice sb 0 0) w:=by
 have hf:=hx w rfl
 cases sb<;>simp [storeCells,Builtin.append_,run_underlying ht,sizeOf,typeInfo,hi,Builtin.lenOf,hf]
theorem seg_size {cur:Array Value} {o:Nat} {x:List Value} (hl:o+x.length<=cur.size):cur.size=(cur.toList.take o++x++cur.toList.drop (o+x.length)).toArray.size:=by
 simp
 omega
theorem Live.put {w w':World} {b o:Nat} {x:List Value} (h:Live w b) (p:Put w w' b o x):Live w' b:=by
 obtain ⟨cs,T,fr,h1,h2⟩:=h
 obtain ⟨c2,c3,T2,fr2,k1,k2,k3,k4⟩:=p.here
 rw [h1] at k1
 injection k1 with k1
 injection k1 with e1 e2 e3
 subst e1 e2 e3
 have:c3.size=cs.size:=by
  have:=congrArg List.length k4
  simp at this
  omega
 exact ⟨c3,T,fr,k2,h2.imp (fun h=>h) fun h=>by omega⟩
theorem setRow_put {b o:Nat} {cur:Array Value} {T:TypeId} {fr:Nat×Nat} {x:List Value} (hb:w.heap[b]? = some (.cells cur T fr)) (hl:o+x.length<=cur.size) :
  Put w (w.setRow b (cur.toList.take o++x++cur.toList.drop (o+x.length)).toArray) b o x:=
 ⟨fun k hk=>setRow_other w b k _ hk,cur,_,T,_,hb,setRow_heap w b cur _ T _ hb,hl,by simp⟩
theorem Holds.world {v:V} {cs:List Value} {dp:Nat} {ro:Option (Nat×Path)} (h:Holds G w s v cs dp ro)
  (hn:∀b,b<w.heap.size->G.φ b=none->w'.heap[b]? = w.heap[b]?) (ho:∀b r p q,b<w.heap.size->ro=some (r,p)->G.φ b=some (false,r,p++q)->w'.heap[b]? = w.heap[b]?):Holds G w' s v cs dp ro:=by
 cases h with
 | free _ h=>exact .free _ (h.frame fun q b _ hb _=>hb.elim)
 | shared h=>exact .shared (h.frame fun q b _ hb hl=>⟨hn b hl hb,hb⟩)
 | dead r p _ hr h=>
  refine .dead r p _ hr (h.frame fun q b hq hb hl=>⟨?_,hb⟩)
  rcases ownS_lev hb with ⟨_,hb⟩ | ⟨_,hb⟩
  ·obtain ⟨q',rfl⟩:=hq
   exact ho b r p q' hl rfl hb
  ·exact hn b hl hb
theorem Holds.elem {e:Kd} {m:List e.den} {v:Value} {dp:Nat} {ro:Option (Nat×Path)} (h:Holds G w s ⟨.slice e,m⟩ [v] dp ro) {news:List Value} {j:Nat} (hj:j<m.length)
  (hn:∀(S:OwnS) (q:Path),Rep w S (.slice e) q [v] m->Rep w S e (q++[.i j]) ((news.drop (j*e.size)).take e.size) (m.get ⟨j,hj⟩)) :
  ∃ro',Holds G w s ⟨e,m.get ⟨j,hj⟩⟩ ((news.drop (j*e.size)).take e.size) (dp-1) ro' /\ ∀r p,ro'=some (r,p) -> ∃p0,ro=some (r,p0)/\p=p0++[.i j]:=by
 cases h with
 | free _ h=>
  simp only [Rep] at h
  rcases h with ⟨_,h⟩ | ⟨b,off,cap,_,_,h,_⟩
  ·subst h;simp at hj
  ·exact h.elim
 | shared h=>exact ⟨none,.shared ((hn _ _ h).move fun p b hs _=>hs),fun r p hr=>by cases hr⟩
 | dead r p _ hr h=>
  have hl:lev (p++[.i j])=lev p+1:=by rw [lev_append];rfl
  cases dp with
  | zero=>exact ⟨none,.shared ((hn _ _ h).move (q':=[]) fun p' b hs _=>by
    rcases ownS_lev hs with ⟨hlt,_⟩ | ⟨_,hs⟩
    ·rw [lev_append,hl] at hlt;omega
    ·exact hs),fun r p hr=>by cases hr⟩
  | succ dp=>
   refine ⟨some (r,p++[.i j]),.dead r _ _ hr ?_,fun r' p' hr'=>⟨p,?_⟩⟩
   ·have:=hn _ _ h
    rw [show lev (p++[.i j])+(dp+1-1)=lev p+(dp+1) by rw [hl];omega]
    exact this
   ·simp only [Option.some.injEq,Prod.mk.injEq] at hr'
    exact ⟨by rw [hr'.1],hr'.2.symm⟩
theorem chunk_append_l {x y:List Value} {i e k:Nat} (hx:x.length=k*e) (hi:i<k):((x++y).drop (i*e)).take e=(x.drop (i*e)).take e:=by
 have:(i+1)*e<=k*e:=Nat.mul_le_mul_right _ hi
 rw [Nat.add_mul] at this
 rw [List.drop_append_of_le_length (by omega),List.take_append_of_le_length (by simp;omega)]
theorem chunk_append_r {x y:List Value} {j e k:Nat} (hx:x.length=k*e):((x++y).drop ((k+j)*e)).take e=(y.drop (j*e)).take e:=by
 have:(k+j)*e=x.length+j*e:=by rw [Nat.add_mul,hx]
 rw [this,List.drop_append,List.drop_of_length_le (by omega),List.nil_append]
 congr 2
 omega
theorem append_finish (S:Set_ P Γ Kp B0 n G s a w o) {s2:State} {G2:Gh} (g2:GOk Kp G2 s2 a w) {d:Nat} (hd:o.dst=some d) (hid:s2 (rt id)=.none) {e:Kd} {t te:TypeId} {i:TypeInfo} {z:Value}
  (ut:P.underlying t=some (.slice te)) (hr:Row P te e i z) (he:0<e.size) {l m:List e.den} {dep:Nat} (hdep:1<=dep) (M:Nat->Path->Option Path) {olds news:List Value} {sb xb:Option Addr} {sCap xCap:Nat}
  (hol:olds.length=l.length*e.size) (hnl:news.length=m.length*e.size)
  (helO:∀j (h:j<l.length),∃dp ro,Holds G2 w s2 ⟨e,l.get ⟨j,h⟩⟩ ((olds.drop (j*e.size)).take e.size) dp ro/\dep<=dp+1 /\ ∀r p,ro=some (r,p)->p≠[] /\ ∀q,M r (p++q)=some (.i j::q))
  (helN:∀j (h:j<m.length),∃dp ro,Holds G2 w s2 ⟨e,m.get ⟨j,h⟩⟩ ((news.drop (j*e.size)).take e.size) dp ro/\dep<=dp+1 /\ ∀r p,ro=some (r,p)->p≠[] /\ ∀q,M r (p++q)=some (.i (l.length+j)::q))
  (hs:∀w1:World,w1.heap=w.heap->(Builtin.firstCells e.size l.length (.slice sb l.length sCap)).run P w1=.ok olds.toArray w1)
  (hx:∀w1:World,w1.heap=w.heap->(Builtin.firstCells e.size m.length (.slice xb m.length xCap)).run P w1=.ok news.toArray w1)
  (h1:∀u∈news,u.oneCell'=true) (hlim:l.length+m.length<=lim) (hlc:l.length<=sCap)
  (hin:sCap=0 \/ ∃b off cur T r,∃fr:Nat×Nat,(fr.2=0\/cur.size<=fr.1)/\sb=some ⟨b,off,none⟩/\w.heap[b]? = some (.cells cur T fr)/\off+sCap*e.size<=cur.size/\G2.φ b=some (false,r,[])/\s2 (rt r)=.dead/\M r []=some [] /\
   ∀j (h:j<l.length),(cellsAt w b (off+j*e.size) e.size)=(olds.drop (j*e.size)).take e.size)
  (hexec:∀v w',(Builtin.append_ #[t,t] o.type #[.slice sb l.length sCap,.slice xb m.length xCap]).run P w=.ok v w'->(execOp a.eval o).run P w=.ok (.value v) w') :
  o.wp P a w (fun a' w'=>Inv P Kp B0 n (s2.put [(rt id,.root (.slice e) (l++m) dep false false 0),(sl d,.al id [] 0)]) a' w') Q:=by
 rw [<- hr.size] at hs hx
 have hdn:=S.dst d hd
 have hchunk:∀(rest:List Value) j (h:j<(l++m).length),∃dp ro,Holds G2 w s2 ⟨e,(l++m).get ⟨j,h⟩⟩ (((olds++news++rest).drop (j*e.size)).take e.size) dp ro/\dep<=dp+1 /\ ∀r p,ro=some (r,p)->p≠[] /\ ∀q,M r (p++q)=some (.i j::q):=by
  intro rest j h
  rw [List.length_append] at h
  by_cases hj:j<l.length
  ·rw [List.append_assoc,chunk_append_l hol hj]
   obtain ⟨dp,ro,k1,k2,k3⟩:=helO j hj
   refine ⟨dp,ro,?_,k2,k3⟩
   simpa [List.getElem_append_left hj] using k1
  ·obtain ⟨j',rfl⟩:∃j',j=l.length+j':=⟨j-l.length,by omega⟩
   rw [List.append_assoc,chunk_append_r hol,chunk_append_l hnl (by omega)]
   obtain ⟨dp,ro,k1,k2,k3⟩:=helN j' (by omega)
   refine ⟨dp,ro,?_,k2,k3⟩
   simpa [List.getElem_append_right] using k1
 by_cases hroom:l.length+m.length<=sCap
 ·rcases hin with rfl | ⟨b,off,cur,T,r,fr,hth,rfl,hb,hcap,hφ,hdead,hM0,hcl⟩
  ·have hl0:l.length=0:=by omega
   have hm0:m.length=0:=by omega
   have hl:l=[]:=List.length_eq_zero_iff.1 hl0
   have hm:m=[]:=List.length_eq_zero_iff.1 hm0
   subst hl hm
   have hn0:news=[]:=by
    apply List.length_eq_zero_iff.1
    rw [hnl]
    simp
   subst hn0
   have hrun:=run_append_none (t:=t) (ty:=o.type) ut hr.info sb xb xCap (w:=w) (fun w1 h=>by simpa using hx w1 h)
   exact value_root S g2 hd hid [.slice sb 0 0] M (by simp [Rep]) (hexec _ _ hrun)
  ·have hle:(l.length+m.length)*e.size<=sCap*e.size:=Nat.mul_le_mul_right _ hroom
   rw [Nat.add_mul] at hle
   have hfit:off+l.length*e.size+news.length<=cur.size:=by rw [hnl];omega
   have hrun:=run_append_into (t:=t) (ty:=o.type) ut hr.info b off l.length sCap xb m.length xCap news hx hb hth h1 hroom (by rw [hr.size];exact hfit)
   rw [hr.size] at hrun
   have hput:=setRow_put hb hfit (x:=news)
   refine wp_new hd (hexec _ _ hrun) ?_
   have hsame:∀b',b'<w.heap.size->(G2.φ b'=none \/ ∃f r q,G2.φ b'=some (f,r,q) /\ ∃k d dep box frz ver,s2 (rt r)=.root k d dep box frz ver)->(w.setRow b (cur.toList.take (off+l.length*e.size)++news++cur.toList.drop (off+l.length*e.size+news.length)).toArray).heap[b']? = w.heap[b']?:=by
    intro b' _ hh
    refine hput.other b' fun eq => ?_
    subst eq
    rcases hh with hh | ⟨f,r',q,hh,k,d',dep',box,frz,ver,hroot⟩
    ·rw [hφ] at hh;cases hh
    ·rw [hφ] at hh
     injection hh with hh
     injection hh with _ hh
     injection hh with hh _
     subst hh
     rw [hdead] at hroot
     cases hroot
   obtain ⟨_,cs',_,_,p1,p2,p3,p4⟩:=hput.here
   have hbl:b<w.heap.size:=(Array.getElem?_eq_some_iff.1 hb).1
   have hb':(w.setRow b (cur.toList.take (off+l.length*e.size)++news++cur.toList.drop (off+l.length*e.size+news.length)).toArray).heap[b]? = some (.cells (cur.toList.take (off+l.length*e.size)++news++cur.toList.drop (off+l.length*e.size+news.length)).toArray T fr):=setRow_heap w b cur _ T _ hb
   obtain ⟨G',g',_⟩:=mk_rootW g2 (w':=w.setRow b (cur.toList.take (off+l.length*e.size)++news++cur.toList.drop (off+l.length*e.size+news.length)).toArray) (moveT s2 id dep M) none [.slice (some ⟨b,off,none⟩) (l.length+m.length) sCap] hsame
    (fun b' h=>by
     by_cases eq:b'=b
     ·subst eq;exact ⟨_,_,_,hb',hth.imp (fun h=>h) fun h=>by rw [<- seg_size hfit];exact h⟩
     ·exact h.same (hput.other b' eq))
    (fun f r q h=>moveT_live f r q h) moveT_far (by rw [setRow_size];exact Nat.le_refl _) (fun x hx=>by cases hx) hid (cell:=.root (.slice e) (l++m) dep false false 0) (d:=d) (v:=.slice (some ⟨b,off,none⟩) (l.length+m.length) sCap) (sc:=.al id [] 0) (by rw [S.inv.size];exact hdn)
    (by
     refine ⟨?_,fun h=>by cases h⟩
     simp only [if_true,Rep]
     refine .inr ⟨b,off,sCap,by simp,by simpa using hroom,?_,hput.block ⟨cur,T,_,hb,hcap⟩,fun j hj => ?_⟩
     ·have:lev []<dep:=by simp [lev];omega
      simp only [ownS,this,if_true,reφ,hbl,hφ,Option.bind_some]
      rw [moveT_dead hdead hM0,if_pos this]
     ·obtain ⟨dp,ro,k1,k2,k3⟩:=hchunk [] j hj
      have hcell:cellsAt (w.setRow b (cur.toList.take (off+l.length*e.size)++news++cur.toList.drop (off+l.length*e.size+news.length)).toArray) b (off+j*e.size) e.size=((olds++news++[]).drop (j*e.size)).take e.size:=by
       rw [List.length_append] at hj
       by_cases hjl:j<l.length
       ·have:(j+1)*e.size<=l.length*e.size:=Nat.mul_le_mul_right _ hjl
        rw [Nat.add_mul] at this
        have hr2:((olds++news++[]).drop (j*e.size)).take e.size=(olds.drop (j*e.size)).take e.size:=by rw [List.append_assoc,chunk_append_l hol hjl]
        rw [hput.cells_other (.inr (.inl (by omega))),hcl j hjl,hr2]
       ·obtain ⟨j',rfl⟩:∃j',j=l.length+j':=⟨j-l.length,by omega⟩
        have hj2:(j'+1)*e.size<=m.length*e.size:=Nat.mul_le_mul_right _ (by omega)
        rw [Nat.add_mul] at hj2
        have hr2:((olds++news++[]).drop ((l.length+j')*e.size)).take e.size=(news.drop (j'*e.size)).take e.size:=by rw [List.append_assoc,chunk_append_r hol,chunk_append_l hnl (by omega)]
        rw [hr2]
        rw [show off+(l.length+j')*e.size=(off+l.length*e.size)+j'*e.size by rw [Nat.add_mul];omega]
        rw [<- cellsAt_chunk (n:=news.length) (by omega),hput.cells_same]
      rw [hcell]
      have k1':=Holds.world (w':=w.setRow b (cur.toList.take (off+l.length*e.size)++news++cur.toList.drop (off+l.length*e.size+news.length)).toArray) k1 (fun b' hl' hn=>hsame b' hl' (.inl hn)) (fun b' r' p q hl' hro hb2=>by
       refine hput.other b' fun eq => ?_
       subst eq
       rw [hφ] at hb2
       injection hb2 with hb2
       injection hb2 with _ hb2
       injection hb2 with _ hb2
       have:=(k3 r' p hro).1
       cases p with
       | nil=>exact this rfl
       | cons x p=>simp at hb2)
      have hsz:(w.setRow b (cur.toList.take (off+l.length*e.size)++news++cur.toList.drop (off+l.length*e.size+news.length)).toArray).heap.size=w.heap.size:=setRow_size _ _ _
      have:=holds_move (w':=w.setRow b (cur.toList.take (off+l.length*e.size)++news++cur.toList.drop (off+l.length*e.size+news.length)).toArray) (id:=id) (dep:=dep) (M:=M) (pre:=[.i j]) (nb:=none) k1' (fun _ _=>rfl) (by simp [lev];omega) (fun r p hr q=>by simpa using (k3 r p hr).2 q)
      rw [hsz] at this
      simpa using this)
    (.inr ⟨_,_,_,_,_,_,rfl⟩)
    (by
     have e':(s2.put [(rt id,Cell.root (.slice e) (l++m) dep false false 0),(sl d,.al id [] 0)]) (rt id)=.root (.slice e) (l++m) dep false false 0:=by
      simp only [State.put];rw [State.set_other _ _ (sl_rt d id).symm,State.set_same]
     simp only [CellOk]
     rw [e']
     exact ⟨Nat.le_refl _,fun _=>⟨⟨.slice e,l++m⟩,rfl,trivial,by simp [subC,mkVal,Kd.agg]⟩⟩)
   refine ⟨by simp [Act.put,S.inv.defers],by simp [Act.put,S.inv.size],?_,G',g'⟩
   have hbase:=S.inv.base
   have hkb:=(g2.mine hφ (.inl rfl)).1
   exact ⟨hbase.os,hbase.tape,hbase.output,by rw [setRow_size];exact hbase.size,fun b' hk=>(hput.other b' fun eq=>hkb (eq▸hk)).trans (hbase.kept b' hk),hbase.old,hbase.gl⟩
 ·have hbytes:=hr.bytes
  have hfit:Builtin.nextslicecap (l.length+m.length) sCap*i.bytes<=281474976710656:=by
   refine growslice_fits (by omega) ?_
   have:(l.length+m.length)*i.bytes<=lim*128:=Nat.mul_le_mul hlim hbytes
   unfold lim at this
   omega
  have hrun:=run_append_grown (t:=t) (ty:=o.type) (w:=w) ut hr.info hr.zero sb xb l.length sCap m.length xCap olds news hs hx (by omega) (by unfold lim at hlim;omega) hfit
  have hcapge:l.length+m.length<=grownCap w (l.length+m.length) sCap te:=grownCap_ge w _ _ _
  have hzc:z.cells=(zeroC e).toArray:=zcells_arr hr
  have:=slice_root (Q:=Q) S (w1:=w.drew) (l:=l++m) (dep:=dep) g2.drew S.inv.base.drew hd hid te (olds.toArray++news.toArray++Builtin.zeroCells z.cells (grownCap w (l.length+m.length) sCap te-(l.length+m.length))) (grownCap w (l.length+m.length) sCap te) M hdep (by simpa using hcapge)
   (by
    have hzs:(Builtin.zeroCells z.cells (grownCap w (l.length+m.length) sCap te-(l.length+m.length))).size=(grownCap w (l.length+m.length) sCap te-(l.length+m.length))*e.size:=by
     rw [size_zeroCells,hzc,List.size_toArray,zeroC_length]
    simp only [Array.size_append,List.size_toArray,hzs,hol,hnl]
    have:grownCap w (l.length+m.length) sCap te=(l.length+m.length)+(grownCap w (l.length+m.length) sCap te-(l.length+m.length)):=by omega
    rw [Nat.sub_mul,Nat.add_mul]
    have h2:(l.length+m.length)*e.size<=grownCap w (l.length+m.length) sCap te*e.size:=Nat.mul_le_mul_right _ hcapge
    rw [Nat.add_mul] at h2
    omega)
   (fun j hj=>by
    obtain ⟨dp,ro,k1,k2,k3⟩:=hchunk (Builtin.zeroCells z.cells (grownCap w (l.length+m.length) sCap te-(l.length+m.length))).toList j hj
    refine ⟨dp,ro,?_,k2,fun r p hr=>(k3 r p hr).2⟩
    have e2:(olds.toArray++news.toArray++Builtin.zeroCells z.cells (grownCap w (l.length+m.length) sCap te-(l.length+m.length))).toList=olds++news++(Builtin.zeroCells z.cells (grownCap w (l.length+m.length) sCap te-(l.length+m.length))).toList:=by simp
    rw [e2]
    exact Holds.world k1 (fun _ _ _=>rfl) (fun _ _ _ _ _ _ _=>rfl))
   (by
    have:=hexec _ _ hrun
    simpa using this)
  exact this
theorem append_cst (S:Set_ P Γ Kp B0 n G s a w o) {s1:State} {G1:Gh} (g1:GOk Kp G1 s1 a w) {d:Nat} (hd:o.dst=some d) (hid:s1 (rt id)=.none) {e:Kd} {t te:TypeId} {i:TypeInfo} {z:Value}
  (ut:P.underlying t=some (.slice te)) (hr:Row P te e i z) (he:0<e.size) {m:List e.den} {dep:Nat} (hdep:1<=dep) (M:Nat->Path->Option Path) {news:List Value} {sb xb:Option Addr} {xCap:Nat}
  (hnl:news.length=m.length*e.size)
  (helN:∀j (h:j<m.length),∃dp ro,Holds G1 w s1 ⟨e,m.get ⟨j,h⟩⟩ ((news.drop (j*e.size)).take e.size) dp ro/\dep<=dp+1 /\ ∀r p,ro=some (r,p)->p≠[] /\ ∀q,M r (p++q)=some (.i j::q))
  (hx:∀w1:World,w1.heap=w.heap->(Builtin.firstCells e.size m.length (.slice xb m.length xCap)).run P w1=.ok news.toArray w1)
  (h1:∀u∈news,u.oneCell'=true) (hlim:m.length<=lim)
  (hexec:∀v w',(Builtin.append_ #[t,t] o.type #[.slice sb 0 0,.slice xb m.length xCap]).run P w=.ok v w'->(execOp a.eval o).run P w=.ok (.value v) w') :
  o.wp P a w (fun a' w'=>Inv P Kp B0 n (s1.put [(rt id,.root (.slice e) ([]++m) dep false false 0),(sl d,.al id [] 0)]) a' w') Q:=
 append_finish S g1 hd hid ut hr he (l:=[]) hdep M (olds:=[]) (sb:=sb) (sCap:=0) (by simp) hnl (fun j h=>by simp at h)
  (fun j h=>by
   obtain ⟨dp,ro,k1,k2,k3⟩:=helN j h
   exact ⟨dp,ro,k1,k2,fun r p hr=>by simpa using k3 r p hr⟩)
  (fun w1 _=>run_firstCells_zero w1 e.size sb 0) hx h1 (by simpa using hlim) (by simp) (.inl rfl) hexec
theorem append_al (S:Set_ P Γ Kp B0 n G s a w o) {s1:State} {G1:Gh} (g1:GOk Kp G1 s1 a w) {d:Nat} (hd:o.dst=some d) (hid:s1 (rt id)=.none) {e:Kd} {t te:TypeId} {i:TypeInfo} {z:Value}
  (ut:P.underlying t=some (.slice te)) (hr:Row P te e i z) (he:0<e.size) {l m:List e.den} {dep dep0 ver r:Nat} {sv:Value} (hroot:s1 (rt r)=.root (.slice e) l dep0 false false ver) (hsv:sv=mkVal (.slice e) (G1.C r)) (hdep:1<=dep) (hdd:dep<=dep0)
  (N:Nat->Path->Option Path) {news:List Value} {xb:Option Addr} {xCap:Nat} (hnl:news.length=m.length*e.size)
  (helN:∀j (h:j<m.length),∃dp ro,Holds G1 w s1 ⟨e,m.get ⟨j,h⟩⟩ ((news.drop (j*e.size)).take e.size) dp ro/\dep<=dp+1 /\ ∀r' p,ro=some (r',p)->r'≠r/\p≠[] /\ ∀q,N r' (p++q)=some (.i (l.length+j)::q))
  (hx:∀w1:World,w1.heap=w.heap->(Builtin.firstCells e.size m.length (.slice xb m.length xCap)).run P w1=.ok news.toArray w1)
  (h1:∀u∈news,u.oneCell'=true) (hlim:l.length+m.length<=lim)
  (hexec:∀v w',(Builtin.append_ #[t,t] o.type #[sv,.slice xb m.length xCap]).run P w=.ok v w'->(execOp a.eval o).run P w=.ok (.value v) w') :
  o.wp P a w (fun a' w'=>Inv P Kp B0 n (s1.put [(rt r,.dead),(rt id,.root (.slice e) (l++m) dep false false 0),(sl d,.al id [] 0)]) a' w') Q:=by
 have hro:=g1.roots r
 rw [hroot] at hro
 have hrep:=hro.1
 have hlen:=hrep.length
 obtain ⟨v,hv⟩:∃v,G1.C r=[v]:=by
  match hq:G1.C r,hlen with
  | [v],_=>exact ⟨v,rfl⟩
 rw [hv] at hrep
 obtain ⟨ad,cap,olds,e1,e2,e3,e4,e5,e6,e7⟩:=slice_cells (P:=P) he hrep
 have hsv':sv=.slice ad l.length cap:=by rw [hsv,hv,<- e1];rfl
 rw [e1] at e3
 subst hsv'
 have g2:=kill_ok g1 ⟨_,_,_,_,_,_,hroot⟩
 have hne:id≠r:=fun e=>by subst e;rw [hid] at hroot;cases hroot
 have hid2:(s1.set (rt r) .dead) (rt id)=.none:=by rw [State.set_other _ _ (fun h=>hne (rt_inj h))];exact hid
 have hlevi:∀j,lev [St.i j]=1:=fun j=>rfl
 have key:=append_finish (Q:=Q) S g2 hd hid2 ut hr he (l:=l) (m:=m) hdep (fun r' q=>if r'=r then some q else N r' q) (olds:=olds) (news:=news) (sb:=ad) (sCap:=cap) e2 hnl
  (fun j h=>⟨dep0-1,some (r,[.i j]),.dead r [.i j] _ (State.set_same _ _ _) (by
    rw [hlevi,show 1+(dep0-1)=dep0 by omega]
    simpa using e4 j h),by omega,fun r' p hr'=>by
     simp only [Option.some.injEq,Prod.mk.injEq] at hr'
     obtain ⟨rfl,rfl⟩:=hr'
     exact ⟨by simp,fun q=>by simp⟩⟩)
  (fun j h=>by
   obtain ⟨dp,ro,k1,k2,k3⟩:=helN j h
   refine ⟨dp,ro,k1.keep (fun r' p hr'=>State.set_other _ _ (fun h=>(k3 r' p hr').1 (rt_inj h))) (fun _ h=>h) (fun _ _ _ _ h _=>h),k2,fun r' p hr' => ?_⟩
   obtain ⟨n1,n2,n3⟩:=k3 r' p hr'
   exact ⟨n2,fun q=>by simp only [n1,if_false];exact n3 q⟩)
  e3 hx h1 hlim e6 (by
   rcases e7 with h | ⟨b,off,k1,k2,k3,k4⟩
   ·exact .inl h
   ·right
    have hφ:G1.φ b=some (false,r,[]):=by
     rcases ownS_lev k2 with ⟨_,h⟩ | ⟨h,_⟩
     ·exact h
     ·simp [lev] at h;omega
    obtain ⟨_,cur,T,fr0,hb,hth⟩:=g1.mine hφ (.inl rfl)
    refine ⟨b,off,cur,T,r,fr0,hth,k1,hb,?_,hφ,State.set_same _ _ _,by simp,k4⟩
    obtain ⟨cs,T',fr,hb',hle⟩:=k3
    rw [hb] at hb'
    injection hb' with hb'
    injection hb' with hb' _ _
    rw [hb']
    exact hle)
  hexec
 exact key
theorem rep_grow {w w':World} {S S':OwnS}:∀{p:Path} {k:Kd} {q:Path} {c:List Value} {d:k.den} {e:Kd} {l:List e.den},Rep w S k q c d->okP p k d->getP p k d=some ⟨.slice e,l⟩ ->
  (∀q' b,q <+: q'->S q' b->b<w.heap.size->S' q' b/\(q'≠q++p->w'.heap[b]? = w.heap[b]?)) ->
  Rep w' S' (.slice e) (q++p) (subC w p k c) l->Rep w' S' k q c d:=by
 intro p
 induction p with
 | nil=>
  intro k q c d e l _ _ hg _ hn
  simp only [getP,Option.some.injEq,V.mk.injEq] at hg
  obtain ⟨rfl,hg⟩:=hg
  have hg:=eq_of_heq hg
  subst hg
  simpa [subC] using hn
 | cons s p ih=>
  intro k q c d e l hr hp hg H hn
  cases s with
  | l=>cases k with
   | pair a b=>
    simp only [subC] at hn
    simp only [getP,Rep,okP] at hg hr hp |-
    refine ⟨ih hr.1 hp hg (fun q' b' h1 h2 h3 => ?_) (by simpa using hn),hr.2.frame fun q' b' h1 h2 h3 => ?_⟩
    ·obtain ⟨k1,k2⟩:=H q' b' ((List.prefix_append _ _).trans h1) h2 h3
     exact ⟨k1,fun hne=>k2 (by simpa using hne)⟩
    ·obtain ⟨k1,k2⟩:=H q' b' ((List.prefix_append _ _).trans h1) h2 h3
     exact ⟨k2 (fun e=>prefix_l_r (q:=q) (show q++[St.l] <+: q' from by rw [e];exact ⟨p,by simp⟩) h1),k1⟩
   | _=>simp [getP] at hg
  | r=>cases k with
   | pair a b=>
    simp only [subC] at hn
    simp only [getP,Rep,okP] at hg hr hp |-
    refine ⟨hr.1.frame fun q' b' h1 h2 h3 => ?_,ih hr.2 hp hg (fun q' b' h1 h2 h3 => ?_) (by simpa using hn)⟩
    ·obtain ⟨k1,k2⟩:=H q' b' ((List.prefix_append _ _).trans h1) h2 h3
     exact ⟨k2 (fun e=>prefix_l_r (q:=q) h1 (show q++[St.r] <+: q' from by rw [e];exact ⟨p,by simp⟩)),k1⟩
    ·obtain ⟨k1,k2⟩:=H q' b' ((List.prefix_append _ _).trans h1) h2 h3
     exact ⟨k1,fun hne=>k2 (by simpa using hne)⟩
   | _=>simp [getP] at hg
  | i n=>cases k with
   | slice a=>
    simp only [getP,Rep,okP] at hg hr hp |-
    rcases hr with ⟨_,hr⟩ | ⟨b,off,cap,hc,hl,hs,hb,he⟩
    ·subst hr;simp at hp
    ·subst hc
     simp only [subC] at hn
     obtain ⟨k1,k2⟩:=H q b (List.prefix_refl q) hs hb.lt
     have hsame:w'.heap[b]? = w.heap[b]?:=k2 (fun e=>by have:=congrArg List.length e;simp at this)
     refine .inr ⟨b,off,cap,rfl,hl,k1,hb.same hsame,fun j hj => ?_⟩
     rw [cellsAt_same hsame]
     by_cases hjn:j=n
     ·subst hjn
      have hn':=he j hj
      have hg':getP p a (List.get d ⟨j,hj⟩)=some ⟨.slice e,l⟩:=by rw [<- at_eq hj];exact hg
      have hp':okP p a (List.get d ⟨j,hj⟩):=by rw [<- at_eq hj];exact hp.2
      refine ih hn' hp' hg' (fun q' b' h1 h2 h3 => ?_) (by simpa using hn)
      obtain ⟨m1,m2⟩:=H q' b' ((List.prefix_append _ _).trans h1) h2 h3
      exact ⟨m1,fun hne=>m2 (by simpa using hne)⟩
     ·refine (he j hj).frame fun q' b' h1 h2 h3 => ?_
      obtain ⟨m1,m2⟩:=H q' b' ((List.prefix_append _ _).trans h1) h2 h3
      exact ⟨m2 (fun e=>hjn (prefix_i_i h1 (show q++[St.i n] <+: q' from by rw [e];exact ⟨p,by simp⟩))),m1⟩
   | _=>simp [getP] at hg
theorem sub_grow {w w':World} {S:OwnS} {P:Path} {b off cap:Nat} {e0:Kd} {l0:List e0.den} (hcell:∀j,j<l0.length->cellsAt w' b (off+j*e0.size) e0.size=cellsAt w b (off+j*e0.size) e0.size) :
  ∀{p:Path} {k:Kd} {q:Path} {c:List Value} {d:k.den} {x:V},Rep w S k q c d->okP p k d->getP p k d=some x ->
  (∀q' b',q <+: q'->S q' b'->b'<w.heap.size->q'≠P->w'.heap[b']? = w.heap[b']?) ->
  (∀r,q++r=P->getP r k d=some ⟨.slice e0,l0⟩/\subC w r k c=[.slice (some ⟨b,off,none⟩) l0.length cap]) ->
  subC w' p k c=subC w p k c /\ ∀h,subA w' p k c h=subA w p k c h:=by
 intro p
 induction p with
 | nil=>intro k q c d x _ _ _ _ _;exact ⟨rfl,fun _=>rfl⟩
 | cons s p ih=>
  intro k q c d x h ho hg H Hp
  cases s with
  | l=>cases k with
   | pair a b'=>
    simp only [getP,okP,subC,subA,Rep] at hg ho h |-
    have key:=ih h.1 ho hg (fun q' b2 h1=>H q' b2 ((List.prefix_append _ _).trans h1)) (fun r hr=>by
     have:=Hp (.l::r) (by rw [<- hr];simp)
     simpa only [getP,subC] using this)
    exact ⟨key.1,fun _=>key.2 _⟩
   | _=>simp [getP] at hg
  | r=>cases k with
   | pair a b'=>
    simp only [getP,okP,subC,subA,Rep] at hg ho h |-
    have key:=ih h.2 ho hg (fun q' b2 h1=>H q' b2 ((List.prefix_append _ _).trans h1)) (fun r hr=>by
     have:=Hp (.r::r) (by rw [<- hr];simp)
     simpa only [getP,subC] using this)
    exact ⟨key.1,fun _=>key.2 _⟩
   | _=>simp [getP] at hg
  | i n=>cases k with
   | slice e=>
    simp only [getP,okP,Rep] at hg ho h
    rcases h with ⟨_,h⟩ | ⟨b1,off1,cap1,hc,hl,hs,hb,he⟩
    ·subst h;simp at ho
    ·subst hc
     have he':=he n ho.1
     rw [<- at_eq ho.1] at he'
     have hsame:cellsAt w' b1 (off1+n*e.size) e.size=cellsAt w b1 (off1+n*e.size) e.size:=by
      by_cases hq:q=P
      ·obtain ⟨h1,h2⟩:=Hp [] (by simp [hq])
       simp only [getP,Option.some.injEq,V.mk.injEq,Kd.slice.injEq] at h1
       obtain ⟨rfl,h1⟩:=h1
       have h1:=eq_of_heq h1
       subst h1
       simp only [subC,List.cons.injEq,Value.slice.injEq,Option.some.injEq,Addr.mk.injEq,and_true] at h2
       obtain ⟨⟨rfl,rfl⟩,_⟩:=h2
       exact hcell n ho.1
      ·exact cellsAt_same (H q b1 (List.prefix_refl q) hs hb.lt hq) _ _
     simp only [subC,subA]
     rw [hsame]
     have key:=ih he' ho.2 hg (fun q' b2 h1=>H q' b2 ((List.prefix_append _ _).trans h1)) (fun r hr=>by
      have:=Hp (.i n::r) (by rw [<- hr];simp)
      simpa only [getP,subC] using this)
     exact ⟨key.1,fun _=>key.2 _⟩
   | _=>simp [getP] at hg
theorem box_step (S:Set_ P Γ Kp B0 n G s a w o) {s1:State} {G1:Gh} (g1:GOk Kp G1 s1 a w) {d:Nat} (hd:d<a.tmps.size) {e:Kd} {L:List e.den} {k:Kd} {dd:k.den} {dep ver r:Nat} {box:Bool} {p:Path} (hroot:s1 (rt r)=.root k dd dep box false ver)
  (M:Nat->Path->Option Path) {nb:Option (Bool×Nat×Path)} (hw:∀b,b<w.heap.size->G1.φ b≠some (false,r,p)->w'.heap[b]? = w.heap[b]?)
  (hcw:∀b:Nat,Live w b->Live w' b)
  (hsz:w.heap.size<=w'.heap.size) (hnb:∀x,nb=some x -> ¬Kp.K w.heap.size/\Live w' (w.heap.size))
  (hrep:Rep w' (ownS (reφ G1.φ (moveT s1 r dep M) w.heap.size nb) r dep) k [] (G1.C r) dd) {v':Value} {cs':List Value} (hv:v'=mkVal (.slice e) cs')
  (hval:Rep w' (ownS (reφ G1.φ (moveT s1 r dep M) w.heap.size nb) r dep) (.slice e) p cs' L) :
  ∃G',GOk Kp G' (s1.put [(rt r,.root k dd dep box false (ver+1)),(ak r,.dead),(sl d,.apd r p (ver+1) e L)]) (a.put (some d) v') w':=by
 have hlive:∃k d dep box frz ver,s1 (rt r)=.root k d dep box frz ver:=⟨_,_,_,_,_,_,hroot⟩
 have hs2:∀r',r'≠r->(s1.put [(rt r,Cell.root k dd dep box false (ver+1)),(ak r,.dead),(sl d,.apd r p (ver+1) e L)]) (rt r')=s1 (rt r'):=fun r' h=>by
  simp only [State.put]
  rw [State.set_other _ _ (sl_rt d r').symm,State.set_other _ _ (ak_rt r r').symm,State.set_other _ _ (fun e=>h (rt_inj e))]
 have hs2r:(s1.put [(rt r,Cell.root k dd dep box false (ver+1)),(ak r,.dead),(sl d,.apd r p (ver+1) e L)]) (rt r)=.root k dd dep box false (ver+1):=by
  simp only [State.put]
  rw [State.set_other _ _ (sl_rt d r).symm,State.set_other _ _ (ak_rt r r).symm,State.set_same]
 have hak:∀r',s1 (ak r')≠.none->(s1.put [(rt r,Cell.root k dd dep box false (ver+1)),(ak r,.dead),(sl d,.apd r p (ver+1) e L)]) (ak r')≠.none:=fun r' h=>by
  simp only [State.put]
  rw [State.set_other _ _ (ak_sl r' d)]
  by_cases er:r'=r
  ·subst er;rw [State.set_same];exact fun h=>by cases h
  ·rw [State.set_other _ _ (fun e=>er (ak_inj e)),State.set_other _ _ (ak_rt r' r)];exact h
 have hakr:(s1.put [(rt r,Cell.root k dd dep box false (ver+1)),(ak r,.dead),(sl d,.apd r p (ver+1) e L)]) (ak r)≠.none:=by
  simp only [State.put]
  rw [State.set_other _ _ (ak_sl r d),State.set_same]
  exact fun h=>by cases h
 have hnone:∀b,G1.φ b=none->b<w.heap.size->reφ G1.φ (moveT s1 r dep M) w.heap.size nb b=none:=fun b h hl=>by simp [reφ,hl,h]
 have hkeep:∀b f r' q,G1.φ b=some (f,r',q)->(∃k d dep box frz ver,s1 (rt r')=.root k d dep box frz ver)->reφ G1.φ (moveT s1 r dep M) w.heap.size nb b=some (f,r',q):=fun b f r' q h hr=>by
  have hl:=g1.col.lt b _ h
  simp only [reφ,hl,if_true,h,Option.bind_some]
  exact moveT_live f r' q hr
 refine ⟨⟨reφ G1.φ (moveT s1 r dep M) w.heap.size nb,G1.C,G1.β⟩,g1.step ⟨fun b hb hl=>⟨hnone b hb hl,hw b hl (by rw [hb];simp)⟩,fun r' k' d' dep' box' frz' ver' h => ?_,fun r' h => ?_,hak⟩ (some d) v' (fun t ht => ?_) (fun d' hd' => ?_) (fun r' => ?_) ⟨fun b x hx => ?_,fun b x hx => ?_,fun b hx => ?_⟩⟩
 ·by_cases er:r'=r
  ·subst er
   rw [hroot] at h
   simp only [Cell.root.injEq] at h
   obtain ⟨rfl,_,rfl,rfl,rfl,rfl⟩:=h
   exact .inr ⟨_,_,_,_,hs2r,rfl,fun _=>rfl,fun h=>h,.inr (.inl (Nat.lt_succ_self _))⟩
  ·refine .inr ⟨d',dep',frz',ver',(hs2 r' er).trans h,rfl,fun _=>rfl,fun h=>h,.inl ⟨rfl,rfl,rfl,fun q b hb=>hw b (g1.col.lt b _ hb) (fun hc=>by rw [hb] at hc;simp only [Option.some.injEq,Prod.mk.injEq] at hc;exact er hc.2.1),fun q b hl hq => ?_⟩⟩
   rcases ownS_lev hq with ⟨h1,h2⟩ | ⟨h1,h2⟩
   ·simp only [ownS,h1,if_true];exact hkeep b _ _ _ h2 ⟨_,_,_,_,_,_,h⟩
   ·simp only [ownS,Nat.not_lt.2 h1,if_false];exact hnone b h2 hl
 ·have er:r'≠r:=fun e=>by subst e;rw [hroot] at h;cases h
  exact (hs2 r' er).trans h
 ·simp only [State.put]
  rw [State.set_other _ _ (fun h=>ht (by rw [sl_inj h])),State.set_other _ _ (ak_sl r t).symm,State.set_other _ _ (sl_rt t r)]
 ·injection hd' with hd'
  subst hd'
  refine ⟨hd,?_⟩
  have e1:(s1.put [(rt r,Cell.root k dd dep box false (ver+1)),(ak r,.dead),(sl d,.apd r p (ver+1) e L)]) (sl d)=.apd r p (ver+1) e L:=by simp only [State.put];exact State.set_same _ _ _
  rw [e1]
  simp only [CellOk]
  rw [hs2r]
  exact ⟨Nat.le_refl _,fun _=>⟨hakr,cs',hv,hval⟩⟩
 ·by_cases er:r'=r
  ·subst er
   rw [hs2r]
   have hro:=g1.roots r'
   rw [hroot] at hro
   refine ⟨hrep,fun hbx => ?_⟩
   obtain ⟨⟨cs,T,h1,h2⟩,h3⟩:=hro.2 hbx
   simp only [Bool.false_eq_true,if_false] at h3
   refine ⟨⟨cs,T,?_,h2⟩,?_⟩
   ·exact (hw _ (g1.col.lt _ _ h3) (by rw [h3];simp)).trans h1
   ·simp only [Bool.false_eq_true,if_false]
    exact hkeep _ _ _ _ h3 hlive
  ·rw [hs2 r' er]
   cases hc:s1 (rt r') with
   | root k0 d0 dep0 box frz ver0=>
    have hk:=g1.roots r'
    rw [hc] at hk
    exact RootOk.keep hk (fun b hb hl=>⟨hnone b hb hl,hw b hl (by rw [hb];simp)⟩) rfl rfl (fun b f q hb=>⟨hkeep b f r' q hb ⟨_,_,_,_,_,_,hc⟩,hw b (g1.col.lt b _ hb) (fun hc=>by rw [hb] at hc;simp only [Option.some.injEq,Prod.mk.injEq] at hc;exact er hc.2.1)⟩)
   | _=>trivial
 ·simp only [reφ] at hx
  split at hx
  ·rename_i hl
   cases hb:G1.φ b with
   | none=>rw [hb] at hx;simp at hx
   | some y=>
    rw [hb] at hx
    rcases g1.col.col b y hb with e' | ⟨h1,h2⟩
    ·subst e'
     simp only [Option.bind_some,moveT_far,Option.some.injEq] at hx
     exact .inl hx.symm
    ·exact .inr ⟨h1,hcw b h2⟩
  ·split at hx
   ·rename_i e'
    subst e'
    exact .inr (hnb x hx)
   ·simp at hx
 ·simp only [reφ] at hx
  split at hx
  ·omega
  ·split at hx
   ·rename_i e'
    subst e'
    exact (hnb x hx).2.lt
   ·simp at hx
 ·have hb:=g1.col.out b hx
  have hl:=g1.col.lt b _ hb
  simp only [reφ,hl,if_true,hb,Option.bind_some,moveT_far]
theorem box_soft (S:Set_ P Γ Kp B0 n G s a w o) {s1:State} {G1:Gh} (g1:GOk Kp G1 s1 a w) {d:Nat} (hd:d<a.tmps.size) {e:Kd} {L:List e.den} {k:Kd} {dd:k.den} {dep ver r:Nat} {box:Bool} {p:Path} (hroot:s1 (rt r)=.root k dd dep box false ver)
  (M:Nat->Path->Option Path) {nb:Option (Bool×Nat×Path)} (hw:∀b,b<w.heap.size->G1.φ b≠some (false,r,p)->w'.heap[b]? = w.heap[b]?)
  (hcw:∀b:Nat,Live w b->Live w' b)
  (hsz:w.heap.size<=w'.heap.size) (hnb:∀x,nb=some x -> ¬Kp.K w.heap.size/\Live w' (w.heap.size))
  (hno:s1 (ak r)=.none) (hsub:∀p x,getP p k dd=some x->okP p k dd->subC w' p k (G1.C r)=subC w p k (G1.C r) /\ ∀h,subA w' p k (G1.C r) h=subA w p k (G1.C r) h)
  (hrep:Rep w' (ownS (reφ G1.φ (moveT s1 r dep M) w.heap.size nb) r dep) k [] (G1.C r) dd) {v':Value} {cs':List Value} (hv:v'=mkVal (.slice e) cs')
  (hval:Rep w' (ownS (reφ G1.φ (moveT s1 r dep M) w.heap.size nb) r dep) (.slice e) p cs' L) :
  ∃G',GOk Kp G' (s1.put [(ak r,Cell.dead),(sl d,Cell.apd r p ver e L)]) (a.put (some d) v') w':=by
 have hlive:∃k d dep box frz ver,s1 (rt r)=.root k d dep box frz ver:=⟨_,_,_,_,_,_,hroot⟩
 have hs2:∀r',r'≠r->(s1.put [(ak r,Cell.dead),(sl d,Cell.apd r p ver e L)]) (rt r')=s1 (rt r'):=fun r' h=>by
  simp only [State.put]
  rw [State.set_other _ _ (sl_rt d r').symm,State.set_other _ _ (ak_rt r r').symm]
 have hs2r:(s1.put [(ak r,Cell.dead),(sl d,Cell.apd r p ver e L)]) (rt r)=.root k dd dep box false ver:=by
  simp only [State.put]
  rw [State.set_other _ _ (sl_rt d r).symm,State.set_other _ _ (ak_rt r r).symm];exact hroot
 have hak:∀r',s1 (ak r')≠.none->(s1.put [(ak r,Cell.dead),(sl d,Cell.apd r p ver e L)]) (ak r')≠.none:=fun r' h=>by
  simp only [State.put]
  rw [State.set_other _ _ (ak_sl r' d)]
  by_cases er:r'=r
  ·subst er;rw [State.set_same];exact fun h=>by cases h
  ·rw [State.set_other _ _ (fun e=>er (ak_inj e))];exact h
 have hakr:(s1.put [(ak r,Cell.dead),(sl d,Cell.apd r p ver e L)]) (ak r)≠.none:=by
  simp only [State.put]
  rw [State.set_other _ _ (ak_sl r d),State.set_same]
  exact fun h=>by cases h
 have hnone:∀b,G1.φ b=none->b<w.heap.size->reφ G1.φ (moveT s1 r dep M) w.heap.size nb b=none:=fun b h hl=>by simp [reφ,hl,h]
 have hkeep:∀b f r' q,G1.φ b=some (f,r',q)->(∃k d dep box frz ver,s1 (rt r')=.root k d dep box frz ver)->reφ G1.φ (moveT s1 r dep M) w.heap.size nb b=some (f,r',q):=fun b f r' q h hr=>by
  have hl:=g1.col.lt b _ h
  simp only [reφ,hl,if_true,h,Option.bind_some]
  exact moveT_live f r' q hr
 refine ⟨⟨reφ G1.φ (moveT s1 r dep M) w.heap.size nb,G1.C,G1.β⟩,g1.step ⟨fun b hb hl=>⟨hnone b hb hl,hw b hl (by rw [hb];simp)⟩,fun r' k' d' dep' box' frz' ver' h => ?_,fun r' h => ?_,hak⟩ (some d) v' (fun t ht => ?_) (fun d' hd' => ?_) (fun r' => ?_) ⟨fun b x hx => ?_,fun b x hx => ?_,fun b hx => ?_⟩⟩
 ·by_cases er:r'=r
  ·subst er
   rw [hroot] at h
   simp only [Cell.root.injEq] at h
   obtain ⟨rfl,h3,rfl,rfl,rfl,rfl⟩:=h
   have h3:=eq_of_heq h3
   subst h3
   exact .inr ⟨_,_,_,_,hs2r,rfl,fun _=>rfl,fun h=>h,.inr (.inr ⟨rfl,rfl,rfl,hno,hsub⟩)⟩
  ·refine .inr ⟨d',dep',frz',ver',(hs2 r' er).trans h,rfl,fun _=>rfl,fun h=>h,.inl ⟨rfl,rfl,rfl,fun q b hb=>hw b (g1.col.lt b _ hb) (fun hc=>by rw [hb] at hc;simp only [Option.some.injEq,Prod.mk.injEq] at hc;exact er hc.2.1),fun q b hl hq => ?_⟩⟩
   rcases ownS_lev hq with ⟨h1,h2⟩ | ⟨h1,h2⟩
   ·simp only [ownS,h1,if_true];exact hkeep b _ _ _ h2 ⟨_,_,_,_,_,_,h⟩
   ·simp only [ownS,Nat.not_lt.2 h1,if_false];exact hnone b h2 hl
 ·have er:r'≠r:=fun e=>by subst e;rw [hroot] at h;cases h
  exact (hs2 r' er).trans h
 ·simp only [State.put]
  rw [State.set_other _ _ (fun h=>ht (by rw [sl_inj h])),State.set_other _ _ (ak_sl r t).symm]
 ·injection hd' with hd'
  subst hd'
  refine ⟨hd,?_⟩
  have e1:(s1.put [(ak r,Cell.dead),(sl d,Cell.apd r p ver e L)]) (sl d)=.apd r p ver e L:=by simp only [State.put];exact State.set_same _ _ _
  rw [e1]
  simp only [CellOk]
  rw [hs2r]
  exact ⟨Nat.le_refl _,fun _=>⟨hakr,cs',hv,hval⟩⟩
 ·by_cases er:r'=r
  ·subst er
   rw [hs2r]
   have hro:=g1.roots r'
   rw [hroot] at hro
   refine ⟨hrep,fun hbx => ?_⟩
   obtain ⟨⟨cs,T,h1,h2⟩,h3⟩:=hro.2 hbx
   simp only [Bool.false_eq_true,if_false] at h3
   refine ⟨⟨cs,T,?_,h2⟩,?_⟩
   ·exact (hw _ (g1.col.lt _ _ h3) (by rw [h3];simp)).trans h1
   ·simp only [Bool.false_eq_true,if_false]
    exact hkeep _ _ _ _ h3 hlive
  ·rw [hs2 r' er]
   cases hc:s1 (rt r') with
   | root k0 d0 dep0 box frz ver0=>
    have hk:=g1.roots r'
    rw [hc] at hk
    exact RootOk.keep hk (fun b hb hl=>⟨hnone b hb hl,hw b hl (by rw [hb];simp)⟩) rfl rfl (fun b f q hb=>⟨hkeep b f r' q hb ⟨_,_,_,_,_,_,hc⟩,hw b (g1.col.lt b _ hb) (fun hc=>by rw [hb] at hc;simp only [Option.some.injEq,Prod.mk.injEq] at hc;exact er hc.2.1)⟩)
   | _=>trivial
 ·simp only [reφ] at hx
  split at hx
  ·rename_i hl
   cases hb:G1.φ b with
   | none=>rw [hb] at hx;simp at hx
   | some y=>
    rw [hb] at hx
    rcases g1.col.col b y hb with e' | ⟨h1,h2⟩
    ·subst e'
     simp only [Option.bind_some,moveT_far,Option.some.injEq] at hx
     exact .inl hx.symm
    ·exact .inr ⟨h1,hcw b h2⟩
  ·split at hx
   ·rename_i e'
    subst e'
    exact .inr (hnb x hx)
   ·simp at hx
 ·simp only [reφ] at hx
  split at hx
  ·omega
  ·split at hx
   ·rename_i e'
    subst e'
    exact (hnb x hx).2.lt
   ·simp at hx
 ·have hb:=g1.col.out b hx
  have hl:=g1.col.lt b _ hb
  simp only [reφ,hl,if_true,hb,Option.bind_some,moveT_far]
theorem append_box (S:Set_ P Γ Kp B0 n G s a w o) {s1:State} {G1:Gh} (g1:GOk Kp G1 s1 a w) {d:Nat} (hd:o.dst=some d) {e:Kd} {t te:TypeId} {i:TypeInfo} {z:Value}
  (ut:P.underlying t=some (.slice te)) (hr:Row P te e i z) (he:0<e.size) {l m:List e.den} {k:Kd} {dd:k.den} {dep ver r:Nat} {box:Bool} {p:Path} {sv:Value} {W0:Writes} (hroot:s1 (rt r)=.root k dd dep box false ver)
  (hget:getP p k dd=some ⟨.slice e,l⟩) (hokp:okP p k dd) (hsv:sv=mkVal (.slice e) (subC w p k (G1.C r))) (hdep:lev p+1<=dep)
  (fin:d<a.tmps.size -> ∀(w':World) (M:Nat->Path->Option Path) (nb:Option (Bool×Nat×Path)),(∀b,b<w.heap.size->G1.φ b≠some (false,r,p)->w'.heap[b]? = w.heap[b]?)->(∀b:Nat,Live w b->Live w' b)->w.heap.size<=w'.heap.size->(∀x,nb=some x -> ¬Kp.K w.heap.size/\Live w' (w.heap.size)) ->
   (∀p x,getP p k dd=some x->okP p k dd->subC w' p k (G1.C r)=subC w p k (G1.C r) /\ ∀h,subA w' p k (G1.C r) h=subA w p k (G1.C r) h) ->
   Rep w' (ownS (reφ G1.φ (moveT s1 r dep M) w.heap.size nb) r dep) k [] (G1.C r) dd -> ∀(v':Value) (cs':List Value),v'=mkVal (.slice e) cs'->Rep w' (ownS (reφ G1.φ (moveT s1 r dep M) w.heap.size nb) r dep) (.slice e) p cs' (l++m) -> ∃G',GOk Kp G' (s1.put W0) (a.put (some d) v') w')
  (N:Nat->Path->Option Path) {news:List Value} {xb:Option Addr} {xCap:Nat} (hnl:news.length=m.length*e.size)
  (helN:∀j (h:j<m.length),∃dp ro,Holds G1 w s1 ⟨e,m.get ⟨j,h⟩⟩ ((news.drop (j*e.size)).take e.size) dp ro/\dep<=lev p+1+dp /\ ∀r' p',ro=some (r',p')->r'≠r /\ ∀q,N r' (p'++q)=some (.i (l.length+j)::q))
  (hx:∀w1:World,w1.heap=w.heap->(Builtin.firstCells e.size m.length (.slice xb m.length xCap)).run P w1=.ok news.toArray w1)
  (h1:∀u∈news,u.oneCell'=true) (hlim:l.length+m.length<=lim)
  (hexec:∀v w',(Builtin.append_ #[t,t] o.type #[sv,.slice xb m.length xCap]).run P w=.ok v w'->(execOp a.eval o).run P w=.ok (.value v) w') :
  o.wp P a w (fun a' w'=>Inv P Kp B0 n (s1.put W0) a' w') Q:=by
 have hro:=g1.roots r
 rw [hroot] at hro
 have hrep:Rep w (ownS G1.φ r dep) (.slice e) p (subC w p k (G1.C r)) l:=by
  have:=getP_rep hro.1 hokp hget
  rwa [List.nil_append] at this
 have hlen:=hrep.length
 obtain ⟨v,hv⟩:∃v,subC w p k (G1.C r)=[v]:=by
  match hq:subC w p k (G1.C r),hlen with
  | [v],_=>exact ⟨v,rfl⟩
 have hrep0:=hrep
 rw [hv] at hrep
 obtain ⟨ad,cap,olds,e1,e2,e3,e4,e5,e6,e7⟩:=slice_cells (P:=P) he hrep
 have hsv':sv=.slice ad l.length cap:=by rw [hsv,hv,<- e1];rfl
 rw [e1] at e3
 subst hsv'
 rw [<- hr.size] at e3 hx
 have hdn:d<a.tmps.size:=by rw [S.inv.size];exact S.dst d hd
 have hlive:∃k d dep box frz ver,s1 (rt r)=.root k d dep box frz ver:=⟨_,_,_,_,_,_,hroot⟩
 let M:Nat->Path->Option Path:=fun r' q=>(N r' q).map (p ++ ·)
 have hM:∀j (hj:j<m.length) (ro:Option (Nat×Path)),(∀r' p',ro=some (r',p')->r'≠r /\ ∀q,N r' (p'++q)=some (.i (l.length+j)::q)) -> ∀r' p',ro=some (r',p') -> ∀q,M r' (p'++q)=some ((p++[.i (l.length+j)])++q):=by
  intro j hj ro h r' p' hr' q
  simp [M,(h r' p' hr').2 q]
 have hpi:∀j,lev (p++[St.i j])=lev p+1:=fun j=>by rw [lev_append];rfl
 -- old elements, by the owners told anew, where their blocks stay
 have helO:∀(w':World) (nb:Option (Bool×Nat×Path)),(∀b,b<w.heap.size->G1.φ b≠some (false,r,p)->w'.heap[b]? = w.heap[b]?) -> ∀j (h:j<l.length),Rep w' (ownS (reφ G1.φ (moveT s1 r dep M) w.heap.size nb) r dep) e (p++[.i j]) ((olds.drop (j*e.size)).take e.size) (l.get ⟨j,h⟩):=by
  intro w' nb hw j hj
  refine (e4 j hj).frame fun q b hq hs hl => ?_
  rcases ownS_lev hs with ⟨k1,k2⟩ | ⟨k1,k2⟩
  ·refine ⟨hw b hl (fun hc => ?_),?_⟩
   ·rw [k2] at hc
    simp only [Option.some.injEq,Prod.mk.injEq,true_and] at hc
    subst hc
    have:=hq.length_le
    simp at this
    omega
   ·simp only [ownS,k1,if_true,reφ,hl,k2,Option.bind_some]
    exact moveT_live _ _ _ hlive
  ·refine ⟨hw b hl (by rw [k2];simp),?_⟩
   simp only [ownS,Nat.not_lt.2 k1,if_false,reφ,hl,if_true,k2,Option.bind_none]
 -- the whole, the part being so
 have hwhole:∀(w':World) (nb:Option (Bool×Nat×Path)),(∀b,b<w.heap.size->G1.φ b≠some (false,r,p)->w'.heap[b]? = w.heap[b]?)->Rep w' (ownS (reφ G1.φ (moveT s1 r dep M) w.heap.size nb) r dep) (.slice e) p [.slice ad l.length cap] l ->
   Rep w' (ownS (reφ G1.φ (moveT s1 r dep M) w.heap.size nb) r dep) k [] (G1.C r) dd:=by
  intro w' nb hw hpart
  refine rep_grow hro.1 hokp hget (fun q b hq hs hl => ?_) (by rw [List.nil_append,hv,e1];exact hpart)
  rcases ownS_lev hs with ⟨k1,k2⟩ | ⟨k1,k2⟩
  ·refine ⟨?_,fun hne=>hw b hl (fun hc => ?_)⟩
   ·simp only [ownS,k1,if_true,reφ,hl,k2,Option.bind_some]
    exact moveT_live _ _ _ hlive
   ·rw [k2] at hc
    simp only [Option.some.injEq,Prod.mk.injEq,true_and] at hc
    exact hne (by simpa using hc)
  ·refine ⟨?_,fun _=>hw b hl (by rw [k2];simp)⟩
   simp only [ownS,Nat.not_lt.2 k1,if_false,reφ,hl,if_true,k2,Option.bind_none]
 by_cases hroom:l.length+m.length<=cap
 ·rcases e7 with rfl | ⟨b,off,rfl,hS,hB,hcl⟩
  ·have hl0:l.length=0:=by omega
   have hm0:m.length=0:=by omega
   have hl:l=[]:=List.length_eq_zero_iff.1 hl0
   have hm:m=[]:=List.length_eq_zero_iff.1 hm0
   subst hl hm
   have hn0:news=[]:=by
    apply List.length_eq_zero_iff.1
    rw [hnl]
    simp
   subst hn0
   have hrun:=run_append_none (t:=t) (ty:=o.type) ut hr.info ad xb xCap (w:=w) (fun w1 h=>by simpa using hx w1 h)
   refine wp_new hd (hexec _ _ hrun) ?_
   have hpart:∀nb,Rep w (ownS (reφ G1.φ (moveT s1 r dep M) w.heap.size nb) r dep) (.slice e) p [.slice ad 0 0] []:=fun nb=>by simp [Rep]
   obtain ⟨G',g'⟩:=fin hdn w M none (fun _ _ _=>rfl) (fun b h=>h) (Nat.le_refl _) (fun x hx=>by cases hx) (fun _ _ _ _=>⟨rfl,fun _=>rfl⟩) (hwhole w none (fun _ _ _=>rfl) (hpart none)) (.slice ad 0 0) [.slice ad 0 0] rfl (hpart none)
   exact ⟨by simp [Act.put,S.inv.defers],by simp [Act.put,S.inv.size],S.inv.base,G',g'⟩
  ·have hφ:G1.φ b=some (false,r,p):=by
    rcases ownS_lev hS with ⟨_,h⟩ | ⟨h,_⟩
    ·exact h
    ·omega
   obtain ⟨hkb,cur,T,fr,hb,hth⟩:=g1.mine hφ (.inl rfl)
   obtain ⟨cs0,T0,fr0,hb0,hfit0⟩:=hB
   rw [hb] at hb0
   injection hb0 with hb0
   injection hb0 with hb0 _ _
   subst hb0
   have hle:(l.length+m.length)*e.size<=cap*e.size:=Nat.mul_le_mul_right _ hroom
   rw [Nat.add_mul] at hle
   have hfit:off+l.length*e.size+news.length<=cur.size:=by rw [hnl];omega
   have hrun:=run_append_into (t:=t) (ty:=o.type) ut hr.info b off l.length cap xb m.length xCap news hx hb hth h1 hroom (by rw [hr.size];exact hfit)
   rw [hr.size] at hrun
   have hput:=setRow_put hb hfit (x:=news)
   refine wp_new hd (hexec _ _ hrun) ?_
   generalize hW:w.setRow b (cur.toList.take (off+l.length*e.size)++news++cur.toList.drop (off+l.length*e.size+news.length)).toArray=W at hput |-
   have hWsz:W.heap.size=w.heap.size:=by rw [<- hW];exact setRow_size _ _ _
   have hWb:W.heap[b]? = some (.cells (cur.toList.take (off+l.length*e.size)++news++cur.toList.drop (off+l.length*e.size+news.length)).toArray T fr):=by rw [<- hW];exact setRow_heap w b cur _ T _ hb
   have hbl:b<w.heap.size:=(Array.getElem?_eq_some_iff.1 hb).1
   have hw:∀b',b'<w.heap.size->G1.φ b'≠some (false,r,p)->W.heap[b']? = w.heap[b']?:=fun b' _ hne=>hput.other b' (fun eq=>hne (eq▸hφ))
   have hSb:ownS (reφ G1.φ (moveT s1 r dep M) w.heap.size none) r dep p b:=by
    have:lev p<dep:=by omega
    simp only [ownS,this,if_true,reφ,hbl,hφ,Option.bind_some]
    exact moveT_live _ _ _ hlive
   have hcO:∀j,j<l.length->cellsAt W b (off+j*e.size) e.size=(olds.drop (j*e.size)).take e.size:=fun j hj=>by
    have:(j+1)*e.size<=l.length*e.size:=Nat.mul_le_mul_right _ hj
    rw [Nat.add_mul] at this
    rw [hput.cells_other (.inr (.inl (by omega))),hcl j hj]
   have hpart:Rep W (ownS (reφ G1.φ (moveT s1 r dep M) w.heap.size none) r dep) (.slice e) p [.slice (some ⟨b,off,none⟩) l.length cap] l:=by
    simp only [Rep]
    refine .inr ⟨b,off,cap,rfl,e6,hSb,hput.block ⟨cur,T,_,hb,hfit0⟩,fun j hj => ?_⟩
    rw [hcO j hj]
    exact helO W none hw j hj
   have hval:Rep W (ownS (reφ G1.φ (moveT s1 r dep M) w.heap.size none) r dep) (.slice e) p [.slice (some ⟨b,off,none⟩) (l.length+m.length) cap] (l++m):=by
    simp only [Rep]
    refine .inr ⟨b,off,cap,by simp,by simpa using hroom,hSb,hput.block ⟨cur,T,_,hb,hfit0⟩,fun j hj => ?_⟩
    rw [List.length_append] at hj
    by_cases hjl:j<l.length
    ·rw [hcO j hjl]
     have:=helO W none hw j hjl
     simpa [List.getElem_append_left hjl] using this
    ·obtain ⟨j',rfl⟩:∃j',j=l.length+j':=⟨j-l.length,by omega⟩
     have hj':j'<m.length:=by omega
     have hj2:(j'+1)*e.size<=m.length*e.size:=Nat.mul_le_mul_right _ hj'
     rw [Nat.add_mul] at hj2
     have hc:cellsAt W b (off+(l.length+j')*e.size) e.size=(news.drop (j'*e.size)).take e.size:=by
      rw [show off+(l.length+j')*e.size=(off+l.length*e.size)+j'*e.size by rw [Nat.add_mul];omega]
      rw [<- cellsAt_chunk (n:=news.length) (by omega),hput.cells_same]
     rw [hc]
     obtain ⟨dp,ro,k1,k2,k3⟩:=helN j' hj'
     have k1':=Holds.world (w':=W) k1 (fun b' hl' hn=>hw b' hl' (by rw [hn];simp)) (fun b' r' p' q hl' hro' hb2=>hw b' hl' (fun hc=>by
      rw [hb2] at hc
      simp only [Option.some.injEq,Prod.mk.injEq,true_and] at hc
      exact (k3 r' p' hro').1 hc.1))
     have:=holds_move (w':=W) (id:=r) (dep:=dep) (M:=M) (pre:=p++[.i (l.length+j')]) (nb:=none) k1' (fun _ _=>rfl) (by rw [hpi];omega) (hM j' hj' ro k3)
     rw [hWsz] at this
     simpa [List.getElem_append_right] using this
   obtain ⟨G',g'⟩:=fin hdn W M none hw (fun b' h=>by
     by_cases eq:b'=b
     ·subst eq;exact ⟨_,_,_,hWb,hth.imp (fun h=>h) fun h=>by rw [<- seg_size hfit];exact h⟩
     ·exact h.same (hput.other b' eq)) (by rw [hWsz];exact Nat.le_refl _) (fun x hx=>by cases hx) (fun p' x' hg' ho'=>by
     refine sub_grow (w':=W) (P:=p) (b:=b) (off:=off) (cap:=cap) (e0:=e) (l0:=l) (fun j hj=>by rw [hcO j hj,hcl j hj]) hro.1 ho' hg' (fun q' b' _ hs' hl' hne=>hw b' hl' (fun hc => ?_)) (fun r' hr' => ?_)
     ·rcases ownS_lev hs' with ⟨_,k2⟩ | ⟨_,k2⟩
      ·rw [k2] at hc
       simp only [Option.some.injEq,Prod.mk.injEq,true_and] at hc
       exact hne hc
      ·rw [k2] at hc;cases hc
     ·rw [List.nil_append] at hr'
      subst hr'
      exact ⟨hget,by rw [hv,e1]⟩) (hwhole W none hw hpart) (.slice (some ⟨b,off,none⟩) (l.length+m.length) cap) [.slice (some ⟨b,off,none⟩) (l.length+m.length) cap] rfl hval
   refine ⟨by simp [Act.put,S.inv.defers],by simp [Act.put,S.inv.size],?_,G',g'⟩
   have hbase:=S.inv.base
   exact ⟨by rw [<- hW];exact hbase.os,by rw [<- hW];exact hbase.tape,by rw [<- hW];exact hbase.output,by rw [hWsz];exact hbase.size,fun b' hk=>(hput.other b' fun eq=>hkb (eq▸hk)).trans (hbase.kept b' hk),hbase.old,hbase.gl⟩
 ·have hbytes:=hr.bytes
  have hfit:Builtin.nextslicecap (l.length+m.length) cap*i.bytes<=281474976710656:=by
   refine growslice_fits (by omega) ?_
   have:(l.length+m.length)*i.bytes<=lim*128:=Nat.mul_le_mul hlim hbytes
   unfold lim at this
   omega
  have hrun:=run_append_grown (t:=t) (ty:=o.type) (w:=w) ut hr.info hr.zero ad xb l.length cap m.length xCap olds news e3 hx (by omega) (by unfold lim at hlim;omega) hfit
  have hcapge:l.length+m.length<=grownCap w (l.length+m.length) cap te:=grownCap_ge w _ _ _
  have hzc:z.cells=(zeroC e).toArray:=zcells_arr hr
  generalize hcp:grownCap w (l.length+m.length) cap te=cp at hrun hcapge
  refine wp_new hd (hexec _ _ hrun) ?_
  have hsz2:(olds.toArray++news.toArray++Builtin.zeroCells z.cells (cp-(l.length+m.length))).size=cp*e.size:=by
   have hzs:(Builtin.zeroCells z.cells (cp-(l.length+m.length))).size=(cp-(l.length+m.length))*e.size:=by
    rw [size_zeroCells,hzc,List.size_toArray,zeroC_length]
   simp only [Array.size_append,List.size_toArray,hzs,e2,hnl]
   rw [Nat.sub_mul,Nat.add_mul]
   have h2:(l.length+m.length)*e.size<=cp*e.size:=Nat.mul_le_mul_right _ hcapge
   rw [Nat.add_mul] at h2
   omega
  generalize hW:w.drew.alloc (.cells (olds.toArray++news.toArray++Builtin.zeroCells z.cells (cp-(l.length+m.length))) te)=W
  have hold:∀b,b<w.heap.size->W.heap[b]? = w.heap[b]?:=fun b hl=>by rw [<- hW];exact alloc_old w.drew _ b hl
  have hnew:W.heap[w.heap.size]? = some (.cells (olds.toArray++news.toArray++Builtin.zeroCells z.cells (cp-(l.length+m.length))) te (0,0)):=by rw [<- hW];exact alloc_new w.drew _
  have hw:∀b',b'<w.heap.size->G1.φ b'≠some (false,r,p)->W.heap[b']? = w.heap[b']?:=fun b' hl _=>hold b' hl
  have hlevp:lev p<dep:=by omega
  have hval:Rep W (ownS (reφ G1.φ (moveT s1 r dep M) w.heap.size (some (false,r,p))) r dep) (.slice e) p [.slice (some ⟨w.heap.size,0,none⟩) (l.length+m.length) cp] (l++m):=by
   simp only [Rep]
   refine .inr ⟨w.heap.size,0,cp,by simp,by simpa using hcapge,by simp [ownS,hlevp,reφ],⟨_,te,_,hnew,by rw [hsz2];omega⟩,fun j hj => ?_⟩
   have hc:cellsAt W w.heap.size (0+j*e.size) e.size=(((olds++news)++(Builtin.zeroCells z.cells (cp-(l.length+m.length))).toList).drop (j*e.size)).take e.size:=by
    unfold cellsAt
    rw [hnew,Nat.zero_add]
    simp
   rw [hc]
   rw [List.length_append] at hj
   by_cases hjl:j<l.length
   ·rw [List.append_assoc,chunk_append_l e2 hjl]
    have:=helO W (some (false,r,p)) hw j hjl
    simpa [List.getElem_append_left hjl] using this
   ·obtain ⟨j',rfl⟩:∃j',j=l.length+j':=⟨j-l.length,by omega⟩
    have hj':j'<m.length:=by omega
    rw [List.append_assoc,chunk_append_r e2,chunk_append_l hnl hj']
    obtain ⟨dp,ro,k1,k2,k3⟩:=helN j' hj'
    have:=holds_move (w':=W) (id:=r) (dep:=dep) (M:=M) (pre:=p++[.i (l.length+j')]) (nb:=some (false,r,p)) k1 hold (by rw [hpi];omega) (hM j' hj' ro k3)
    simpa [List.getElem_append_right] using this
  have hpart:Rep W (ownS (reφ G1.φ (moveT s1 r dep M) w.heap.size (some (false,r,p))) r dep) (.slice e) p [.slice ad l.length cap] l:=by
   rw [e1] at hrep
   refine hrep.frame fun q b _ hs hl=>⟨hold b hl,?_⟩
   rcases ownS_lev hs with ⟨k1,k2⟩ | ⟨k1,k2⟩
   ·simp only [ownS,k1,if_true,reφ,hl,k2,Option.bind_some]
    exact moveT_live _ _ _ hlive
   ·simp only [ownS,Nat.not_lt.2 k1,if_false,reφ,hl,if_true,k2,Option.bind_none]
  obtain ⟨G',g'⟩:=fin hdn W M (some (false,r,p)) hw (fun b' h=>h.same (hold b' h.lt)) (by rw [<- hW];simp) (fun x hx=>⟨S.inv.base.fresh,Live.of hnew⟩) (fun p' x' hg' ho'=>sub_same hro.1 ho' hg' fun _ b' _ hl'=>hold b' hl') (hwhole W _ hw hpart) (.slice (some ⟨w.heap.size,0,none⟩) (l.length+m.length) cp) [.slice (some ⟨w.heap.size,0,none⟩) (l.length+m.length) cp] rfl hval
  refine ⟨by simp [Act.put,S.inv.defers],by simp [Act.put,S.inv.size],?_,G',g'⟩
  rw [<- hW]
  exact S.inv.base.drew.alloc _
theorem append_ok (S:Set_ P Γ Kp B0 n G s a w o) {ags:Array Operand} {ts:Array TypeId} (ho:o.op=.call { callee:=.builtin .append,args:=ags,argTypes:=ts }) (h:(opD Γ id o).out s=some ws) (hok:dstOk o ws=true) :
  o.wp P a w (fun a' w'=>Inv P Kp B0 n (s.put ws) a' w') Q:=by
 unfold opD at h
 rw [ho] at h
 simp only at h
 split at h
 ·rename_i s' x t t' ha ht
  simp only [bif_out] at h
  rcases bif_some h with ⟨htt,h0⟩ | ⟨_,h0⟩
  ·have htt:=Nat.eq_of_beq_eq_true htt
   clear h
   subst htt
   have has:ags = #[s',x]:=by apply Array.ext';simpa using ha
   have hts:ts = #[t,t]:=by apply Array.ext';simpa using ht
   subst has hts
   have hexec:∀v w',(Builtin.append_ #[t,t] o.type #[a.eval s',a.eval x]).run P w=.ok v w'->(execOp a.eval o).run P w=.ok (.value v) w':=by
    intro v w' hrun
    unfold execOp
    rw [ho]
    simp [resolve,invoke,builtin,hrun]
   simp only [appendR,Rd.out_bind,Option.bind_eq_some_iff] at h0
   obtain ⟨cs,h1,vs,h2,u,h3,h4⟩:=h0
   have hkt:=kindIs_ok h3
   have hcs:=rdOp_ok S.g h1
   obtain ⟨k,l⟩:=vs
   cases k with
   | slice e=>
    obtain ⟨te,u1,u2,u3⟩:=under_slice S.tab hkt
    obtain ⟨i,z,hr⟩:=row_of S.tab u2
    -- what the first operand is
    have hcst:∀k d,cs=.cst k d->l=[] /\ ∃sb,a.eval s'=.slice sb 0 0:=by
     intro k d hc
     subst hc
     simp only [look,Rd.out,Option.some.injEq,V.mk.injEq] at h2
     obtain ⟨rfl,h2⟩:=h2
     have h2:=eq_of_heq h2
     subst h2
     obtain ⟨c,c1,c2⟩:=hcs
     simp only [Rep] at c2
     rcases c2 with ⟨⟨sb,c2⟩,c3⟩ | ⟨_,_,_,_,_,c2,_⟩
     ·subst c2;exact ⟨c3,sb,c1⟩
     ·exact c2.elim
    have hal:∀r ver k0 d0 dep ver',cs=.al r [] ver->s (rt r)=.root k0 d0 dep false false ver'->s (rt r)=.root (.slice e) l dep false false ver'/\a.eval s'=mkVal (.slice e) (G.C r):=by
     intro r ver k0 d0 dep ver' hc hs
     subst hc
     simp only [look,Rd.out] at h2
     rw [hs] at h2
     simp only [CellOk] at hcs
     rw [hs] at hcs
     simp only [verB,Bool.true_or,Bool.not_false,noIdx,Bool.and_self,Bool.or_true,cond_true,getP,Rd.out_opt,Option.some.injEq,V.mk.injEq] at h2
     obtain ⟨rfl,h2⟩:=h2
     have h2:=eq_of_heq h2
     subst h2
     obtain ⟨y,y1,y2,y3⟩:=hcs.2 (.inr (by simp [noIdx]))
     simp only [getP,Option.some.injEq] at y1
     subst y1
     exact ⟨hs,by simpa [subC] using y3⟩
    have hbx:∀r p ver k0 d0 dep box ver',cs=.al r p ver->s (rt r)=.root k0 d0 dep box false ver'->getP p k0 d0=some ⟨.slice e,l⟩/\okP p k0 d0/\a.eval s'=mkVal (.slice e) (subC w p k0 (G.C r)):=by
     intro r p ver k0 d0 dep box ver' hc hs
     subst hc
     simp only [look,Rd.out] at h2
     rw [hs] at h2
     simp only [CellOk] at hcs
     rw [hs] at hcs
     simp only [bif_out,Rd.out_opt,Rd.out] at h2
     rcases bif_some h2 with ⟨hv,h2⟩ | ⟨_,h2⟩
     ·obtain ⟨y,y1,y2,y3⟩:=hcs.2 (verOk hv)
      rw [h2] at y1
      have y1:=Option.some.inj y1
      subst y1
      exact ⟨h2,y2,y3⟩
     ·cases h2
    simp only [bif_out] at h4
    rcases bif_some h4 with ⟨hf,h5⟩ | ⟨hf,h5⟩
    ·-- flat elements
     simp only [Rd.out_bind,Option.bind_eq_some_iff,Rd.out_opt] at h5
     obtain ⟨vx,h6,m,h7,h8⟩:=h5
     have h7:=cast?_eq h7
     subst h7
     obtain ⟨T,q,c,x1,x2⟩:=rdVt_ok S.g h6
     simp only [Rd.out] at h8
     split at h8
     ·rename_i hl
      have hl:=of_decide_eq_true hl
      have hc1:∃v,c=[v]:=by
       have:=x2.length
       match c,this with
       | [v],_=>exact ⟨v,rfl⟩
      obtain ⟨v,rfl⟩:=hc1
      obtain ⟨ad,cap,news,e1,e2,e3,e4,e5,e6,e7⟩:=slice_cells (P:=P) u3 x2
      have hxv:a.eval x=.slice ad m.length cap:=by rw [x1,e1];rfl
      rw [e1] at e3
      rw [hxv] at hexec
      have helN:∀(s1:State) (dep:Nat) j (h:j<m.length),Holds G w s1 ⟨e,m.get ⟨j,h⟩⟩ ((news.drop (j*e.size)).take e.size) dep none:=fun s1 dep j h=>.free _ ((e4 j h).flat w _ [] hf)
      cases cs with
      | cst k0 d0=>
       obtain ⟨rfl,sb0,hsv⟩:=hcst k0 d0 rfl
       obtain ⟨hid,rfl⟩:=newAt_ok h8
       obtain ⟨d,hd⟩:=dst_some (c:=.al id [] 0) hok (by simp)
       rw [hsv] at hexec
       rw [hd]
       exact append_cst S S.g hd hid u1 hr u3 (by omega) (fun _ _=>none) e2 (fun j h=>⟨99,none,helN s 99 j h,by omega,fun _ _ h=>by cases h⟩) e3 e5 (by simpa using hl) hexec
      | al r p ver=>
       simp only [Rd.out] at h8
       cases hs:s (rt r) with
       | root k0 d0 dep box frz ver'=>
        rw [hs] at h8
        cases box with
        | false=>
         cases frz with
         | true=>simp only [Rd.out,bif_out,reduceCtorEq] at h8
         | false=>
          simp only [Rd.out,bif_out,reduceCtorEq] at h8
          rcases bif_some h8 with ⟨hd1,h9⟩ | ⟨_,h9⟩
          ·simp only [Bool.and_eq_true,List.isEmpty_iff,decide_eq_true_eq] at hd1
           obtain ⟨rfl,hd1⟩:=hd1
           obtain ⟨hs',hsv⟩:=hal r ver k0 d0 dep ver' rfl hs
           obtain ⟨hid,rfl⟩:=newAt_ok h9
           obtain ⟨d,hd⟩:=dst_some (c:=.al id [] 0) hok (by simp)
           rw [hd]
           exact append_al S S.g hd hid u1 hr u3 hs' hsv hd1 (Nat.le_refl _) (fun _ _=>none) e2 (fun j h=>⟨dep,none,helN s dep j h,by omega,fun _ _ h=>by cases h⟩) e3 e5 hl hexec
          ·rcases bif_some h9 with ⟨hd1,h9⟩ | ⟨_,h9⟩
           ·simp only [Bool.and_eq_true,decide_eq_true_eq] at hd1
            obtain ⟨hget,hokp,hsv⟩:=hbx r p ver k0 d0 dep false ver' rfl hs
            have h9:=Option.some.inj h9
            subst h9
            obtain ⟨d,hd⟩:=dst_some (c:=.apd r p (ver'+1) e (l++m)) hok (by simp)
            rw [hd]
            exact append_box S S.g hd u1 hr u3 hs hget hokp hsv hd1.2 (fun hdn w' M nb h1 h2 h3 h4 _ h5 v' cs' h6 h7=>box_step S S.g hdn hs M h1 h2 h3 h4 h5 h6 h7) (fun _ _=>none) e2 (fun j h=>⟨dep,none,helN s dep j h,by omega,fun _ _ h=>by cases h⟩) e3 e5 hl hexec
           ·simp at h9
        | true=>
         cases frz with
         | true=>simp only [Rd.out,bif_out,reduceCtorEq] at h8
         | false=>
          simp only [Rd.out,bif_out,reduceCtorEq] at h8
          rcases bif_some h8 with ⟨hd1,h9⟩ | ⟨_,h9⟩
          ·simp only [decide_eq_true_eq] at hd1
           obtain ⟨hget,hokp,hsv⟩:=hbx r p ver k0 d0 dep true ver' rfl hs
           split at h9
           ·rename_i ha
            have h9:=Option.some.inj h9
            subst h9
            obtain ⟨d,hd⟩:=dst_some (c:=.apd r p ver' e (l++m)) hok (by simp)
            rw [hd]
            exact append_box S S.g hd u1 hr u3 hs hget hokp hsv hd1 (fun hdn w' M nb h1 h2 h3 h4 h8 h5 v' cs' h6 h7=>box_soft S S.g hdn hs M h1 h2 h3 h4 ha h8 h5 h6 h7) (fun _ _=>none) e2 (fun j h=>⟨dep,none,helN s dep j h,by omega,fun _ _ h=>by cases h⟩) e3 e5 hl hexec
           ·have h9:=Option.some.inj h9
            subst h9
            obtain ⟨d,hd⟩:=dst_some (c:=.apd r p (ver'+1) e (l++m)) hok (by simp)
            rw [hd]
            exact append_box S S.g hd u1 hr u3 hs hget hokp hsv hd1 (fun hdn w' M nb h1 h2 h3 h4 _ h5 v' cs' h6 h7=>box_step S S.g hdn hs M h1 h2 h3 h4 h5 h6 h7) (fun _ _=>none) e2 (fun j h=>⟨dep,none,helN s dep j h,by omega,fun _ _ h=>by cases h⟩) e3 e5 hl hexec
          ·simp at h9
       | _=>rw [hs] at h8;simp [Rd.out] at h8
      | _=>simp [Rd.out] at h8
     ·simp at h8
    ·-- elements with memory behind them
     simp only [Rd.out_bind,Option.bind_eq_some_iff,Rd.out_opt] at h5
     obtain ⟨cx,h6,gx,h6',m,h7,h8⟩:=h5
     have h7:=cast?_eq h7
     have hg:=got_ok S.g (rdOp_ok S.g h6) h6'
     simp only [Rd.out] at h8
     split at h8
     ·rename_i hl
      have hl:=of_decide_eq_true hl
      -- the second operand, given up
      have given:∀own:Bool,∃(G1:Gh) (v:Value) (ad:Option Addr) (cap:Nat) (news:List Value),GOk Kp G1 (s.put (leave own gx)) a w/\G1.C=G.C/\a.eval x=.slice ad m.length cap/\news.length=m.length*e.size /\
        (∀w1:World,w1.heap=w.heap->(Builtin.firstCells e.size m.length (.slice ad m.length cap)).run P w1=.ok news.toArray w1)/\(∀u∈news,u.oneCell'=true) /\
        Holds G1 w (s.put (leave own gx)) ⟨.slice e,m⟩ [v] (bif own then gx.dp else 0) (fromOf own gx) /\
        (∀(S:OwnS) (q:Path) j (h:j<m.length),Rep w S (.slice e) q [v] m->Rep w S e (q++[.i j]) ((news.drop (j*e.size)).take e.size) (m.get ⟨j,h⟩)):=by
       intro own
       obtain ⟨G1,c,g1,x1,hh,eC,eβ,n1,o1,m1⟩:=leave_ok S.g hg own
       rw [h7] at hh x1
       have hc1:∃v,c=[v]:=by
        have:=hh.length
        match c,this with
        | [v],_=>exact ⟨v,rfl⟩
       obtain ⟨v,rfl⟩:=hc1
       obtain ⟨T,q,x2⟩:=hh.rep
       simp only at x2
       obtain ⟨ad,cap,news,e1,e2,e3,e4,e5,e6,e7⟩:=slice_cells (P:=P) u3 x2
       refine ⟨G1,v,ad,cap,news,g1,eC,by rw [x1,e1];rfl,e2,by rw [e1] at e3;exact e3,e5,hh,fun T' q' j hj hrep => ?_⟩
       subst e1
       simp only [Rep] at hrep
       rcases hrep with ⟨_,hn⟩ | ⟨b,off,cap',k1,k2,k3,k4,k5⟩
       ·subst hn;simp at hj
       ·simp only [List.cons.injEq,Value.slice.injEq,and_true] at k1
        obtain ⟨rfl,_,rfl⟩:=k1
        rcases e7 with hn | ⟨b',off',f1,f2,f3,f4⟩
        ·omega
        ·injection f1 with f1
         injection f1 with f1 f1' _
         subst f1 f1'
         rw [<- f4 j hj]
         exact k5 j hj
      have hidn:∀own,s (rt id)=.none->(s.put (leave own gx)) (rt id)=.none:=by
       intro own hid
       refine (leave_root (fun c hc => ?_) s).trans hid
       obtain ⟨_,_,hq⟩:=hg
       rcases hq with ⟨hf,_⟩ | ⟨hf,_⟩ | ⟨r,_,_,_,_,_,_,_,_,hf,_,hs,_⟩
       ·rw [hc] at hf;cases hf
       ·rw [hc] at hf;cases hf
       ·rw [hc] at hf
        injection hf with hf
        injection hf with hf _
        subst hf
        rw [hid] at hs
        cases hs
      -- an element given up
      have elem:∀(own:Bool) (G1:Gh) (v:Value) (news:List Value) (dep:Nat),(own=true->2<=gx.dp/\dep<=gx.dp)->(own=false->dep<=1) ->
        Holds G1 w (s.put (leave own gx)) ⟨.slice e,m⟩ [v] (bif own then gx.dp else 0) (fromOf own gx) ->
        (∀(S:OwnS) (q:Path) j (h:j<m.length),Rep w S (.slice e) q [v] m->Rep w S e (q++[.i j]) ((news.drop (j*e.size)).take e.size) (m.get ⟨j,h⟩)) ->
        ∀(k:Nat) j (h:j<m.length),∃dp ro,Holds G1 w (s.put (leave own gx)) ⟨e,m.get ⟨j,h⟩⟩ ((news.drop (j*e.size)).take e.size) dp ro/\dep<=dp+1 /\
         ∀r p,ro=some (r,p)->(∃c,gx.from_=some (r,c))/\p≠[] /\ ∀q,(fun (r:Nat) (q:Path)=>match q with | .i j::q=>some (St.i (k+j)::q) | _=>none) r (p++q)=some (.i (k+j)::q):=by
       intro own G1 v news dep ho1 ho2 hh hel k j hj
       obtain ⟨ro',k1,k2⟩:=hh.elem hj (fun S q hrep=>hel S q j hj hrep)
       refine ⟨_,ro',k1,?_,fun r p hr' => ?_⟩
       ·cases own with
        | true=>have:=ho1 rfl;simp only [cond_true];omega
        | false=>have:=ho2 rfl;simp only [cond_false];omega
       ·obtain ⟨p0,hp0,rfl⟩:=k2 r p hr'
        obtain ⟨rfl,hc⟩:=fromOf_nil hp0
        exact ⟨hc,by simp,fun q=>by simp⟩
      cases cs with
      | cst k0 d0=>
       obtain ⟨rfl,sb0,hsv⟩:=hcst k0 d0 rfl
       obtain ⟨hid,rfl⟩:=newAt_ok h8
       obtain ⟨d,hd⟩:=dst_some (c:=.al id [] 0) hok (by simp)
       obtain ⟨G1,v,ad,cap,news,g1,eC,hxv,e2,e3,e5,hh,hel⟩:=given (decide (2<=max gx.dp 1))
       rw [hsv,hxv] at hexec
       rw [hd,State.put_append]
       refine append_cst S g1 hd (hidn _ hid) u1 hr u3 (by omega) (fun r q=>match q with | .i j::q=>some (St.i (0+j)::q) | _=>none) e2 (fun j h => ?_) e3 e5 (by simpa using hl) hexec
       obtain ⟨dp,ro,k1,k2,k3⟩:=elem _ G1 v news (max gx.dp 1) (fun h=>by have:=of_decide_eq_true h;omega) (fun h=>by have:=of_decide_eq_false h;omega) hh hel 0 j h
       exact ⟨dp,ro,k1,k2,fun r p hr=>⟨(k3 r p hr).2.1,fun q=>by simpa using (k3 r p hr).2.2 q⟩⟩
      | al r p ver=>
       simp only [Rd.out] at h8
       cases hs:s (rt r) with
       | root k0 d0 dep box frz ver'=>
        rw [hs] at h8
        cases box with
        | true=>
         cases frz with
         | true=>simp only [Rd.out,bif_out,reduceCtorEq] at h8
         | false=>
          simp only [Rd.out,bif_out,reduceCtorEq] at h8
          rcases bif_some h8 with ⟨hd1,h9⟩ | ⟨_,h9⟩
          ·simp only [Bool.and_eq_true,decide_eq_true_eq,Bool.not_eq_true'] at hd1
           obtain ⟨⟨hdep,hfi⟩,hdg⟩:=hd1
           obtain ⟨hget,hokp,hsv⟩:=hbx r p ver k0 d0 dep true ver' rfl hs
           have h9:=Option.some.inj h9
           subst h9
           obtain ⟨d,hd⟩:=dst_some (c:=.apd r p (ver'+1) e (l++m)) hok (by simp)
           obtain ⟨G1,v,ad,cap,news,g1,eC,hxv,e2,e3,e5,hh,hel⟩:=given true
           rw [hxv] at hexec
           rw [hd,State.put_append]
           have hsC:a.eval s'=mkVal (.slice e) (subC w p k0 (G1.C r)):=by rw [eC];exact hsv
           refine append_box S g1 hd u1 hr u3 ((leave_root (fromIs_spec hfi) s).trans hs) hget hokp hsC hdep (fun hdn w' M nb h1 h2 h3 h4 _ h5 v' cs' h6 h7=>box_step S g1 hdn ((leave_root (fromIs_spec hfi) s).trans hs) M h1 h2 h3 h4 h5 h6 h7) (fun r q=>match q with | .i j::q=>some (St.i (l.length+j)::q) | _=>none) e2 (fun j h => ?_) e3 e5 hl hexec
           obtain ⟨ro',k1,k2⟩:=hh.elem h (fun S q hrep=>hel S q j h hrep)
           refine ⟨_,ro',k1,by simp only [cond_true];omega,fun r' p' hr' => ?_⟩
           obtain ⟨p0,hp0,rfl⟩:=k2 r' p' hr'
           obtain ⟨rfl,c,hc⟩:=fromOf_nil hp0
           exact ⟨fun eq=>by subst eq;exact fromIs_spec hfi c hc,fun q=>by simp⟩
          ·simp at h9
        | false=>
         cases frz with
         | true=>simp only [Rd.out,bif_out,reduceCtorEq] at h8
         | false=>
         simp only [Rd.out,bif_out,reduceCtorEq] at h8
         rcases bif_some h8 with ⟨hd1,h9⟩ | ⟨_,h9⟩
         ·simp only [Bool.and_eq_true,decide_eq_true_eq,Bool.not_eq_true',List.isEmpty_iff] at hd1
          obtain ⟨⟨rfl,hd1⟩,hfi⟩:=hd1
          obtain ⟨hs',hsv⟩:=hal r ver k0 d0 dep ver' rfl hs
          obtain ⟨hid,rfl⟩:=newAt_ok h9
          obtain ⟨d,hd⟩:=dst_some (c:=.al id [] 0) hok (by simp)
          obtain ⟨G1,v,ad,cap,news,g1,eC,hxv,e2,e3,e5,hh,hel⟩:=given (decide (2<=min dep (max gx.dp 1)))
          rw [hxv] at hexec
          rw [hd,State.put_append]
          refine append_al S g1 hd (hidn _ hid) u1 hr u3 ((leave_root (fromIs_spec hfi) s).trans hs') (by rw [eC];exact hsv) (by omega) (by omega) (fun r q=>match q with | .i j::q=>some (St.i (l.length+j)::q) | _=>none) e2 (fun j h => ?_) e3 e5 hl hexec
          obtain ⟨dp,ro,k1,k2,k3⟩:=elem _ G1 v news (min dep (max gx.dp 1)) (fun h=>by have:=of_decide_eq_true h;omega) (fun h=>by have:=of_decide_eq_false h;omega) hh hel l.length j h
          refine ⟨dp,ro,k1,k2,fun r' p hr' => ?_⟩
          obtain ⟨⟨c,hc⟩,k4,k5⟩:=k3 r' p hr'
          refine ⟨fun eq => ?_,k4,k5⟩
          subst eq
          exact fromIs_spec hfi c hc
         ·rcases bif_some h9 with ⟨hd1,h9⟩ | ⟨_,h9⟩
          ·simp only [Bool.and_eq_true,decide_eq_true_eq,Bool.not_eq_true'] at hd1
           obtain ⟨⟨⟨_,hdep⟩,hfi⟩,hdg⟩:=hd1
           obtain ⟨hget,hokp,hsv⟩:=hbx r p ver k0 d0 dep false ver' rfl hs
           have h9:=Option.some.inj h9
           subst h9
           obtain ⟨d,hd⟩:=dst_some (c:=.apd r p (ver'+1) e (l++m)) hok (by simp)
           obtain ⟨G1,v,ad,cap,news,g1,eC,hxv,e2,e3,e5,hh,hel⟩:=given true
           rw [hxv] at hexec
           rw [hd,State.put_append]
           have hsC:a.eval s'=mkVal (.slice e) (subC w p k0 (G1.C r)):=by rw [eC];exact hsv
           refine append_box S g1 hd u1 hr u3 ((leave_root (fromIs_spec hfi) s).trans hs) hget hokp hsC hdep (fun hdn w' M nb h1 h2 h3 h4 _ h5 v' cs' h6 h7=>box_step S g1 hdn ((leave_root (fromIs_spec hfi) s).trans hs) M h1 h2 h3 h4 h5 h6 h7) (fun r q=>match q with | .i j::q=>some (St.i (l.length+j)::q) | _=>none) e2 (fun j h => ?_) e3 e5 hl hexec
           obtain ⟨ro',k1,k2⟩:=hh.elem h (fun S q hrep=>hel S q j h hrep)
           refine ⟨_,ro',k1,by simp only [cond_true];omega,fun r' p' hr' => ?_⟩
           obtain ⟨p0,hp0,rfl⟩:=k2 r' p' hr'
           obtain ⟨rfl,c,hc⟩:=fromOf_nil hp0
           exact ⟨fun eq=>by subst eq;exact fromIs_spec hfi c hc,fun q=>by simp⟩
          ·simp at h9
       | _=>rw [hs] at h8;simp [Rd.out] at h8
      | _=>simp [Rd.out] at h8
     ·simp at h8
   | _=>simp [Rd.out] at h4
  ·simp [Rd.out] at h0
 ·simp [Rd.out] at h
end
end Go.V
namespace Go.V
theorem encl_lev {p q x:Path} (h:encl q p=some x):lev x<lev (q++p):=by
 obtain ⟨n,t,ht⟩:=encl_step h
 rw [<- ht,lev_append,lev_append]
 simp [lev]
 omega
theorem setP_get:∀{p:Path} {k:Kd} {d d':k.den} {y:V},setP p k d y=some d' -> ∃z,getP p k d=some z/\z.k=y.k:=by
 intro p
 induction p with
 | nil=>intro k d d' y h;simp only [setP] at h;exact ⟨⟨k,d⟩,rfl,(cast?_k h).symm⟩
 | cons s p ih=>
  intro k d d' y h
  cases s with
  | l=>cases k with
   | pair a b=>simp only [setP,Option.map_eq_some_iff] at h;obtain ⟨z,hz,_⟩:=h;simp only [getP];exact ih hz
   | _=>simp [setP] at h
  | r=>cases k with
   | pair a b=>simp only [setP,Option.map_eq_some_iff] at h;obtain ⟨z,hz,_⟩:=h;simp only [getP];exact ih hz
   | _=>simp [setP] at h
  | i n=>cases k with
   | slice e=>simp only [setP,Option.map_eq_some_iff] at h;obtain ⟨z,hz,_⟩:=h;simp only [getP];exact ih hz
   | _=>simp [setP] at h
def stφ (φ:Nat->Option (Bool×Nat×Path)) (r dep':Nat) (p:Path) (ro:Option (Nat×Path)):Nat->Option (Bool×Nat×Path):=fun b=>
 match φ b with
 | some (false,r',q)=>
  if r'=r then (if lev q<dep' then some (false,r,q) else none)
  else if ro=some (r',[]) then (if lev (p++q)<dep' then some (false,r,p++q) else none)
  else some (false,r',q)
 | x=>x
def atHome (w:World) (k:Kd) (c:List Value):Option (Nat×Nat)->List Value
 | some (b,o)=>cellsAt w b o k.size
 | none=>c
section
variable {P:Program} {Γ:Ctx} {Kp:Keep} {B0:World} {n:Nat} {G:Gh} {s:State} {a:Act} {w w':World} {id:Nat} {o:Oper} {Q:Exit->Act->World->Prop} {ws:Writes}
theorem stφ_none {φ:Nat->Option (Bool×Nat×Path)} {r dep':Nat} {p:Path} {ro:Option (Nat×Path)} {b:Nat} (h:φ b=none):stφ φ r dep' p ro b=none:=by simp [stφ,h]
theorem stφ_box {φ:Nat->Option (Bool×Nat×Path)} {r dep':Nat} {p q:Path} {ro:Option (Nat×Path)} {b r':Nat} (h:φ b=some (true,r',q)):stφ φ r dep' p ro b=some (true,r',q):=by simp [stφ,h]
theorem stφ_own {φ:Nat->Option (Bool×Nat×Path)} {r dep':Nat} {p q:Path} {ro:Option (Nat×Path)} {b:Nat} (h:φ b=some (false,r,q)):stφ φ r dep' p ro b=if lev q<dep' then some (false,r,q) else none:=by simp [stφ,h]
theorem stφ_from {φ:Nat->Option (Bool×Nat×Path)} {r dep':Nat} {p q:Path} {b r0:Nat} (h:φ b=some (false,r0,q)) (hn:r0≠r):stφ φ r dep' p (some (r0,[])) b=if lev (p++q)<dep' then some (false,r,p++q) else none:=by simp [stφ,h,hn]
theorem stφ_other {φ:Nat->Option (Bool×Nat×Path)} {r dep':Nat} {p q:Path} {ro:Option (Nat×Path)} {b r':Nat} (h:φ b=some (false,r',q)) (hn:r'≠r) (h0:ro≠some (r',[])):stφ φ r dep' p ro b=some (false,r',q):=by simp [stφ,h,hn,h0]
theorem stφ_some {φ:Nat->Option (Bool×Nat×Path)} {r dep':Nat} {p:Path} {ro:Option (Nat×Path)} {b:Nat} {x:Bool×Nat×Path} (h:stφ φ r dep' p ro b=some x):∃y,φ b=some y:=by
 cases hb:φ b with
 | none=>rw [stφ_none hb] at h;cases h
 | some y=>exact ⟨y,rfl⟩
theorem store_core' (g:GOk Kp G s a w) {r:Nat} {k:Kd} {y y':k.den} {dep:Nat} {box:Bool} {ver:Nat} (hs:s (rt r)=.root k y dep box false ver) {p:Path} {v:V} {cs:List Value} {ro:Option (Nat×Path)}
  (hros:∀r' p',ro=some (r',p')->s (rt r')=.dead) (hlen0:cs.length=v.k.size) (hm:lev p<=dep) (hset:setP p k y v=some y') (hok:okP p k y) {B O:Nat} (hA:subA w p k (G.C r) (home G r box)=some (B,O))
  {dep':Nat} (hd1:dep'<=dep) (hd2:lev p<=dep') (hput:Put w w' B O cs)
  (hnew:∀_:(∀b r' f q,G.φ b=some (f,r',q)->r'≠r->b≠B)/\(∀b,G.φ b=none->b≠B)/\(∀b q1,G.φ b=some (false,r,q1)->b=B->lev q1<lev p),Rep w' (ownS (stφ G.φ r dep' p ro) r dep') v.k p cs v.d) {dst:Option Nat} (hdst:∀d,dst=some d->d<a.tmps.size) (hheap:w'.heap.size=w.heap.size) :
  (∃z,G.φ B=some z) /\ ∃G',GOk Kp G' ((s.set (rt r) (.root k y' dep' box false (upV ver))).put (slotW dst .none)) (a.put dst undef) w':=by
 obtain ⟨z,hz,hzk⟩:=setP_get hset
 have hro:=g.roots r
 rw [hs] at hro
 -- the block is the root's
 have hB:(G.φ B=some (true,r,[])/\B=G.β r/\box=true/\encl [] p=none) \/ ∃q1,encl [] p=some q1/\lev q1<lev p/\G.φ B=some (false,r,q1):=by
  rcases subA_where hro.1 hok hz hA with ⟨h1,o',h2,h3,h4⟩ | ⟨q1,h1,h2⟩
  ·left
   unfold home at h2
   cases box with
   | false=>simp at h2
   | true=>
    simp only [cond_true,Option.some.injEq,Prod.mk.injEq] at h2
    obtain ⟨h2,_⟩:=h2
    have:=(hro.2 rfl).2
    simp only [Bool.false_eq_true,if_false] at this
    exact ⟨by rw [<- h2];exact this,h2.symm,rfl,h1⟩
  ·right
   have hl:=encl_lev h1
   rw [List.nil_append] at hl
   refine ⟨q1,h1,hl,?_⟩
   rcases ownS_lev h2 with ⟨_,h⟩ | ⟨h,_⟩
   ·exact h
   ·omega
 have hBs:∃f q,G.φ B=some (f,r,q):=by
  rcases hB with ⟨h,_⟩ | ⟨q1,_,_,h⟩
  ·exact ⟨_,_,h⟩
  ·exact ⟨_,_,h⟩
 obtain ⟨fB,qB,hBs⟩:=hBs
 refine ⟨⟨_,hBs⟩,?_⟩
 have hBo:∀b r' f q,G.φ b=some (f,r',q)->r'≠r->b≠B:=fun b r' f q h hn e=>by
  subst e;rw [hBs] at h;injection h with h;injection h with _ h;injection h with h _;exact hn h.symm
 have hBn:∀b,G.φ b=none->b≠B:=fun b h e=>by subst e;rw [hBs] at h;cases h
 have hrn:∀r' p',ro=some (r',p')->r'≠r:=fun r' p' e h=>by
  have:=hros r' p' e
  subst h
  rw [hs] at this
  cases this
 have hout:∀b,G.φ b=none->b<w.heap.size->stφ G.φ r dep' p ro b=none/\w'.heap[b]? = w.heap[b]?:=fun b h _=>⟨stφ_none h,hput.other b (hBn b h)⟩
 -- the root's cells, read by the new owners
 have hrep0:Rep w (ownS (stφ G.φ r dep' p ro) r dep') k [] (G.C r) y:=hro.1.frame fun q b _ h _=>by
  refine ⟨rfl,?_⟩
  rcases ownS_lev h with ⟨hl,h⟩ | ⟨hl,h⟩
  ·by_cases hlt:lev q<dep'
   ·simp only [ownS,hlt,if_true];rw [stφ_own h,if_pos hlt]
   ·simp only [ownS,hlt,if_false];rw [stφ_own h,if_neg hlt]
  ·have hlt:¬lev q<dep':=by omega
   simp only [ownS,hlt,if_false];exact stφ_none h
 have hnew:=hnew ⟨hBo,hBn,fun b q1 hq he=>by
  subst he
  rcases hB with ⟨h,_⟩ | ⟨q2,_,h2,h⟩
  ·rw [hq] at h;cases h
  ·rw [hq] at h
   simp only [Option.some.injEq,Prod.mk.injEq,true_and] at h
   rw [h];exact h2⟩
 have hlen:z.k.size=cs.length:=by rw [hzk,hlen0]
 have hst:=rep_store hput hrep0 hok hz hlen hA (home_ok hro)
  (fun b o' e q' _=>by
   intro hc
   unfold home at e
   cases box with
   | false=>simp at e
   | true=>
    simp only [cond_true,Option.some.injEq,Prod.mk.injEq] at e
    obtain ⟨e,_⟩:=e
    have hb:=(hro.2 rfl).2
    simp only [Bool.false_eq_true,if_false] at hb
    rw [e] at hb
    unfold ownS at hc
    rw [stφ_box hb] at hc
    split at hc<;>simp at hc)
  (fun m q1 q2 b h1 h2 h3=>by
   have hl1:lev q1<dep':=by
    have h1l:lev (q1++[St.i m])<=lev p:=by
     obtain ⟨t,ht⟩:=h1
     rw [List.nil_append] at ht
     rw [<- ht,lev_append (q1++[St.i m]) t]
     omega
    rw [lev_append] at h1l
    simp only [lev] at h1l
    omega
   unfold ownS at h2 h3
   rw [if_pos hl1] at h2
   rw [h2] at h3
   split at h3
   ·simp only [Option.some.injEq,Prod.mk.injEq] at h3;exact h3.2.2
   ·cases h3)
  hset (by simpa using hnew)
 have hst:Rep w' (ownS (stφ G.φ r dep' p ro) r dep') k [] (atHome w' k (G.C r) (home G r box)) y':=by
  cases hq:home G r box with
  | none=>rw [hq] at hst;exact hst
  | some x=>rw [hq] at hst;exact hst
 -- the new ghosts
 refine ⟨⟨stφ G.φ r dep' p ro,fun r'=>if r'=r then (atHome w' k (G.C r) (home G r box)) else G.C r',G.β⟩,?_⟩
 have hs2:∀r',r'≠r->((s.set (rt r) (.root k y' dep' box false (upV ver))).put (slotW dst .none)) (rt r')=s (rt r'):=by
  intro r' hr'
  cases dst with
  | none=>simp only [slotW,State.put];exact State.set_other _ _ (fun h=>hr' (rt_inj h))
  | some d=>simp only [slotW,State.put];rw [State.set_other _ _ (sl_rt d r').symm,State.set_other _ _ (fun h=>hr' (rt_inj h))]
 have hs2r:((s.set (rt r) (.root k y' dep' box false (upV ver))).put (slotW dst .none)) (rt r)=.root k y' dep' box false (upV ver):=by
  cases dst with
  | none=>simp only [slotW,State.put];exact State.set_same _ _ _
  | some d=>simp only [slotW,State.put];rw [State.set_other _ _ (sl_rt d r).symm,State.set_same]
 refine g.step ?_ dst undef (fun t ht => ?_) (fun d hd => ?_) (fun r' => ?_) ⟨fun b x hx => ?_,fun b x hx => ?_,fun b hx => ?_⟩
 ·refine ⟨hout,fun r' k' d' dep1 box' frz' ver' h => ?_,fun r' h => ?_,fun r' h => ?_⟩
  rotate_right
  ·cases dst with
   | none=>simp only [slotW,State.put];rw [State.set_other _ _ (ak_rt r' r)];exact h
   | some d=>simp only [slotW,State.put];rw [State.set_other _ _ (ak_sl r' d),State.set_other _ _ (ak_rt r' r)];exact h
  ·by_cases e:r'=r
   ·subst e
    rw [hs] at h
    simp only [Cell.root.injEq] at h
    obtain ⟨rfl,_,rfl,rfl,rfl,rfl⟩:=h
    exact .inr ⟨_,_,_,_,hs2r,rfl,(fun hb=>by
     rcases hb with hb | hb | hb
     ·subst hb;simp [home,atHome]
     ·cases hb
     ·exact absurd hb (upV_ne _)),fun h=>h,.inr (.inl (upV_gt _))⟩
   ·refine .inr ⟨d',dep1,frz',ver',(hs2 r' e).trans h,rfl,fun _=>by simp [e],fun h=>h,.inl ⟨rfl,rfl,by simp [e],fun q b hb=>hput.other b (hBo b r' _ _ hb e),fun q b _ hq=>by
     rcases ownS_lev hq with ⟨hl,hq⟩ | ⟨hl,hq⟩
     ·simp only [ownS,hl,if_true];exact stφ_other hq e (fun h0=>by have:=hros r' [] h0;rw [h] at this;cases this)
     ·simp only [ownS,Nat.not_lt.2 hl,if_false];exact stφ_none hq⟩⟩
  ·have e:r'≠r:=fun e=>by subst e;rw [hs] at h;cases h
   exact (hs2 r' e).trans h
 ·cases dst with
  | none=>simp only [slotW,State.put];exact State.set_other _ _ (sl_rt t r)
  | some d=>
   simp only [slotW,State.put]
   rw [State.set_other _ _ (fun h=>ht (by rw [sl_inj h])),State.set_other _ _ (sl_rt t r)]
 ·subst hd
  refine ⟨hdst d rfl,?_⟩
  simp only [slotW,State.put,State.set_same]
  trivial
 ·by_cases e:r'=r
  ·subst e
   rw [hs2r]
   refine ⟨by simpa using hst,fun hb => ?_⟩
   subst hb
   obtain ⟨⟨cs0,T,e1,e2⟩,e3⟩:=hro.2 rfl
   simp only [Bool.false_eq_true,if_false] at e3 |-
   refine ⟨?_,stφ_box e3⟩
   have hl0:=hro.1.length
   simp only [if_true,home,cond_true,atHome]
   by_cases eB:G.β r'=B
   ·obtain ⟨c1,c2,T1,fr,k1,k2,k3,k4⟩:=hput.here
    rw [<- eB,e1] at k1
    injection k1 with k1
    injection k1 with k1 k1' k1''
    subst k1 k1' k1''
    refine ⟨c2,T,by rw [eB];exact k2,?_⟩
    have hl2:c2.toList.length=k.size:=by
     rw [k4,<- hl0,<- e2]
     simp only [List.length_append,List.length_take,List.length_drop,Array.length_toList]
     omega
    unfold cellsAt
    rw [eB,k2]
    simp only [List.drop_zero]
    rw [List.take_of_length_le (by omega)]
   ·refine ⟨cs0,T,by rw [hput.other _ eB];exact e1,?_⟩
    unfold cellsAt
    rw [hput.other _ eB,e1]
    simp only [List.drop_zero]
    rw [List.take_of_length_le (by rw [e2];omega)]
  ·rw [hs2 r' e]
   have hk:=g.roots r'
   cases hc:s (rt r') with
   | root k' d' dep1 box' frz' ver'=>
    rw [hc] at hk
    refine RootOk.keep hk hout (by simp [e]) rfl (fun b f q hb=>⟨?_,hput.other b (hBo b r' _ _ hb e)⟩)
    cases f with
    | true=>exact stφ_box hb
    | false=>exact stφ_other hb e (fun h=>by have:=hros r' [] h;rw [hc] at this;cases this)
   | _=>trivial
 ·obtain ⟨y1,hy1⟩:=stφ_some hx
  rcases g.col.col b y1 hy1 with e | ⟨h1,h2⟩
  ·subst e
   have hb:=stφ_box (r:=r) (dep':=dep') (p:=p) (ro:=ro) hy1
   exact .inl (Option.some.inj (hx.symm.trans hb))
  refine .inr ⟨h1,?_⟩
  by_cases e:b=B
  ·subst e
   exact h2.put hput
  ·exact h2.same (hput.other b e)
 ·obtain ⟨y1,hy1⟩:=stφ_some hx
  rw [hheap]
  exact g.col.lt b y1 hy1
 ·exact stφ_box (g.col.out b hx)
theorem store_core (g:GOk Kp G s a w) {r:Nat} {k:Kd} {y y':k.den} {dep:Nat} {box:Bool} {ver:Nat} (hs:s (rt r)=.root k y dep box false ver) {p:Path} {v:V} {cs:List Value} {dp:Nat} {ro:Option (Nat×Path)}
  (hh:Holds G w s v cs dp ro) (hro0:∀r' p',ro=some (r',p')->p'=[]) (hm:lev p<=dep) (hset:setP p k y v=some y') (hok:okP p k y) {B O:Nat} (hA:subA w p k (G.C r) (home G r box)=some (B,O))
  {dep':Nat} (hdep:dep'=bif v.k.allsh then dep else min dep (lev p+dp)) (hput:Put w w' B O cs) {dst:Option Nat} (hdst:∀d,dst=some d->d<a.tmps.size) (hheap:w'.heap.size=w.heap.size) :
  (∃z,G.φ B=some z) /\ ∃G',GOk Kp G' ((s.set (rt r) (.root k y' dep' box false (upV ver))).put (slotW dst .none)) (a.put dst undef) w':=by
 have hd1:dep'<=dep:=by rw [hdep];cases v.k.allsh<;>simp only [cond_true,cond_false]<;>omega
 have hd2:lev p<=dep':=by rw [hdep];cases v.k.allsh<;>simp only [cond_true,cond_false]<;>omega
 have hros:∀r' p',ro=some (r',p')->s (rt r')=.dead:=fun r' p' e=>by
  cases hh with
  | free _ _=>cases e
  | shared _=>cases e
  | dead r1 p1 _ h1 _=>injection e with e;injection e with e _;subst e;exact h1
 have hrn:∀r' p',ro=some (r',p')->r'≠r:=fun r' p' e h=>by
  have:=hros r' p' e
  subst h
  rw [hs] at this
  cases this
 refine store_core' g hs hros hh.length hm hset hok hA hd1 hd2 hput (fun ⟨hBo,hBn,_⟩ => ?_) hdst hheap
 ·by_cases hf:v.k.allsh=true
  ·exact hh.sh hf _ fun b hn _=>⟨hput.other b (hBn b hn),fun q=>shAt_own.2 (stφ_none hn)⟩
  ·have hdep2:dep'=min dep (lev p+dp):=by rw [hdep];simp [hf]
   cases hh with
   | free _ h=>exact (h.move (q':=p) (S':=noS) fun _ _ hs _=>hs.elim).frame fun q b _ hs _=>hs.elim
   | shared h=>
    refine (h.move (q':=p) (S':=fun q b=>dep'<=lev q/\G.φ b=none) fun q b hs _=>⟨by rw [lev_append];omega,hs⟩).frame fun q b _ hs _ => ?_
    refine ⟨hput.other b (hBn b hs.2),?_⟩
    simp only [ownS,Nat.not_lt.2 hs.1,if_false]
    exact stφ_none hs.2
   | dead r0 p0 _ hr h=>
    have hp0:=hro0 r0 p0 rfl
    subst hp0
    have hne:=hrn r0 [] rfl
    refine (h.move (q':=p) (S':=fun q b=>b≠B/\ownS (stφ G.φ r dep' p (some (r0,[]))) r dep' q b) fun q b hs _ => ?_).frame fun q b _ hs _=>⟨hput.other b hs.1,hs.2⟩
    have hla:=lev_append p q
    rcases ownS_lev hs with ⟨hl,hs⟩ | ⟨hl,hs⟩
    ·refine ⟨hBo b r0 _ _ hs hne,?_⟩
     by_cases hlt:lev (p++q)<dep'
     ·simp only [ownS,hlt,if_true]
      rw [stφ_from hs hne]
      simp [hlt]
     ·simp only [ownS,hlt,if_false]
      rw [stφ_from hs hne]
      simp [hlt]
    ·refine ⟨hBn b hs,?_⟩
     have hlt:¬lev (p++q)<dep':=by
      simp only [List.nil_append,lev] at hl
      omega
     simp only [ownS,hlt,if_false]
     exact stφ_none hs
theorem pathB_eq:∀{p q:Path},pathB p q=true->p=q:=by
 intro p
 induction p with
 | nil=>intro q h;cases q with
  | nil=>rfl
  | cons s q=>simp [pathB] at h
 | cons s p ih=>intro q h;cases q with
  | nil=>cases s<;>simp [pathB] at h
  | cons t q=>
   cases s<;>cases t<;>simp only [pathB,Bool.and_eq_true,reduceCtorEq] at h
   ·rw [ih h]
   ·rw [ih h]
   ·rw [Nat.eq_of_beq_eq_true h.1,ih h.2]
theorem store_apd (S:Set_ P Γ Kp B0 n G s a w o) {t:TypeId} {x y:Operand} (ho:o.op=.store t x y) {r r' ver ver1:Nat} {p p':Path} {e:Kd} {l:List e.den} (hc:CellOk G w s (a.eval x) (.ptr r p ver)) (h2:(rdOp Γ t y).out s=some (.apd r' p' ver1 e l))
  (h:(bif Nat.beq r r' then .ite (pathB p p') ((kindIs Γ t (.slice e)).bind fun _=>.rd (rt r) fun
      | .root k y dep box false ver'=>bif Nat.beq ver1 ver'&&(Nat.beq ver ver'||(box&&noIdx p))&&decide (lev p<=dep) then (Rd.opt (setP p k y ⟨.slice e,l⟩)).bind fun y'=>.ret ([(rt r,.root k y' dep box false (upV ver'))]++slotW o.dst .none) else .fail
      | _=>.fail) .fail
     else .fail:Rd Writes).out s=some ws) (hok:dstOk o ws=true) :
  o.wp P a w (fun a' w'=>Inv P Kp B0 n (s.put ws) a' w') Q:=by
 simp only [bif_out] at h
 rcases bif_some h with ⟨h0,hh⟩ | ⟨_,h⟩
 ·clear h
  have hrr:=Nat.eq_of_beq_eq_true h0
  subst hrr
  simp only [Rd.out] at hh
  split at hh
  case isFalse=>simp at hh
  rename_i hpp
  have hpp:=pathB_eq hpp
  subst hpp
  rw [Rd.out_bind,Option.bind_eq_some_iff] at hh
  obtain ⟨_,h4,h⟩:=hh
  simp only [Rd.out] at h
  have hk:=kindIs_ok h4
  have hca:=rdOp_ok S.g h2
  simp only [CellOk] at hca
  cases hs:s (rt r) with
  | root k d dep box frz ver'=>
   rw [hs] at h hca
   cases frz<;>simp only [Rd.out,bif_out,reduceCtorEq] at h
   rcases bif_some h with ⟨hv,h5⟩ | ⟨_,h5⟩
   ·rw [Bool.and_eq_true,Bool.and_eq_true] at hv
    obtain ⟨⟨hv1,hvp⟩,hmp⟩:=hv
    have hmp:=of_decide_eq_true hmp
    have hv1:=Nat.eq_of_beq_eq_true hv1
    simp only [Rd.out_bind,Rd.out_opt,Option.bind_eq_some_iff,Rd.out,Option.some.injEq] at h5
    obtain ⟨d',h6,h7⟩:=h5
    subst h7
    obtain ⟨_,cs,x1,hrepv⟩:=hca.2 hv1
    obtain ⟨z,B,O,e1,e2,e3,e4,e5,e6,e7,hro⟩:=ptr_open S.g hc hs hvp
    obtain ⟨z',hz',hzk⟩:=setP_get h6
    rw [e1] at hz'
    injection hz' with hz'
    subst hz'
    have hlen:=hrepv.length
    obtain ⟨cur,T,fr,hb,hfit⟩:=e6
    have hzk:z.k=.slice e:=hzk
    have hfit':O+cs.length<=cur.size:=by rw [hlen,<- hzk];exact hfit
    have hBz:∃f q,G.φ B=some (f,r,q)/\(f=false\/q=[]):=by
     rcases subA_where hro.1 e2 e1 e3 with ⟨k1,o',k2,_⟩ | ⟨q1,k1,k2⟩
     ·unfold home at k2
      cases box with
      | false=>simp at k2
      | true=>
       simp only [cond_true,Option.some.injEq,Prod.mk.injEq] at k2
       obtain ⟨k2,_⟩:=k2
       have:=(hro.2 rfl).2
       simp only [Bool.false_eq_true,if_false] at this
       exact ⟨_,_,by rw [<- k2];exact this,.inr rfl⟩
     ·have hl:=encl_lev k1
      rw [List.nil_append] at hl
      rcases ownS_lev k2 with ⟨_,hq⟩ | ⟨hq,_⟩
      ·exact ⟨_,_,hq,.inl rfl⟩
      ·omega
    obtain ⟨fB,qB,hzB,hfB⟩:=hBz
    obtain ⟨hKB,cur',T',fr',hb',hth⟩:=S.g.mine hzB hfB
    rw [hb] at hb'
    injection hb' with hb'
    injection hb' with hb1 hb2 hb3
    subst hb1 hb2 hb3
    have hput:=setRow_put (x:=cs) hb hfit'
    obtain ⟨i,zv,hr⟩:=row_of S.tab hk
    have hone:∀u∈cs,u.oneCell'=true:=rep_one hrepv
    have hcells:(a.eval y).cells=cs.toArray:=by
     rw [x1]
     apply Array.ext'
     rw [mkVal_cells hrepv]
    have hrun:(execOp a.eval o).run P w =  .ok .skip (w.setRow B (cur.toList.take O++cs++cur.toList.drop (O+cs.length)).toArray):=by
     have hst:=run_storeCells_live (P:=P) B O T _ cs 0 cur w hb hth (by simpa using hfit') hone
     simp only [Nat.add_zero] at hst
     unfold execOp
     rw [ho]
     simp [Instr.storeAt,e4,Instr.sureAddr,storeVar,run_size hr,hcells,hlen,hst]
    obtain ⟨_,G',g'⟩:=store_core' S.g hs (v:=⟨.slice e,l⟩) (cs:=cs) (ro:=none) (fun _ _ h=>by cases h) hlen hmp h6 e2 e3 (dep':=dep) (Nat.le_refl _) hmp hput
     (fun ⟨hBo,hBn,hBr⟩=>hrepv.frame fun q b hpq hq hl=>by
      rcases ownS_lev hq with ⟨k1,k2⟩ | ⟨k1,k2⟩
      ·refine ⟨hput.other b (fun eq => ?_),?_⟩
       ·have:=hBr b q k2 eq
        obtain ⟨t',rfl⟩:=hpq
        rw [lev_append] at this
        omega
       ·simp only [ownS,k1,if_true];rw [stφ_own k2,if_pos k1]
      ·refine ⟨hput.other b (hBn b k2),?_⟩
       simp only [ownS,Nat.not_lt.2 k1,if_false];exact stφ_none k2)
     (dst:=o.dst) (fun d hd=>by rw [S.inv.size];exact S.dst d hd) (setRow_size _ _ _)
    unfold Oper.wp
    rw [hrun,Oper.upon_skip]
    refine ⟨?_,?_,?_,G',g'⟩
    ·cases o.dst<;>simp [Act.put,S.inv.defers]
    ·cases o.dst<;>simp [Act.put,S.inv.size]
    ·have hbase:=S.inv.base
     exact ⟨hbase.os,hbase.tape,hbase.output,by rw [setRow_size];exact hbase.size,fun b' hkb=>(hput.other b' fun eq=>hKB (eq▸hkb)).trans (hbase.kept b' hkb),hbase.old,hbase.gl⟩
   ·cases h5
  | _=>rw [hs] at h;simp [Rd.out] at h
 ·simp [Rd.out] at h
theorem freeze_ok (g:GOk Kp G s a w) {r:Nat} {k:Kd} {d:k.den} {dep:Nat} {frz:Bool} {ver:Nat} (hf:k.flat=true\/dep=0) (hs:s (rt r)=.root k d dep true frz ver) :
  GOk Kp { G with φ:=fun b=>if b=G.β r then none else G.φ b } (s.set (rt r) (.root k d dep true true (ver+1))) a w:=by
 have hro:=g.roots r
 rw [hs] at hro
 obtain ⟨hrep,hbx⟩:=hro
 obtain ⟨h1,h2⟩:=hbx rfl
 have hne:∀b f r' q,G.φ b=some (f,r',q)->r'≠r->b≠G.β r:=by
  intro b f r' q hb hn e
  subst e
  rw [hb] at h2
  split at h2
  ·cases h2
  ·injection h2 with h2;injection h2 with _ h2;injection h2 with h2 _;exact hn h2
 have tr:Tr G { G with φ:=fun b=>if b=G.β r then none else G.φ b } w w s (s.set (rt r) (.root k d dep true true (ver+1))):=by
  refine ⟨fun b h _=>⟨by simp [h],rfl⟩,fun r' k' d' dep' box' frz' ver' h => ?_,fun r' h => ?_,fun r' h=>by rw [State.set_other _ _ (ak_rt r' r)];exact h⟩
  ·by_cases e:r'=r
   ·subst e
    rw [hs] at h
    simp only [Cell.root.injEq] at h
    obtain ⟨rfl,h3,rfl,rfl,rfl,rfl⟩:=h
    have h3:=eq_of_heq h3
    subst h3
    exact .inr ⟨_,_,_,_,State.set_same _ _ _,rfl,fun _=>rfl,fun _=>rfl,.inr (.inl (Nat.lt_succ_self _))⟩
   ·refine .inr ⟨d',dep',frz',ver',?_,rfl,fun _=>rfl,fun h=>h,.inl ⟨rfl,rfl,rfl,fun _ _ _=>rfl,fun q b _ h=>by
     rcases ownS_lev h with ⟨hl,h⟩ | ⟨hl,h⟩
     ·simp only [ownS,hl,if_true];rw [if_neg (hne b _ _ _ h e)];exact h
     ·simp only [ownS,Nat.not_lt.2 hl,if_false];split<;>first | rfl | exact h⟩⟩
    rw [State.set_other _ _ (fun h=>e (rt_inj h))]
    exact h
  ·have e:r'≠r:=fun e=>by subst e;rw [hs] at h;cases h
   rw [State.set_other _ _ (fun h=>e (rt_inj h))]
   exact h
 have:=g.step tr none undef (fun t _=>State.set_other _ _ (sl_rt t r)) (fun d h=>by cases h) (fun r' => ?_) ⟨fun b x h=>by
  simp only at h
  split at h
  ·cases h
  ·exact g.col.col b x h,fun b x h=>by
  simp only at h
  split at h
  ·cases h
  ·exact g.col.lt b x h,fun b hb=>by
  have hx:=g.col.out b hb
  simp only
  rw [if_neg (fun e=>by
   subst e
   rw [hx] at h2
   split at h2<;>simp [far] at h2)]
  exact hx⟩
 ·exact this
 ·by_cases e:r'=r
  ·subst e
   rw [State.set_same]
   refine ⟨?_,fun _=>⟨h1,by simp⟩⟩
   rcases hf with hf | rfl
   ·exact hrep.flat w _ _ hf
   ·refine hrep.move fun q b h _ => ?_
    simp only [ownS,Nat.not_lt_zero,if_false] at h |-
    split
    ·rfl
    ·exact h
  ·rw [State.set_other _ _ (fun h=>e (rt_inj h))]
   refine RootOk.keep (g.roots r') (fun b hb _=>⟨by simp [hb],rfl⟩) rfl rfl (fun b f q hb=>⟨?_,rfl⟩)
   simp only
   rw [if_neg (hne b f r' q hb e)]
   exact hb
theorem store_ok (S:Set_ P Γ Kp B0 n G s a w o) {t:TypeId} {x y:Operand} (ho:o.op=.store t x y) (h:(opD Γ id o).out s=some ws) (hok:dstOk o ws=true) :
  o.wp P a w (fun a' w'=>Inv P Kp B0 n (s.put ws) a' w') Q:=by
 unfold opD at h
 rw [ho] at h
 simp only [Rd.out_bind,Option.bind_eq_some_iff] at h
 obtain ⟨c,h1,h⟩:=h
 have hc:=rdB_ok S.g h1
 cases c with
 | ptr r p ver=>
  rw [Rd.out_bind,Option.bind_eq_some_iff] at h
  obtain ⟨cx,h2,h⟩:=h
  split at h
  ·exact store_apd S ho hc h2 h hok
  simp only [Rd.out_bind,Option.bind_eq_some_iff,Rd.out] at h
  obtain ⟨gx,h3,u,h4,h⟩:=h
  have hk:=kindIs_ok h4
  have hg:=got_ok S.g (rdOp_ok S.g h2) h3
  cases hs:s (rt r) with
  | root k d dep box frz ver'=>
   rw [hs] at h
   simp only [bif_out,Rd.out_bind,Rd.out_opt] at h
   rcases bif_some h with ⟨hv,h5⟩ | ⟨_,h5⟩
   ·simp only [Option.bind_eq_some_iff,Rd.out,Option.some.injEq] at h5
    obtain ⟨gy,h50,d',h6,h7⟩:=h5
    subst h7
    obtain ⟨hgc,hfrom,hkind⟩:=regotO_ok hg h50
    simp only [Bool.and_eq_true,decide_eq_true_eq,Bool.not_eq_true'] at hv
    obtain ⟨⟨⟨⟨hver,hfrz⟩,hm⟩,_⟩,hfi⟩:=hv
    subst hfrz
    obtain ⟨z,B,O,e1,e2,e3,e4,e5,e6,e7,hro⟩:=ptr_open S.g hc hs hver
    obtain ⟨z',hz',hzk⟩:=setP_get h6
    rw [e1] at hz'
    injection hz' with hz'
    subst hz'
    obtain ⟨G1,cs,g1,x1,hh,eC,eβ,n1,o1,m1⟩:=leave_okC S.g hgc true
    simp only [cond_true] at hh
    have hs1:(s.put (leave true gy)) (rt r)=.root k d dep box false ver':=(leave_root (fun c=>by rw [hfrom];exact fromIs_spec hfi c) s).trans hs
    have hlen:=hh.length
    have hro1:=g1.roots r
    rw [hs1] at hro1
    have hA:subA w p k (G1.C r) (home G1 r box)=some (B,O):=by
     rw [eC]
     unfold home
     rw [eβ]
     exact e3
    obtain ⟨cur,T,fr,hb,hfit⟩:=e6
    have hfit':O+cs.length<=cur.size:=by rw [hlen,<- hzk];exact hfit
    have hBz:∃f q,G1.φ B=some (f,r,q)/\(f=false\/q=[]):=by
     obtain ⟨zz,hzz,hzzk⟩:=setP_get h6
     have hpp:lev p<=dep:=hm
     rcases subA_where hro1.1 e2 e1 hA with ⟨k1,o',k2,_⟩ | ⟨q1,k1,k2⟩
     ·unfold home at k2
      cases box with
      | false=>simp at k2
      | true=>
       simp only [cond_true,Option.some.injEq,Prod.mk.injEq] at k2
       obtain ⟨k2,_⟩:=k2
       have:=(hro1.2 rfl).2
       simp only [Bool.false_eq_true,if_false] at this
       exact ⟨_,_,by rw [<- k2];exact this,.inr rfl⟩
     ·have hl:=encl_lev k1
      rw [List.nil_append] at hl
      rcases ownS_lev k2 with ⟨_,hq⟩ | ⟨hq,_⟩
      ·exact ⟨_,_,hq,.inl rfl⟩
      ·omega
    obtain ⟨fB,qB,hzB,hfB⟩:=hBz
    obtain ⟨hKB,cur',T',fr',hb',hth⟩:=g1.mine hzB hfB
    rw [hb] at hb'
    injection hb' with hb'
    injection hb' with hb1 hb2 hb3
    subst hb1 hb2 hb3
    have hput:=setRow_put (x:=cs) hb hfit'
    obtain ⟨i,zv,hr⟩:=row_of S.tab hk
    have hone:∀u∈cs,u.oneCell'=true:=by
     obtain ⟨_,_,hq⟩:=hh.rep
     exact rep_one hq
    have hrun:(execOp a.eval o).run P w =  .ok .skip (w.setRow B (cur.toList.take O++cs++cur.toList.drop (O+cs.length)).toArray):=by
     have hst:=run_storeCells_live (P:=P) B O T _ cs 0 cur w hb hth (by simpa using hfit') hone
     simp only [Nat.add_zero] at hst
     have hcells:=hh.cells
     unfold execOp
     rw [ho]
     simp [Instr.storeAt,e4,Instr.sureAddr,storeVar,run_size hr,<- hkind,x1,hcells,hlen,hst]
    obtain ⟨_,G',g'⟩:=store_core g1 hs1 hh (fun r' p' e=>(fromOf_nil e).1) hm h6 e2 hA (dep':=bif gy.v.k.allsh then dep else min dep (lev p+gy.dp)) rfl hput (dst:=o.dst) (fun d hd=>by rw [S.inv.size];exact S.dst d hd) (setRow_size _ _ _)
    unfold Oper.wp
    rw [hrun,Oper.upon_skip]
    have hws:s.put (leave true gy++[(rt r,.root k d' (bif gy.v.k.allsh then dep else min dep (lev p+gy.dp)) box false (upV ver'))]++slotW o.dst .none) =
      (((s.put (leave true gy)).set (rt r) (.root k d' (bif gy.v.k.allsh then dep else min dep (lev p+gy.dp)) box false (upV ver'))).put (slotW o.dst .none)):=by
     rw [State.put_append,State.put_append]
     rfl
    rw [State.put_append,hws]
    have hfin:∃G'',GOk Kp G'' ((((s.put (leave true gy)).set (rt r) (.root k d' (bif gy.v.k.allsh then dep else min dep (lev p+gy.dp)) box false (upV ver'))).put (slotW o.dst .none)).put (fzW Γ x box k r d' (bif gy.v.k.allsh then dep else min dep (lev p+gy.dp)) ver')) (a.put o.dst undef) (w.setRow B (cur.toList.take O++cs++cur.toList.drop (O+cs.length)).toArray):=by
     unfold fzW
     generalize fzOf Γ x=b0
     by_cases hfl:(b0&&box&&(k.flat||Nat.beq (bif gy.v.k.allsh then dep else min dep (lev p+gy.dp)) 0))=true
     ·rw [hfl]
      simp only [Bool.and_eq_true,Bool.or_eq_true] at hfl
      obtain ⟨⟨_,hbox⟩,hk0⟩:=hfl
      subst hbox
      have hroot:(((s.put (leave true gy)).set (rt r) (.root k d' (bif gy.v.k.allsh then dep else min dep (lev p+gy.dp)) true false (upV ver'))).put (slotW o.dst .none)) (rt r)=.root k d' (bif gy.v.k.allsh then dep else min dep (lev p+gy.dp)) true false (upV ver'):=by
       cases o.dst with
       | none=>exact State.set_same _ _ _
       | some d0=>
        show ((State.set _ (rt r) _).set (sl d0) .none) (rt r)=_
        rw [State.set_other _ _ (fun h=>sl_rt d0 r h.symm),State.set_same]
      exact ⟨_,freeze_ok g' (hk0.imp _root_.id fun h=>Nat.eq_of_beq_eq_true h) hroot⟩
     ·have hfl':(b0&&box&&(k.flat||Nat.beq (bif gy.v.k.allsh then dep else min dep (lev p+gy.dp)) 0))=false:=(Bool.not_eq_true _).mp hfl
      rw [hfl']
      exact ⟨G',g'⟩
    refine ⟨?_,?_,?_,hfin⟩
    ·cases o.dst<;>simp [Act.put,S.inv.defers]
    ·cases o.dst<;>simp [Act.put,S.inv.size]
    ·have hbase:=S.inv.base
     exact ⟨hbase.os,hbase.tape,hbase.output,by rw [setRow_size];exact hbase.size,fun b' hkb=>(hput.other b' fun eq=>hKB (eq▸hkb)).trans (hbase.kept b' hkb),hbase.old,hbase.gl⟩
   ·cases h5
  | _=>rw [hs] at h;simp [Rd.out] at h
 | _=>simp [Rd.out] at h
end
end Go.V
namespace Go.V
section
variable {P:Program} {Γ:Ctx} {Kp:Keep} {B0:World} {n:Nat} {G:Gh} {s:State} {a:Act} {w w':World} {id:Nat} {o:Oper} {Q:Exit->Act->World->Prop} {ws:Writes}
theorem tupV_at (w:World):∀(ks:List Kd) (j:Nat) (c:List Value) (d:(Kd.tuple ks).den) (v:V),getP (fld j) (Kd.tuple ks) d=some v->(tupV ks c)[j]? = some (mkVal v.k (subC w (fld j) (Kd.tuple ks) c)):=by
 intro ks
 induction ks with
 | nil=>intro j c d v h;cases j<;>simp [Kd.tuple,fld,getP] at h
 | cons k ks ih=>
  intro j c d v h
  cases j with
  | zero=>
   simp only [Kd.tuple,fld,getP,Option.some.injEq] at h
   subst h
   simp [tupV,Kd.tuple,fld,subC]
  | succ j=>
   simp only [Kd.tuple,fld,getP] at h
   have:=ih j (c.drop k.size) d.2 v h
   simpa [tupV,Kd.tuple,fld,subC] using this
theorem extract_ok (S:Set_ P Γ Kp B0 n G s a w o) {x:Operand} {j:Nat} (ho:o.op=.extract x j) (h:(opD Γ id o).out s=some ws) (hok:dstOk o ws=true) :
  o.wp P a w (fun a' w'=>Inv P Kp B0 n (s.put ws) a' w') Q:=by
 unfold opD at h
 rw [ho] at h
 simp only [Rd.out_bind,Option.bind_eq_some_iff] at h
 obtain ⟨c,h1,h⟩:=h
 have hc:=rdB_ok S.g h1
 cases c with
 | tal r=>
  simp only [Rd.out] at h
  simp only [CellOk] at hc
  cases hs:s (rt r) with
  | root k d dep box frz ver=>
   rw [hs] at h hc
   simp only [Rd.out_bind,Rd.out_opt,Option.bind_eq_some_iff,bif_out,Rd.out] at h
   obtain ⟨v,h2,h3⟩:=h
   obtain ⟨rfl,ks,rfl,hx⟩:=hc
   have hro:=S.g.roots r
   rw [hs] at hro
   have hat:∀(ks:List Kd) (j:Nat) (c:List Value) (d:(Kd.tuple ks).den) (v:V),getP (fld j) (Kd.tuple ks) d=some v->(tupV ks c)[j]? = some (mkVal v.k (subC w (fld j) (Kd.tuple ks) c)):=by
    intro ks
    induction ks with
    | nil=>intro j c d v h;cases j<;>simp [Kd.tuple,fld,getP] at h
    | cons k ks ih=>
     intro j c d v h
     cases j with
     | zero=>
      simp only [Kd.tuple,fld,getP,Option.some.injEq] at h
      subst h
      simp [tupV,Kd.tuple,fld,subC]
     | succ j=>
      simp only [Kd.tuple,fld,getP] at h
      have:=ih j (c.drop k.size) d.2 v h
      simpa [tupV,Kd.tuple,fld,subC] using this
   have hv:=hat ks j (G.C r) d v h2
   have hrun:(execOp a.eval o).run P w=.ok (.value (mkVal v.k (subC w (fld j) (Kd.tuple ks) (G.C r)))) w:=by
    unfold execOp
    rw [ho]
    simp [hx,Instr.extract,hv]
   have hrep:=getP_rep hro.1 (fld_ok h2) h2
   rcases bif_some h3 with ⟨h4,h5⟩ | ⟨_,h5⟩
   ·have h6:=Option.some.inj h5
    subst h6
    refine slot_ok S hok hrun ?_
    simp only [Bool.or_eq_true] at h4
    rcases h4 with h4 | h4
    ·exact flatCell h4 ⟨_,_,_,rfl,hrep⟩
    ·have h4:=Nat.eq_of_beq_eq_true h4
     subst h4
     exact ⟨_,rfl,hrep.move fun q b hs _=>by simpa [ownS,shS] using hs⟩
   ·have h6:=Option.some.inj h5
    subst h6
    refine slot_ok S hok hrun ?_
    simp only [CellOk]
    rw [hs]
    exact ⟨Nat.le_refl _,fun _=>⟨v,h2,fld_ok h2,rfl⟩⟩
  | _=>rw [hs] at h;simp [Rd.out] at h
 | tap r i ks y=>
  simp only [Rd.out_bind,Rd.out_opt,Option.bind_eq_some_iff,bif_out] at h
  obtain ⟨v,h2,h3⟩:=h
  simp only [CellOk] at hc
  obtain ⟨c,e1,e2,hc⟩:=hc
  have hv:=tupV_at w ks j c y v h2
  have hrun:(execOp a.eval o).run P w=.ok (.value (mkVal v.k (subC w (fld j) (Kd.tuple ks) c))) w:=by
   unfold execOp
   rw [ho]
   simp [e1,Instr.extract,hv]
  rw [cpart_sub w ks j c y v h2] at hrun
  rcases bif_some h3 with ⟨h4,h5⟩ | ⟨_,h5⟩
  ·have h6:=Option.some.inj h5
   subst h6
   exact slot_ok S hok hrun ⟨_,rfl,FRep.flat h4 (e2.part ks j c y v h2)⟩
  ·rcases bif_some h5 with ⟨h6,h7⟩ | ⟨_,h7⟩
   ·have h6:=Nat.eq_of_beq_eq_true h6
    subst h6
    simp only [Rd.out] at h7
    cases hs:s (rt r) with
    | root k d dep box frz ver=>
     rw [hs] at h7 hc
     have h8:=Option.some.inj h7
     subst h8
     obtain ⟨_,hC,z,hz,hk⟩:=hc
     rw [h2] at hz
     have hz:=Option.some.inj hz
     subst hz
     refine slot_ok S hok hrun ?_
     simp only [CellOk]
     rw [hs]
     exact ⟨Nat.le_refl _,fun _=>⟨⟨k,d⟩,rfl,trivial,by simp only [subC,hC,hk]⟩⟩
    | _=>rw [hs] at h7;simp [Rd.out] at h7
   ·simp [Rd.out] at h7
 | _=>simp [Rd.out] at h
theorem offF_le:∀{j:Nat} {k:Kd} {d:k.den} {y:V},getP (fld j) k d=some y->offF j k+y.k.size<=k.size:=by
 intro j
 induction j with
 | zero=>
  intro k d y h
  cases k with
  | pair a b=>simp only [fld,getP,Option.some.injEq] at h;subst h;simp only [offF,Kd.size];omega
  | _=>simp [fld,getP] at h
 | succ j ih=>
  intro k d y h
  cases k with
  | pair a b=>simp only [fld,getP] at h;have:=ih h;simp only [offF,Kd.size];omega
  | _=>simp [fld,getP] at h
theorem field_ok (S:Set_ P Γ Kp B0 n G s a w o) {t:TypeId} {x:Operand} {j:Nat} (ho:o.op=.field t x j) (h:(opD Γ id o).out s=some ws) (hok:dstOk o ws=true) :
  o.wp P a w (fun a' w'=>Inv P Kp B0 n (s.put ws) a' w') Q:=by
 unfold opD at h
 rw [ho] at h
 simp only [bif_out] at h
 rcases bif_some h with ⟨har,h⟩ | ⟨_,h⟩
 ·rw [Rd.out_bind,Option.bind_eq_some_iff] at h
  obtain ⟨c,h0,h⟩:=h
  rw [Rd.out_bind,Option.bind_eq_some_iff] at h
  obtain ⟨v,h1,h⟩:=h
  rw [bif_out] at h
  rcases bif_some h with ⟨hk,h⟩ | ⟨_,h⟩
  ·rw [Rd.out_bind,Rd.out_opt,Option.bind_eq_some_iff] at h
   obtain ⟨y,h3,h4⟩:=h
   obtain ⟨kk,hkk,hkv⟩:∃kk,Γ.tk t=some kk/\(v.k=kk\/v.k.bare=kk):=by
    simp only [Bool.or_eq_true,decide_eq_true_eq] at hk
    rcases hk with hk | hk
    ·exact ⟨_,hk,.inl rfl⟩
    ·exact ⟨_,hk,.inr rfl⟩
   have hagg:v.k.agg=true:=by
    cases hv:v.k with
    | pair a b=>rfl
    | unit=>rfl
    | _=>exfalso;obtain ⟨vk,vd⟩:=v;simp only at hv;subst hv;cases j<;>simp [fld,getP] at h3
   have hagk:kk.agg=true:=by
    rcases hkv with rfl | rfl
    ·exact hagg
    ·rw [Kd.bare_agg];exact hagg
   obtain ⟨d',y',hy,hoff,hsz,hag⟩:=or_bare hkv h3
   have hrun:∀c,a.eval x=mkVal v.k c->c.length=v.k.size->(execOp a.eval o).run P w=.ok (.value (mkVal y.k ((c.drop (offF j v.k)).take y.k.size))) w:=by
    intro c c1 hl
    rcases under_agg S.tab hkk hagk with ⟨fs,u1,u2,u3⟩ | ⟨m,e,u1,u2,u3⟩
    ·obtain ⟨f,f1,f2,f3,f4⟩:=fields_at u3 hy
     obtain ⟨kf,hkf,k1,k2⟩:∃kf,Γ.tk f.type=some kf/\kf.size=y.k.size/\kf.agg=y.k.agg:=f3.elim (fun h=>⟨_,h,hsz,hag⟩) fun h=>⟨_,h,(Kd.bare_size _).trans hsz,(Kd.bare_agg _).trans hag⟩
     have f1':fs[j]? = some f:=by simpa using f1
     have hle:=offF_le h3
     have hx:a.eval x=.agg c.toArray:=by rw [c1];simp [mkVal,hagg]
     have:=run_part S.tab hkf (cs:=c) (off:=f.offset) (by omega) w
     rw [f2,Nat.zero_add] at this
     have hm:mkVal kf ((c.drop (offF j kk)).take kf.size)=mkVal y.k ((c.drop (offF j v.k)).take y.k.size):=by
      rw [hoff,k1];unfold mkVal;rw [k2]
     rw [hm] at this
     unfold execOp
     rw [ho]
     simp [Instr.field,run_underlying u1,f1',hx,asAgg,f2,this]
    ·rw [u2] at har
     simp at har
   rw [bif_out] at h4
   rcases bif_some h4 with ⟨hf,h5⟩ | ⟨_,h5⟩
   ·simp only [Rd.out,Option.some.injEq] at h5
    subst h5
    obtain ⟨T,q,c,c1,c2⟩:=look_ok S.g (rdOp_ok S.g h0) h1
    refine slot_ok S hok (hrun c c1 c2.length) ?_
    have hrep:=getP_rep c2 (fld_ok h3) h3
    rw [subC_fld w h3] at hrep
    exact flatCell hf ⟨_,_,_,rfl,hrep⟩
   ·have hc:=rdOp_ok S.g h0
    have fin:∀(T:OwnS) (q:Path) (c:List Value),a.eval x=mkVal v.k c->Rep w T v.k q c v.d->(∀p b,shAt T (q++p) b->G.φ b=none)->(y.k.allsh=true \/ ∀p b,T (q++p) b->G.φ b=none)->ws=[(sl (o.dst.getD 4095),.val y.k.bare (y.k.bareD y.d))] ->
      o.wp P a w (fun a' w'=>Inv P Kp B0 n (s.put ws) a' w') Q:=by
     intro T q c c1 c2 H1 H2 hws
     subst hws
     refine slot_ok S hok (hrun c c1 c2.length) ?_
     have hrep:=getP_rep c2 (fld_ok h3) h3
     rw [subC_fld w h3] at hrep
     exact ⟨_,(mkVal_bare _ _).symm,hrep.bare [] (fun p b hs _=>H1 _ b (by rw [<- List.append_assoc];exact hs)) (H2.imp _root_.id fun H p b hs _=>H (fld j++p) b (by rw [<- List.append_assoc];exact hs))⟩
    cases c with
    | val k d=>
     simp only [look,Rd.out,Option.some.injEq] at h1
     subst h1
     simp only [Rd.out,Option.some.injEq] at h5
     obtain ⟨c,c1,c2⟩:=hc
     exact fin _ _ c c1 c2 (fun p b h=>shAt_sh.1 h) (.inr fun p b h=>h) h5.symm
    | al r p ver=>
     simp only [look,Rd.out] at h1
     cases hs:s (rt r) with
     | root k0 d0 dep box frz ver'=>
      rw [hs] at h1
      simp only [bif_out,Rd.out,Rd.out_opt] at h1
      rcases bif_some h1 with ⟨hv,h1⟩ | ⟨_,h1⟩
      ·have hro:=S.g.roots r
       rw [hs] at hro
       simp only [CellOk] at hc
       rw [hs] at hc
       obtain ⟨y',e1,e2,e3⟩:=hc.2 (verOk hv)
       rw [h1] at e1
       injection e1 with e1
       subst e1
       have hrep:=getP_rep hro.1 e2 h1
       simp only at h5
       rw [bif_out] at h5
       rcases bif_some h5 with ⟨ha,h5⟩ | ⟨_,h5⟩
       ·simp only [Rd.out,Option.some.injEq] at h5
        exact fin _ _ _ e3 hrep (fun p b h=>shAt_own.1 h) (.inl ha) h5.symm
       ·simp only [Rd.out] at h5
        rw [hs] at h5
        simp only [bif_out] at h5
        rcases bif_some h5 with ⟨hd,h5⟩ | ⟨_,h5⟩
        ·have hd:=Nat.eq_of_beq_eq_true hd
         subst hd
         simp only [Nat.beq_refl,cond_true,Rd.out,Option.some.injEq] at h5
         exact fin _ _ _ e3 hrep (fun p b h=>shAt_own.1 h) (.inr fun p b h=>by simpa [ownS] using h) h5.symm
        ·simp only [Rd.out,Option.some.injEq] at h5
         subst h5
         refine slot_ok S hok (hrun _ e3 hrep.length) ?_
         simp only [CellOk]
         rw [hs]
         refine ⟨Nat.le_refl _,fun _=>⟨y,(getP_append h1).trans h3,okP_append h1 e2 (fld_ok h3),?_⟩⟩
         rw [subC_append hro.1 e2 h1,subC_fld w h3]
      ·simp at h1
     | _=>rw [hs] at h1;simp [Rd.out] at h1
    | _=>simp [Rd.out] at h5
  ·simp [Rd.out] at h
 ·simp [Rd.out] at h
theorem index_ok (S:Set_ P Γ Kp B0 n G s a w o) {t:TypeId} {x y:Operand} (ho:o.op=.index t x y) (h:(opD Γ id o).out s=some ws) (hok:dstOk o ws=true) :
  o.wp P a w (fun a' w'=>Inv P Kp B0 n (s.put ws) a' w') Q:=by
 unfold opD at h
 rw [ho] at h
 simp only [Rd.out_bind,Option.bind_eq_some_iff] at h
 obtain ⟨k,h1,h⟩:=h
 have hk:=kindOf_ok h1
 have arrCase:(bif (Γ.ar t).isSome then (rdVt Γ t x).bind fun v=>(kindIs Γ t v.k).bind fun _=>atArr (arrLen k) y fun j=>(Rd.opt (getP (fld j) v.k v.d)).bind fun z=>bif z.k.flat then Rd.ret [(sl (o.dst.getD 4095),vcell z)] else Rd.fail else Rd.fail).out s=some ws ->
   o.wp P a w (fun a' w'=>Inv P Kp B0 n (s.put ws) a' w') Q:=by
  intro h
  simp only [bif_out,Rd.out] at h
  rcases bif_some h with ⟨har,h⟩ | ⟨_,h⟩
  ·simp only [Rd.out_bind,Option.bind_eq_some_iff] at h
   obtain ⟨v,h2,u,h3,h4⟩:=h
   have hk':=kindIs_ok h3
   rw [hk] at hk'
   injection hk' with hk'
   subst hk'
   obtain ⟨j,ik,j1,j2,h5⟩:=atArr_ok S.g h4
   simp only [Rd.out_bind,Option.bind_eq_some_iff,bif_out,Rd.out,Rd.out_opt] at h5
   obtain ⟨z,h6,h7⟩:=h5
   rcases bif_some h7 with ⟨hf,h8⟩ | ⟨_,h8⟩
   ·have h9:=Option.some.inj h8
    subst h9
    obtain ⟨T,q,c,c1,c2⟩:=rdVt_ok S.g h2
    have hagg:v.k.agg=true:=by
     cases hv:v.k with
     | pair a b=>rfl
     | unit=>rfl
     | _=>exfalso;obtain ⟨vk,vd⟩:=v;simp only at hv;subst hv;cases j<;>simp [fld,getP] at h6
    rcases under_agg S.tab hk hagg with ⟨fs,u1,u2,u3⟩ | ⟨m,e,u1,u2,u3⟩
    ·rw [u2] at har
     simp at har
    ·obtain ⟨f1,f2⟩:=arr_at u3 h6
     obtain ⟨i,zz,hr⟩:=row_of S.tab f1
     have hle:=offF_le h6
     have hl:=c2.length
     rw [arr_len u3] at j1
     have hrun:(execOp a.eval o).run P w=.ok (.value (mkVal z.k ((c.drop (offF j v.k)).take z.k.size))) w:=by
      have hx:a.eval x=.agg c.toArray:=by rw [c1];simp [mkVal,hagg]
      have:=run_part S.tab f1 (cs:=c) (off:=offF j v.k) (by omega) w
      rw [f2] at this
      unfold execOp
      rw [ho]
      simp [Instr.index,run_underlying u1,hx,j2,asIntOf,j1,run_size hr,f2,this]
     refine slot_ok S hok hrun ?_
     have hrep:=getP_rep c2 (fld_ok h6) h6
     rw [subC_fld w h6] at hrep
     exact flatCell hf ⟨_,_,_,rfl,hrep⟩
   ·cases h8
  ·cases h
 cases k with
 | str=>
  simp only [Rd.out_bind,Option.bind_eq_some_iff] at h
  obtain ⟨v,h2,h⟩:=h
  have hv:=rdVt_ok S.g h2
  obtain ⟨vk,vd⟩:=v
  cases vk with
  | str=>
   simp only [Rd.out_bind,Option.bind_eq_some_iff] at h
   obtain ⟨iv,h3,z,h4,h5⟩:=h
   have:=asInt_ok h4
   subst this
   have hi:=(rdV_ok S.g h3).int
   have hx:=hv.str
   simp only [Rd.out] at h5
   split at h5
   ·rename_i hin
    obtain ⟨i0,i1⟩:=idxIn_spec hin
    simp only [Option.some.injEq] at h5
    subst h5
    have hn:z.2.toNat<vd.size:=by omega
    have e:vd.data.getD z.2.toNat 0=vd[z.2.toNat]:=by
     have hn':z.2.toNat<vd.data.size:=hn
     simp only [Array.getD]
     rw [dif_pos hn']
     rfl
    refine slot_ok S hok (v:=.int .u8 ((vd[z.2.toNat]).toNat:Int)) ?_ (by rw [e];exact intCell _ _)
    unfold execOp
    rw [ho]
    have u:=under_str S.tab hk
    have hge:vd[z.2.toNat]? = some vd[z.2.toNat]:=by simp [hn]
    simp [Instr.index,run_underlying u,hx,hi,asIntOf,i0,hge]
   ·simp at h5
  | _=>simp [Rd.out] at h
 | slice e=>exact arrCase h
 | pair a' b'=>exact arrCase h
 | unit=>exact arrCase h
 | int ik=>exact arrCase h
 | bool=>exact arrCase h
 | bx k=>exact arrCase h
 | clo f a b=>exact arrCase h
 | ssl e=>exact arrCase h
theorem len_ok (S:Set_ P Γ Kp B0 n G s a w o) {ags:Array Operand} {ts:Array TypeId} (ho:o.op=.call { callee:=.builtin .len,args:=ags,argTypes:=ts }) (h:(opD Γ id o).out s=some ws) (hok:dstOk o ws=true) :
  o.wp P a w (fun a' w'=>Inv P Kp B0 n (s.put ws) a' w') Q:=by
 unfold opD at h
 rw [ho] at h
 simp only at h
 split at h
 ·rename_i x t ha ht
  have has:ags = #[x]:=by apply Array.ext';simpa using ha
  have hts:ts = #[t]:=by apply Array.ext';simpa using ht
  subst has hts
  have hexec:∀v w',(Builtin.len_ #[t] o.type #[a.eval x]).run P w=.ok v w'->(execOp a.eval o).run P w=.ok (.value v) w':=by
   intro v w' hrun
   unfold execOp
   rw [ho]
   simp [resolve,invoke,builtin,hrun]
  simp only [Rd.out_bind,Option.bind_eq_some_iff] at h
  obtain ⟨k,h1,h⟩:=h
  have hk:=kindOf_ok h1
  have arrCase:k.agg=true->(bif (Γ.ar t).isSome then Rd.ret [(sl (o.dst.getD 4095),Cell.val (.int .i64) (arrLen k:Int))] else Rd.fail).out s=some ws->o.wp P a w (fun a' w'=>Inv P Kp B0 n (s.put ws) a' w') Q:=by
   intro hagg h
   simp only [bif_out,Rd.out] at h
   rcases bif_some h with ⟨har,h⟩ | ⟨_,h⟩
   ·have h6:=Option.some.inj h
    subst h6
    rcases under_agg S.tab hk hagg with ⟨fs,u1,u2,u3⟩ | ⟨m,e,u1,u2,u3⟩
    ·rw [u2] at har
     simp at har
    ·refine slot_ok S hok (hexec (.int .i64 (arrLen k:Int)) w ?_) (intCell _ _)
     simp [Builtin.len_,run_underlying u1,arr_len u3,goInt]
   ·cases h
  have other:((rdOp Γ t x).bind fun c=>(look c).bind fun v=>(kindIs Γ t v.k).bind fun _=>match v with
     | ⟨.slice _,l⟩=>Rd.ret [(sl (o.dst.getD 4095),Cell.val (.int .i64) (List.length l:Int))]
     | ⟨.str,s⟩=>Rd.ret [(sl (o.dst.getD 4095),Cell.val (.int .i64) (s.size:Int))]
     | _=>Rd.fail).out s=some ws->o.wp P a w (fun a' w'=>Inv P Kp B0 n (s.put ws) a' w') Q:=by
   intro h
   simp only [Rd.out_bind,Option.bind_eq_some_iff] at h
   obtain ⟨c,h2,v,h3,u,h4,h5⟩:=h
   have hst:=look_ok S.g (rdOp_ok S.g h2) h3
   have hk':=kindIs_ok h4
   obtain ⟨vk,vd⟩:=v
   cases vk with
   | slice e=>
    have h6:=Option.some.inj h5
    subst h6
    obtain ⟨te,u1,_⟩:=under_slice S.tab hk'
    refine slot_ok S hok (hexec (.int .i64 (List.length vd:Int)) w ?_) (intCell _ _)
    rcases hst.slice with ⟨⟨_,e1⟩,e2⟩ | ⟨b,off,cap,e1,_⟩
    ·subst e2;rw [e1];simp [Builtin.len_,run_underlying u1,goInt]
    ·rw [e1];simp [Builtin.len_,run_underlying u1,goInt]
   | str=>
    have h6:=Option.some.inj h5
    subst h6
    refine slot_ok S hok (hexec (.int .i64 (vd.size:Int)) w ?_) (intCell _ _)
    rw [hst.str]
    simp [Builtin.len_,run_underlying (under_str S.tab hk'),goInt]
   | _=>simp [Rd.out] at h5
  cases k with
  | pair a' b'=>exact arrCase rfl h
  | unit=>exact arrCase rfl h
  | slice e=>exact other h
  | str=>exact other h
  | int ik=>exact other h
  | bool=>exact other h
  | bx k=>exact other h
  | clo f a b=>exact other h
  | ssl e=>exact other h
 ·simp [Rd.out] at h
end
end Go.V
namespace Go.V
theorem arrList_at:∀{k e:Kd} {d:k.den} {l:List e.den},arrList k e d=some l -> ∀i (h:i<l.length),getP (fld i) k d=some ⟨e,l.get ⟨i,h⟩⟩:=by
 intro k
 induction k with
 | pair a b iha ihb=>
  intro e d l h i hi
  simp only [arrList] at h
  split at h
  ·rename_i x r h1 h2
   simp only [Option.some.injEq] at h
   subst h
   have hc:=cast?_eq h1
   cases i with
   | zero=>simp only [fld,getP];rw [hc];rfl
   | succ i=>
    simp only [fld,getP]
    exact ihb h2 i (by simpa using hi)
  ·cases h
 | unit=>
  intro e d l h i hi
  simp only [arrList,Option.some.injEq] at h
  subst h
  simp at hi
 | _=>intro e d l h;simp [arrList] at h
theorem arrList_len:∀{k e:Kd} {d:k.den} {l:List e.den},arrList k e d=some l->l.length=arrLen k:=by
 intro k
 induction k with
 | pair a b iha ihb=>
  intro e d l h
  simp only [arrList] at h
  split at h
  ·rename_i x r h1 h2
   simp only [Option.some.injEq] at h
   subst h
   simp [arrLen,ihb h2]
  ·cases h
 | unit=>intro e d l h;simp only [arrList,Option.some.injEq] at h;subst h;rfl
 | _=>intro e d l h;simp [arrList] at h
theorem arr_size {tk:TypeId->Option Kd}:∀{n:Nat} {e:TypeId} {k ke:Kd},arrOk tk e n k=true->(0<n->tk e=some ke)->k.size=n*ke.size:=by
 intro n
 induction n with
 | zero=>intro e k ke h _;cases k<;>simp [arrOk] at h;simp [Kd.size]
 | succ n ih=>
  intro e k ke h hk
  cases k with
  | pair a b=>
   simp only [arrOk,Bool.and_eq_true,decide_eq_true_eq] at h
   have ha:a=ke:=by
    have:=hk (by omega)
    rw [h.1] at this
    exact Option.some.inj this
   subst ha
   simp only [Kd.size]
   rw [ih h.2 (fun _=>h.1),Nat.add_mul]
   omega
  | _=>simp [arrOk] at h
section
variable {P:Program} {Γ:Ctx} {Kp:Keep} {B0:World} {n:Nat} {G:Gh} {s:State} {a:Act} {w w':World} {id:Nat} {o:Oper} {Q:Exit->Act->World->Prop} {ws:Writes}
theorem got_look {x:Operand} {c:Cell} {g:Got} {v:V} (h:(got Γ x c).out s=some g) (h':(look c).out s=some v):g.v=v:=by
 cases c with
 | cst k d=>simp only [got,look,Rd.out,Option.some.injEq] at h h';subst h h';rfl
 | val k d=>simp only [got,look,Rd.out,Option.some.injEq] at h h';subst h h';rfl
 | al r p ver=>
  simp only [got,look,Rd.out] at h h'
  cases hs:s (rt r) with
  | root k d dep box frz ver'=>
   rw [hs] at h h'
   simp only [bif_out,Rd.out_bind,Rd.out_opt,Rd.out] at h h'
   rcases bif_some h with ⟨_,h1⟩ | ⟨_,h1⟩
   ·rcases bif_some h' with ⟨_,h2⟩ | ⟨_,h2⟩
    ·rw [h2] at h1
     simp only [Option.bind_some] at h1
     rcases bif_some h1 with ⟨_,h3⟩ | ⟨_,h3⟩
     ·have:=Option.some.inj h3;subst this;rfl
     ·rcases bif_some h3 with ⟨_,h4⟩ | ⟨_,h4⟩
      ·have:=Option.some.inj h4;subst this;rfl
      ·rcases bif_some h4 with ⟨_,h5⟩ | ⟨_,h5⟩
       ·have:=Option.some.inj h5;subst this;rfl
       ·have:=Option.some.inj h5;subst this;rfl
    ·cases h2
   ·cases h1
  | _=>rw [hs] at h;simp [Rd.out] at h
 | fn f=>
  simp only [got,look,Rd.out,Option.some.injEq] at h h'
  subst h h'
  rfl
 | _=>simp [got,Rd.out] at h
theorem optI_ok (g:GOk Kp G s a w) {x:Option Operand} {z r:Int} (h:(optI x z).out s=some r):(x=none/\r=z) \/ ∃y ik,x=some y/\a.eval y=.int ik r:=by
 unfold optI at h
 cases x with
 | none=>simp only [Rd.out,Option.some.injEq] at h;exact .inl ⟨rfl,h.symm⟩
 | some y=>
  simp only [Rd.out_bind,Option.bind_eq_some_iff,Rd.out,Option.some.injEq] at h
  obtain ⟨v,h1,u,h2,h3⟩:=h
  subst h3
  have:=asInt_ok h2
  subst this
  exact .inr ⟨y,_,rfl,(rdV_ok g h1).int⟩
theorem run_bounds (g:GOk Kp G s a w) {isS:Bool} {len cap:Nat} {lo hi:Option Operand} {l h:Int} (hl:(optI lo 0).out s=some l) (hh:(optI hi (len:Int)).out s=some h) (h0:0<=l) (h1:l<=h) (h2:h<=(cap:Int)) :
  (Instr.sliceBounds isS len cap (lo.map a.eval) (hi.map a.eval) none).run P w=.ok (l.toNat,h.toNat,cap) w:=by
 have e1:l<=((h.toNat:Nat):Int):=by omega
 have e2:0<=h:=by omega
 have k1:∀ik code (w:World),(Instr.sliceBound (.int ik h) cap code).run P w=.ok h.toNat w:=fun ik code w=>by apply run_sliceBound<;>assumption
 have k2:∀ik code (w:World),(Instr.sliceBound (.int ik l) h.toNat code).run P w=.ok l.toNat w:=fun ik code w=>by apply run_sliceBound<;>assumption
 rcases optI_ok g hl with ⟨rfl,rfl⟩ | ⟨y,ik,rfl,hy⟩<;>rcases optI_ok g hh with ⟨rfl,rfl⟩ | ⟨y',ik',rfl,hy'⟩
 ·simp [Instr.sliceBounds]
 ·simp [Instr.sliceBounds,hy',k1]
 ·simp only [Int.toNat_natCast] at k2
  simp [Instr.sliceBounds,hy,k2]
 ·simp [Instr.sliceBounds,hy,hy',k1,k2]
theorem sub_get {α:Type} {l:List α} {lo hi:Int} (h0:0<=lo) (h1:lo<=hi) (h2:hi<=(l.length:Int)):(sub_ l lo hi).length=hi.toNat-lo.toNat /\
  ∀i (h:i<(sub_ l lo hi).length),∃h':lo.toNat+i<l.length,(sub_ l lo hi).get ⟨i,h⟩=l.get ⟨lo.toNat+i,h'⟩:=by
 have hl:(sub_ l lo hi).length=hi.toNat-lo.toNat:=by simp only [sub_,List.length_drop,List.length_take];omega
 refine ⟨hl,fun i hi'=>⟨by omega,?_⟩⟩
 simp [sub_]
theorem arr_rep {S':OwnS} {k:Kd} {te:TypeId} {m:Nat} {tk:TypeId->Option Kd} {a0 b0:Kd} (hk:k=.pair a0 b0) (u3:arrOk tk te m k=true) {T:OwnS} {q:Path} {B O:Nat} {d:k.den} {l:List a0.den}
  (hr:Rep w T k q (cellsAt w B O k.size) d) (hb:BlockOk w B (O+k.size)) (hl:arrList k a0 d=some l)
  (hmove:∀j (h:j<l.length) c,Rep w T a0 (q++fld j) c (l.get ⟨j,h⟩)->Rep w S' a0 [.i j] c (l.get ⟨j,h⟩)) (hS:S' [] B) :
  Rep w S' (.slice a0) [] [.slice (some ⟨B,O,none⟩) m m] l:=by
 have hlen:=arrList_len hl
 rw [arr_len u3] at hlen
 have hsz:k.size=m*a0.size:=by
  refine arr_size u3 fun hm => ?_
  subst hk
  cases m with
  | zero=>omega
  | succ m=>simp only [arrOk,Bool.and_eq_true,decide_eq_true_eq] at u3;exact u3.1
 simp only [Rep]
 refine .inr ⟨B,O,m,by rw [hlen],by omega,hS,by rw [<- hsz];exact hb,fun i hi => ?_⟩
 have hg:=arrList_at hl i hi
 have hrep:=getP_rep hr (fld_ok hg) hg
 rw [subC_fld w hg] at hrep
 obtain ⟨_,f2⟩:=arr_at u3 hg
 simp only at f2 hrep
 rw [f2] at hrep
 have hle:(i+1)*a0.size<=m*a0.size:=Nat.mul_le_mul_right _ (by omega)
 rw [Nat.add_mul] at hle
 rw [cellsAt_chunk (by rw [hsz];omega)] at hrep
 exact hmove i hi _ hrep
theorem slice_ok (S:Set_ P Γ Kp B0 n G s a w o) {t:TypeId} {x:Operand} {lo hi:Option Operand} (ho:o.op=.slice t x lo hi none) (h:(opD Γ id o).out s=some ws) (hok:dstOk o ws=true) :
  o.wp P a w (fun a' w'=>Inv P Kp B0 n (s.put ws) a' w') Q:=by
 unfold opD at h
 rw [ho] at h
 simp only [Rd.out_bind,Option.bind_eq_some_iff,Rd.out,Option.some.injEq,sliceR] at h
 obtain ⟨r0,⟨c,h1,h⟩,hws⟩:=h
 subst hws
 have hc:=rdOp_ok S.g h1
 have hexec:∀v,(Instr.sliceAt t (a.eval x) (lo.map a.eval) (hi.map a.eval) none).run P w=.ok v w->(execOp a.eval o).run P w=.ok (.value v) w:=by
  intro v hrun
  unfold execOp
  rw [ho]
  simp only [Option.map_none]
  simp [hrun]
 -- what remains: strings and slices
 have plain:((look c).bind fun v=>(kindIs Γ t v.k).bind fun _=>
  match v with
  | ⟨.str,s⟩=>(optI lo 0).bind fun l=>(optI hi s.size).bind fun h=>
    Rd.ite (decide (0<=l)&&decide (l<=h)&&decide (h<=(s.size:Int))) (.ret (Cell.val .str (subS s l h),([]:Writes))) .fail
  | ⟨.slice e,d⟩=>(got Γ x c).bind fun g=>(optI lo 0).bind fun l=>(optI hi (List.length d)).bind fun h=>
    Rd.ite (decide (0<=l)&&decide (l<=h)&&decide (h<=(List.length d:Int))) (.ret (Cell.val (.slice e) (sub_ d l h),leave false g)) .fail
  | _=>.fail).out s=some r0 ->
   o.wp P a w (fun a' w'=>Inv P Kp B0 n (s.put (r0.2++[(sl (o.dst.getD 4095),r0.1)])) a' w') Q:=by
  intro h
  simp only [Rd.out_bind,Option.bind_eq_some_iff] at h
  obtain ⟨v,h2,u,hk,h3⟩:=h
  have hk:=kindIs_ok hk
  have hst:=look_ok S.g hc h2
  obtain ⟨vk,vd⟩:=v
  cases vk with
  | str=>
   simp only [Rd.out_bind,Option.bind_eq_some_iff,Rd.out] at h3
   obtain ⟨l,h4,h',h5,h6⟩:=h3
   split at h6
   ·rename_i hb
    simp only [Bool.and_eq_true,decide_eq_true_eq] at hb
    obtain ⟨⟨b1,b2⟩,b3⟩:=hb
    have h7:=Option.some.inj h6
    subst h7
    refine slot_ok S hok (hexec (.string (subS vd l h')) ?_) (strCell _)
    rw [hst.str]
    have hu:=under_str S.tab hk
    have hbs:=run_bounds (P:=P) (w:=w) S.g (isS:=false) (cap:=vd.size) h4 h5 b1 b2 b3
    simp [Instr.sliceAt,run_underlying hu,Instr.slice,hbs,subS]
   ·cases h6
  | slice e=>
   simp only [Rd.out_bind,Option.bind_eq_some_iff,Rd.out] at h3
   obtain ⟨gx,h3',l,h4,h',h5,h6⟩:=h3
   split at h6
   ·rename_i hb
    simp only [Bool.and_eq_true,decide_eq_true_eq] at hb
    obtain ⟨⟨b1,b2⟩,b3⟩:=hb
    have h7:=Option.some.inj h6
    subst h7
    have hg:=got_ok S.g hc h3'
    have hgv:gx.v=⟨.slice e,vd⟩:=got_look h3' h2
    obtain ⟨G1,cs,g1,x1,hh,eC,eβ,n1,o1,m1⟩:=leave_ok S.g hg false
    obtain ⟨te,u1,u2,u3⟩:=under_slice S.tab hk
    obtain ⟨ti,tz,hr⟩:=row_of S.tab u2
    rw [hgv] at hh x1
    have hsh:Rep w (shS G1.φ) (.slice e) [] cs vd:=by
     simp only [cond_false] at hh
     have e0:fromOf false gx=none:=rfl
     rw [e0] at hh
     generalize hn:(none:Option (Nat×Path))=no at hh
     generalize hz:(0:Nat)=zo at hh
     cases hh with
     | free _ h=>exact h.frame fun q b _ hs _=>hs.elim
     | shared h=>exact h
     | dead r p _ _ _=>cases hn
    obtain ⟨g2,g3⟩:=sub_get b1 b2 b3
    have hS1:Inv P Kp B0 n (s.put (leave false gx)) a w:=⟨S.inv.defers,S.inv.size,S.inv.base,G1,g1⟩
    have hput:∀(c:Cell),s.put (leave false gx++[(sl (o.dst.getD 4095),c)])=(s.put (leave false gx)).put [(sl (o.dst.getD 4095),c)]:=fun c=>State.put_append _ _ _
    obtain ⟨d,hd⟩:=dst_some (c:=.val (.slice e) (sub_ vd l h')) hok (by simp)
    have key:∀(v:Value),(Instr.sliceAt t (a.eval x) (lo.map a.eval) (hi.map a.eval) none).run P w=.ok v w->Rep w (shS G1.φ) (.slice e) [] [v] (sub_ vd l h') ->
      o.wp P a w (fun a' w'=>Inv P Kp B0 n (s.put (leave false gx++[(sl (o.dst.getD 4095),.val (.slice e) (sub_ vd l h'))])) a' w') Q:=by
     intro v hrun hrep
     refine wp_value (hexec v hrun) ?_
     rw [hput,hd]
     simp only [Option.getD_some]
     exact hS1.slot g1 (S.dst d hd) ⟨[v],rfl,hrep⟩
    have hle:h'.toNat<=List.length vd:=by omega
    have hll:l.toNat<=h'.toNat:=by omega
    simp only [Rep] at hsh
    rcases hsh with ⟨⟨sb,k1⟩,k2⟩ | ⟨b,off,cap,k1,k2,k3,k4,k5⟩
    ·subst k1 k2
     have hx:a.eval x=.slice sb 0 0:=x1
     have hl0:l=0:=by simp at b3;omega
     have hh0:h'=0:=by simp at b3;omega
     have hbs:=run_bounds (P:=P) (w:=w) S.g (isS:=true) (cap:=0) h4 h5 b1 b2 (by simpa using b3)
     subst hl0 hh0
     refine key (.slice sb 0 0) ?_ ?_
     ·rw [hx]
      simp at hbs
      simp [Instr.sliceAt,run_underlying u1,Instr.slice,hbs,run_size hr]
     ·simp [Rep,sub_]
    ·subst k1
     have hx:a.eval x=.slice (some ⟨b,off,none⟩) (List.length vd) cap:=x1
     have hbs:=run_bounds (P:=P) (w:=w) S.g (isS:=true) (cap:=cap) h4 h5 b1 b2 (by omega)
     refine key (.slice (some ⟨b,if cap=l.toNat then off else off+l.toNat*e.size,none⟩) (h'.toNat-l.toNat) (cap-l.toNat)) ?_ ?_
     ·rw [hx]
      by_cases hc:cap=l.toNat
      ·subst hc
       simp [Instr.sliceAt,run_underlying u1,Instr.slice,hbs,run_size hr]
      ·simp [Instr.sliceAt,run_underlying u1,Instr.slice,hbs,run_size hr,hc,add_mk]
     ·simp only [Rep]
      refine .inr ⟨b,_,cap-l.toNat,by rw [g2],by rw [g2];omega,k3,?_,fun i hi => ?_⟩
      ·obtain ⟨cur,T,fr,q1,q2⟩:=k4
       refine ⟨cur,T,fr,q1,?_⟩
       split
       ·rw [Nat.sub_mul];omega
       ·have:l.toNat*e.size<=cap*e.size:=Nat.mul_le_mul_right _ (by omega)
        rw [Nat.sub_mul];omega
      ·obtain ⟨i',hget⟩:=g3 i hi
       have:=k5 _ i'
       have hc:cap≠l.toNat:=by omega
       rw [if_neg hc,Nat.add_assoc,<- Nat.add_mul,hget]
       exact this.move fun p b hs _=>hs
   ·cases h6
  | _=>simp [Rd.out] at h3
 have arr:∀(a0 b0:Kd),Γ.tk t=some (.pair a0 b0)->(Γ.ar t).isSome=true -> ∃m te,P.underlying t=some (.array m te)/\arrOk Γ.tk te m (.pair a0 b0)=true:=by
  intro a0 b0 hk har
  rcases under_agg S.tab hk rfl with ⟨fs,u1,u2,u3⟩ | ⟨m,e,u1,u2,u3⟩
  ·rw [u2] at har
   simp at har
  ·exact ⟨m,e,u1,u3⟩
 have arun:∀(m:Nat) (te:TypeId) (a0 b0:Kd) (B O:Nat),P.underlying t=some (.array m te)->arrOk Γ.tk te m (.pair a0 b0)=true->a.eval x=.pointer (some ⟨B,O,none⟩)->lo=none->hi=none ->
   (Instr.sliceAt t (a.eval x) (lo.map a.eval) (hi.map a.eval) none).run P w=.ok (.slice (some ⟨B,O,none⟩) m m) w:=by
  intro m te a0 b0 B O u1 u3 hx hlo hhi
  subst hlo hhi
  have hte:∃ke,Γ.tk te=some ke:=by
   cases m with
   | zero=>simp [arrOk] at u3
   | succ m=>simp only [arrOk,Bool.and_eq_true,decide_eq_true_eq] at u3;exact ⟨_,u3.1⟩
  obtain ⟨ke,hte⟩:=hte
  obtain ⟨ti,tz,hr⟩:=row_of S.tab hte
  by_cases hm:m=0
  ·subst hm
   simp [Instr.sliceAt,run_underlying u1,hx,Instr.sureAddr,Instr.sliceBounds,run_size hr]
  ·simp [Instr.sliceAt,run_underlying u1,hx,Instr.sureAddr,Instr.sliceBounds,run_size hr,add_mk]
 cases c with
 | ptr r p ver=>
  simp only [Rd.out] at h
  cases hs:s (rt r) with
  | root k d dep box frz ver'=>
   rw [hs] at h
   cases box with
   | false=>simp [Rd.out] at h
   | true=>
    simp only [bif_out] at h
    rcases bif_some h with ⟨h2,h3⟩ | ⟨_,h3⟩
    ·simp only [Bool.and_eq_true,List.isEmpty_iff,Option.isNone_iff_eq_none] at h2
     obtain ⟨⟨⟨rfl,hf⟩,hlo⟩,hhi⟩:=h2
     cases k with
     | pair a0 b0=>
      simp only [Rd.out_bind,Option.bind_eq_some_iff,bif_out,Rd.out] at h3
      obtain ⟨u,h4,h5⟩:=h3
      have hk:=kindIs_ok h4
      rcases bif_some h5 with ⟨har,h6⟩ | ⟨_,h6⟩
      ·simp only [Rd.out_opt,Option.bind_eq_some_iff] at h6
       obtain ⟨l,h7,h8⟩:=h6
       have h9:=Option.some.inj h8
       subst h9
       obtain ⟨m,te,u1,u3⟩:=arr a0 b0 hk har
       obtain ⟨y,B,O,e1,e2,e3,e4,e5,e6,e7,hro⟩:=ptr_open S.g hc hs (by simp [noIdx])
       simp only [getP,Option.some.injEq] at e1
       subst e1
       simp only [subA,home,cond_true,Option.some.injEq,Prod.mk.injEq] at e3
       obtain ⟨eB,eO⟩:=e3
       have g1:=freeze_ok S.g (.inl hf) hs
       have hS1:Inv P Kp B0 n (s.set (rt r) (.root (.pair a0 b0) d dep true true (ver'+1))) a w:=⟨S.inv.defers,S.inv.size,S.inv.base,_,g1⟩
       obtain ⟨dd,hd⟩:=dst_some (c:=.val (.slice a0) l) hok (by simp)
       refine wp_value (hexec _ (arun m te a0 b0 B O u1 u3 e4 hlo hhi)) ?_
       rw [hd]
       simp only [Option.getD_some]
       simp only [Kd.flat,Bool.and_eq_true] at hf
       exact hS1.slot g1 (S.dst dd hd) ⟨[.slice (some ⟨B,O,none⟩) m m],rfl,arr_rep rfl u3 e7 e6 h7 (fun j hj c hrep=>hrep.flat w _ _ hf.1) (by simp [shS,eB])⟩
      ·cases h6
     | _=>simp [Rd.out] at h3
    ·cases h3
  | _=>rw [hs] at h;simp [Rd.out] at h
 | sptr k d=>
  cases k with
  | pair a0 b0=>
   simp only [Rd.out_bind,Option.bind_eq_some_iff,bif_out,Rd.out] at h
   obtain ⟨u,h4,h5⟩:=h
   have hk:=kindIs_ok h4
   rcases bif_some h5 with ⟨h2,h6⟩ | ⟨_,h6⟩
   ·simp only [Rd.out_opt,Option.bind_eq_some_iff,Bool.and_eq_true,Option.isNone_iff_eq_none] at h6 h2
    obtain ⟨⟨hlo,hhi⟩,har⟩:=h2
    obtain ⟨l,h7,h8⟩:=h6
    have h9:=Option.some.inj h8
    subst h9
    obtain ⟨m,te,u1,u3⟩:=arr a0 b0 hk har
    obtain ⟨B,O,e1,e2,e3,e4⟩:=hc
    refine slot_ok S hok (hexec _ (arun m te a0 b0 B O u1 u3 e1 hlo hhi)) ⟨[.slice (some ⟨B,O,none⟩) m m],rfl,?_⟩
    exact arr_rep rfl u3 e4 e3 h7 (fun j hj c hrep=>hrep.move fun p b hs _=>hs) e2
   ·cases h6
  | _=>simp [Rd.out,look,Rd.bind] at h
 | none=>exact plain h
 | dead=>exact plain h
 | undf=>exact plain h
 | nlq=>exact plain h
 | fal=>exact plain h
 | apd=>exact plain h
 | tap=>exact plain h
 | val k d=>exact plain h
 | cst k d=>exact plain h
 | al r p ver=>exact plain h
 | tal r=>exact plain h
 | fn f=>exact plain h
 | root=>exact plain h
end
end Go.V
namespace Go.V
inductive Lab
 | res (q:Path)
 | io (i:Nat) (q:Path)
def lvS (n:Nat) (T:OwnS) (sh:Nat->Prop):OwnS:=fun q b=>if lev q<n then T q b else sh b
theorem shAt_lv {n:Nat} {T:OwnS} {sh:Nat->Prop} {q:Path} {b:Nat}:shAt (lvS n T sh) q b↔sh b:=by
 constructor
 ·intro ⟨m,h⟩
  have:=h (List.replicate (m+n) (.i 0)) (by rw [lev_rep];omega)
  unfold lvS at this
  rw [if_neg (by rw [lev_app,lev_rep];omega)] at this
  exact this
 ·intro h
  refine ⟨n,fun p hp => ?_⟩
  unfold lvS
  rw [if_neg (by rw [lev_app];omega)]
  exact h
def RepL (w:World) (T:OwnS) (sh:Nat->Prop) (dp:Bool):(k:Kd)->List Value->k.den->Prop
 | .bx k,c,d => ∃b cs ty,c=[.pointer (some ⟨b,0,none⟩)]/\w.heap[b]? = some (.cells cs ty (0,0))/\T [] b/\Rep w (bif dp then lvS k.lev (fun q b=>T (.i 0::q) b) sh else fun _ b=>sh b) k [] cs.toList d
 | k,c,d=>Rep w T k [] c d
theorem RepL.of {w:World} {T:OwnS} {sh:Nat->Prop} {dp:Bool} {k:Kd} {c:List Value} {d:k.den} (h:k.isBx=false):RepL w T sh dp k c d=Rep w T k [] c d:=by
 cases k<;>first | rfl | simp [Kd.isBx] at h
theorem isBx_of {k:Kd} (h:k.isBx=true):∃k',k=.bx k':=by
 cases k<;>simp [Kd.isBx] at h
 exact ⟨_,rfl⟩
def ArgsOk (m:Md) (w:World) (ψ:Nat->Option (Nat×Path)) (U:Nat->Prop):Nat->(ps:List (Kd×Bool))->List Value->(Kd.tuple (ps.map (·.1))).den->Prop
 | _,[],vs,_=>vs=[]
 | i,(k,io)::ps,vs,d => ∃c r,vs=mkVal k c::r/\(bif io then RepL w (fun q b=>ψ b=some (i,q)) U (m.d i) k c d.1 else Rep w (fun _ b=>U b) k [] c d.1)/\ArgsOk m w ψ U (i+1) ps r d.2
def IoOk (m:Md) (w':World) (χ:Nat->Option Lab) (sh:Nat->Prop):Nat->(ps:List (Kd×Bool))->List Value->(Kd.tuple ((ps.filter (·.2)).map (·.1))).den->Prop
 | _,[],_,_=>True
 | i,(k,true)::ps,vs,d=>(m.g i=false -> ∃c,vs.head? = some (mkVal k c)/\c.length=k.size/\RepL w' (fun q b=>χ b=some (.io i q)) sh (m.d i) k c d.1)/\IoOk m w' χ sh (i+1) ps vs.tail d.2
 | i,(_,false)::ps,vs,d=>IoOk m w' χ sh (i+1) ps vs.tail d
def ResVal:List Kd->Value->List Value->Prop
 | [],_,_=>True
 | [k],v,c=>v=mkVal k (c.take k.size)
 | ks,v,c=>v=.tuple (tupV ks c).toArray
structure Post (g:FSig) (ψ:Nat->Option (Nat×Path)) (U:Nat->Prop) (vs:List Value) (w:World) (out:(Kd.tuple (g.rs++(g.ps.filter (·.2)).map (·.1))).den) (χ:Nat->Option Lab) (v:Value) (w':World):Prop where
 os:w'.os=w.os
 tape:w'.tape=w.tape
 output:w'.output=w.output
 size:w.heap.size<=w'.heap.size
 kept:∀b,b<w.heap.size->ψ b=none->w'.heap[b]? = w.heap[b]?
 col:∀b z,χ b=some z->(w.heap.size<=b\/ψ b≠none)/\Live w' (b)
 res:∃c,ResVal g.rs v c/\Rep w' (bif g.own then lvS (Kd.tuple g.rs).lev (fun q b=>χ b=some (.res q)) (fun b=>χ b=none/\(U b\/w.heap.size<=b\/ψ b≠none)) else fun _ b=>χ b=none/\(U b\/w.heap.size<=b\/ψ b≠none)) (Kd.tuple g.rs) [] c (splitT g.rs _ out).1
 io:IoOk md0 w' χ (fun b=>χ b=none/\(U b\/w.heap.size<=b\/ψ b≠none)) 0 g.ps vs (splitT g.rs _ out).2
structure PostG (m:Md) (wh:Bool) (g:FSig) (ψ:Nat->Option (Nat×Path)) (U:Nat->Prop) (vs:List Value) (w:World) (out:(Kd.tuple (g.rs++(g.ps.filter (·.2)).map (·.1))).den) (χ:Nat->Option Lab) (v:Value) (w':World):Prop where
 os:w'.os=w.os
 tape:w'.tape=w.tape
 output:w'.output=w.output
 size:w.heap.size<=w'.heap.size
 kept:∀b,b<w.heap.size->ψ b=none->w'.heap[b]? = w.heap[b]?
 col:∀b z,χ b=some z->(w.heap.size<=b\/ψ b≠none)/\Live w' (b)
 res:∃c,ResVal g.rs v c/\Rep w' (bif g.own then lvS (Kd.tuple g.rs).lev (fun q b=>χ b=some (.res q)) (fun b=>χ b=none/\(U b\/w.heap.size<=b\/ψ b≠none)) else fun _ b=>χ b=none/\(U b\/w.heap.size<=b\/ψ b≠none)) (Kd.tuple g.rs) [] c (splitT g.rs _ out).1
 io:IoOk m w' χ (fun b=>χ b=none/\(U b\/w.heap.size<=b\/ψ b≠none)) 0 g.ps vs (splitT g.rs _ out).2
 whole:wh=true->g.own=true -> ∀k,g.rs=[.bx k] -> ∃b cs ty,v=.pointer (some ⟨b,0,none⟩)/\w'.heap[b]? = some (.cells cs ty (0,0))/\cs.size=k.size
def CallsTo (P:Program) (f:FuncId) (args:Array Value) (w:World) (R:Value->World->Prop):Prop:=
 match (callFunc f args).run P w with
 | .ok (.value v) w'=>R v w'
 | .ok (.enter f args) w'=>Calls P f args w' fun
   | .returned v,w''=>R v w''
   | _,_=>False
 | .ok (.row row args) w'=>Rows P row args w' R
 | _=>False
def Gl (P:Program) (w:World) (ψ:Nat->Option (Nat×Path)):Prop := ∀b,IsVar P b->ψ b=none/\VarOk P b w
def Contract (P:Program) (f:FuncId) (g:FSig):Prop:=
 ∀(w:World) (ψ:Nat->Option (Nat×Path)) (U:Nat->Prop) (vs:List Value) (d:(Kd.tuple (g.ps.map (·.1))).den) (out:(Kd.tuple (g.rs++(g.ps.filter (·.2)).map (·.1))).den),
  ArgsOk md0 w ψ U 0 g.ps vs d->(∀b,U b->ψ b=none)->(∀b z,ψ b=some z->Live w (b))->Gl P w ψ->g.F d=some out ->
  CallsTo P f vs.toArray w fun v w' => ∃χ,Post g ψ U vs w out χ v w'
def frU (m:Md) (U:Nat->Prop):Nat->Prop:=bif m.fr then fun _=>False else U
def ContractG (P:Program) (f:FuncId) (g:FSig×Md):Prop:=
 ∀(w:World) (ψ:Nat->Option (Nat×Path)) (U:Nat->Prop) (vs:List Value) (d:(Kd.tuple (g.1.ps.map (·.1))).den) (out:(Kd.tuple (g.1.rs++(g.1.ps.filter (·.2)).map (·.1))).den),
  ArgsOk g.2 w ψ U 0 g.1.ps vs d->(∀b,U b->ψ b=none)->(∀b z,ψ b=some z->Live w (b))->Gl P w ψ->g.1.F d=some out ->
  CallsTo P f vs.toArray w fun v w' => ∃χ,PostG g.2 true g.1 ψ (frU g.2 U) vs w out χ v w'
theorem CallsTo.mono {P:Program} {f:FuncId} {args:Array Value} {w:World} {R R':Value->World->Prop} (h:CallsTo P f args w R) (hR:∀v w',R v w'->R' v w'):CallsTo P f args w R':=by
 unfold CallsTo at h |-
 cases hr:(callFunc f args).run P w with
 | ok x w1=>
  rw [hr] at h
  cases x with
  | value v=>exact hR _ _ h
  | enter f' args'=>
   refine Calls.mono h fun e w'' he => ?_
   cases e with
   | returned v=>exact hR _ _ he
   | panicked chain=>exact he.elim
   | outgrown=>exact he.elim
  | row row args'=>exact Rows.mono h fun v w'' he=>hR _ _ he
  | _=>exact h.elim
 | halt x w1=>rw [hr] at h;exact h.elim
theorem Post.toG {g:FSig} {ψ:Nat->Option (Nat×Path)} {U:Nat->Prop} {vs:List Value} {w:World} {out:(Kd.tuple (g.rs++(g.ps.filter (·.2)).map (·.1))).den} {χ:Nat->Option Lab} {v:Value} {w':World} (p:Post g ψ U vs w out χ v w'):PostG md0 false g ψ U vs w out χ v w':=
 ⟨p.os,p.tape,p.output,p.size,p.kept,p.col,p.res,p.io,fun h=>by cases h⟩
theorem PostG.toPost {g:FSig} {wh:Bool} {ψ:Nat->Option (Nat×Path)} {U:Nat->Prop} {vs:List Value} {w:World} {out:(Kd.tuple (g.rs++(g.ps.filter (·.2)).map (·.1))).den} {χ:Nat->Option Lab} {v:Value} {w':World} (p:PostG md0 wh g ψ U vs w out χ v w'):Post g ψ U vs w out χ v w':=
 ⟨p.os,p.tape,p.output,p.size,p.kept,p.col,p.res,p.io⟩
theorem ContractG.plain {P:Program} {f:FuncId} {g:FSig} (h:ContractG P f (g,md0)):Contract P f g:=
 fun w ψ U vs d out h1 h2 h3 h4 h5=>(h w ψ U vs d out h1 h2 h3 h4 h5).mono fun v w' ⟨χ,p⟩=>⟨χ,p.toPost⟩
theorem Rep.lmove {w:World} {S S':OwnS}:∀{k:Kd} {q q':Path} {c:List Value} {d:k.den},Rep w S k q c d->(∀p b,lev p<k.lev->S (q++p) b->b<w.heap.size->S' (q'++p) b) ->
  (k.nossl=true \/ ∀p b,shAt S (q++p) b->b<w.heap.size->shAt S' (q'++p) b)->Rep w S' k q' c d:=by
 intro k
 induction k generalizing S S' with
 | int ik=>intro q q' c d h _ _;exact h
 | bool=>intro q q' c d h _ _;exact h
 | str=>intro q q' c d h _ _;exact h
 | slice e ih=>
  intro q q' c d h H1 H2
  simp only [Rep] at h |-
  rcases h with h | ⟨b,off,cap,hc,hl,hs,hb,he⟩
  ·exact .inl h
  ·refine .inr ⟨b,off,cap,hc,hl,by simpa using H1 [] b (by simp [lev,Kd.lev]) (by simpa using hs) hb.lt,hb,fun i hi=>ih (he i hi) (fun p b' hp hs' hb' => ?_) (H2.imp _root_.id fun H2 p b' hs' hb' => ?_)⟩
   ·simpa using H1 (.i i::p) b' (by simp only [lev,Kd.lev];omega) (by simpa using hs') hb'
   ·simpa using H2 (.i i::p) b' (by simpa using hs') hb'
 | unit=>intro q q' c d h _ _;exact h
 | pair a b iha ihb=>
  intro q q' c d h H1 H2
  simp only [Rep] at h |-
  refine ⟨iha h.1 (fun p b' hp hs' hb'=>by simpa using H1 (.l::p) b' (by simp only [lev,Kd.lev];omega) (by simpa using hs') hb') (H2.imp (fun h=>by simp only [Kd.nossl,Bool.and_eq_true] at h;exact h.1) fun H2 p b' hs' hb'=>by simpa using H2 (.l::p) b' (by simpa using hs') hb'),
   ihb h.2 (fun p b' hp hs' hb'=>by simpa using H1 (.r::p) b' (by simp only [lev,Kd.lev];omega) (by simpa using hs') hb') (H2.imp (fun h=>by simp only [Kd.nossl,Bool.and_eq_true] at h;exact h.2) fun H2 p b' hs' hb'=>by simpa using H2 (.r::p) b' (by simpa using hs') hb')⟩
 | bx k ih=>
  intro q q' c d h H1 H2
  simp only [Rep] at h |-
  obtain ⟨b,off,hc,hs,hb,he⟩:=h
  refine ⟨b,off,hc,by simpa using H1 [] b (by simp [lev,Kd.lev]) (by simpa using hs) hb.lt,hb,ih he (fun p b' hp hs' hb' => ?_) (H2.imp _root_.id fun H2 p b' hs' hb' => ?_)⟩
  ·simpa using H1 (.i 0::p) b' (by simp only [lev,Kd.lev];omega) (by simpa using hs') hb'
  ·simpa using H2 (.i 0::p) b' (by simpa using hs') hb'
 | clo f a b iha ihb=>
  intro q q' c d h H1 H2
  simp only [Rep] at h |-
  obtain ⟨c1,c2,hc,h1,h2⟩:=h
  refine ⟨c1,c2,hc,iha h1 (fun p b' hp hs' hb'=>by simpa using H1 (.l::p) b' (by simp only [lev,Kd.lev];omega) (by simpa using hs') hb') (H2.imp (fun h=>by simp only [Kd.nossl,Bool.and_eq_true] at h;exact h.1) fun H2 p b' hs' hb'=>by simpa using H2 (.l::p) b' (by simpa using hs') hb'),
   ihb h2 (fun p b' hp hs' hb'=>by simpa using H1 (.r::p) b' (by simp only [lev,Kd.lev];omega) (by simpa using hs') hb') (H2.imp (fun h=>by simp only [Kd.nossl,Bool.and_eq_true] at h;exact h.2) fun H2 p b' hs' hb'=>by simpa using H2 (.r::p) b' (by simpa using hs') hb')⟩
 | ssl e ih=>
  intro q q' c d h _ H2
  simp only [Rep] at h |-
  rcases h with h | ⟨b,off,cap,hc,hl,hs,hb,he⟩
  ·exact .inl h
  ·rcases H2 with H2 | H2
   ·simp [Kd.nossl] at H2
   have key:∀b',shAt S q b'->b'<w.heap.size->shAt S' q' b':=fun b' hs' hb'=>by simpa using H2 [] b' (by simpa using hs') hb'
   exact .inr ⟨b,off,cap,hc,hl,key b hs hb.lt,hb,fun i hi=>(he i hi).move fun p b' hs' hb'=>key b' hs' hb'⟩
theorem shAt_inj {α:Type} {χ:Nat->Option α} {f:Path->α} (hf:∀p q,f p=f q->p=q) {q:Path} {b:Nat} (h:shAt (fun q b=>χ b=some (f q)) q b):False:=by
 obtain ⟨n,h⟩:=h
 have h1:=h (List.replicate n (.i 0)) (by rw [lev_rep];exact Nat.le_refl _)
 have h2:=h (List.replicate (n+1) (.i 0)) (by rw [lev_rep];omega)
 simp only at h1 h2
 rw [h1] at h2
 have:=congrArg List.length (hf _ _ (Option.some.inj h2))
 simp at this
theorem ns_tuple:∀ks:List Kd,(Kd.tuple ks).nossl=ks.all Kd.nossl:=by
 intro ks
 induction ks with
 | nil=>rfl
 | cons k ks ih=>simp only [Kd.tuple,Kd.nossl,ih,List.all_cons]
theorem getP_fld_lev:∀{j:Nat} {k:Kd} {d:k.den} {y:V},getP (fld j) k d=some y->y.k.lev<=k.lev/\(k.nossl=true->y.k.nossl=true):=by
 intro j
 induction j with
 | zero=>
  intro k d y h
  cases k with
  | pair a b=>
   simp only [fld,getP,Option.some.injEq] at h
   subst h
   exact ⟨by simp only [Kd.lev];omega,fun h=>by simp only [Kd.nossl,Bool.and_eq_true] at h;exact h.1⟩
  | _=>simp [fld,getP] at h
 | succ j ih=>
  intro k d y h
  cases k with
  | pair a b=>
   simp only [fld,getP] at h
   obtain ⟨h1,h2⟩:=ih h
   exact ⟨by simp only [Kd.lev];omega,fun h=>by simp only [Kd.nossl,Bool.and_eq_true] at h;exact h2 h.2⟩
  | _=>simp [fld,getP] at h
theorem rep_back {w w':World} {S S':OwnS} {y:V}:∀{p:Path} {k:Kd} {q:Path} {c:List Value} {d d':k.den} {v:V},Rep w S k q c d->okP p k d->getP p k d=some v->setP p k d y=some d' ->
  (∀q' b,q <+: q' -> ¬(q++p <+: q')->S q' b->b<w.heap.size->w'.heap[b]? = w.heap[b]?/\S' q' b)->Rep w' S' y.k (q++p) (subC w p k c) y.d->Rep w' S' k q c d':=by
 intro p
 induction p with
 | nil=>
  intro k q c d d' v _ _ hg hs _ hy
  simp only [setP] at hs
  have:=cast?_eq hs
  subst this
  simpa [subC] using hy
 | cons s p ih=>
  intro k q c d d' v hr ho hg hs H hy
  cases s with
  | l=>cases k with
   | pair a b=>
    simp only [getP,okP,setP,Rep,subC,Option.map_eq_some_iff] at hg ho hs hr hy |-
    obtain ⟨z,hz,rfl⟩:=hs
    refine ⟨ih hr.1 ho hg hz (fun q' b' h1 h2=>H q' b' ((List.prefix_append _ _).trans h1) (by simpa using h2)) (by simpa using hy),?_⟩
    exact hr.2.frame fun q' b' h1 hs' hb=>H q' b' ((List.prefix_append _ _).trans h1) (fun h2=>prefix_l_r ((show q++[St.l] <+: q++(St.l::p) from ⟨p,by simp⟩).trans h2) h1) hs' hb
   | _=>simp [getP] at hg
  | r=>cases k with
   | pair a b=>
    simp only [getP,okP,setP,Rep,subC,Option.map_eq_some_iff] at hg ho hs hr hy |-
    obtain ⟨z,hz,rfl⟩:=hs
    refine ⟨?_,ih hr.2 ho hg hz (fun q' b' h1 h2=>H q' b' ((List.prefix_append _ _).trans h1) (by simpa using h2)) (by simpa using hy)⟩
    exact hr.1.frame fun q' b' h1 hs' hb=>H q' b' ((List.prefix_append _ _).trans h1) (fun h2=>prefix_l_r h1 ((show q++[St.r] <+: q++(St.r::p) from ⟨p,by simp⟩).trans h2)) hs' hb
   | _=>simp [getP] at hg
  | i n=>cases k with
   | slice e=>
    simp only [getP,okP,setP,Rep,Option.map_eq_some_iff] at hg ho hs hr
    obtain ⟨z,hz,rfl⟩:=hs
    rcases hr with ⟨_,hr⟩ | ⟨b,off,cap,hc,hl,hs,hb,he⟩
    ·subst hr;simp at ho
    ·subst hc
     have he':=he n ho.1
     rw [<- at_eq ho.1] at he'
     obtain ⟨hb1,hb2⟩:=H q b (List.prefix_refl q) (fun h2=>by have:=h2.length_le;simp at this;omega) hs hb.lt
     simp only [subC] at hy
     have key:=ih he' ho.2 hg hz (fun q' b' h1 h2=>H q' b' ((List.prefix_append _ _).trans h1) (by simpa using h2)) (by simpa using hy)
     simp only [Rep]
     refine .inr ⟨b,off,cap,by simp,by simpa using hl,hb2,hb.same hb1,fun m hm => ?_⟩
     simp only [List.length_set] at hm
     rw [cellsAt_same hb1]
     by_cases hmn:m=n
     ·subst hmn
      simp only [List.get_eq_getElem,List.getElem_set_self]
      exact key
     ·have:=he m hm
      simp only [List.get_eq_getElem,ne_eq,Ne.symm hmn,not_false_eq_true,List.getElem_set_ne] at this |-
      exact this.frame fun q' b' h1 hs' hb'=>H q' b' ((List.prefix_append _ _).trans h1) (fun h2=>hmn (prefix_i_i h1 ((show q++[St.i n] <+: q++(St.i n::p) from ⟨p,by simp⟩).trans h2))) hs' hb'
   | _=>simp [getP] at hg
end Go.V
namespace Go.V
def stripP:Path->Path->Option Path
 | [],q=>some q
 | x::p,y::q=>if x=y then stripP p q else none
 | _::_,[]=>none
theorem stripP_append:∀(p q:Path),stripP p (p++q)=some q:=by
 intro p
 induction p with
 | nil=>intro q;rfl
 | cons x p ih=>intro q;simp [stripP,ih]
theorem stripP_some:∀{p x q:Path},stripP p x=some q->x=p++q:=by
 intro p
 induction p with
 | nil=>intro x q h;simp [stripP] at h;simp [h]
 | cons y p ih=>
  intro x q h
  cases x with
  | nil=>simp [stripP] at h
  | cons z x=>
   simp only [stripP] at h
   split at h
   ·rename_i e
    subst e
    rw [ih h]
    rfl
   ·cases h
section
variable {P:Program} {Γ:Ctx} {Kp:Keep} {B0:World} {n:Nat} {G:Gh} {s:State} {a:Act} {w w':World} {id:Nat} {o:Oper} {Q:Exit->Act->World->Prop} {ws:Writes}
def DemW (s:State) (us:List (Nat×Bool)) (W:Writes):Prop := ∀x∈W,∃r f k d dep box frz ver,x=(rt r,.root k d 0 box (frz||f) ver)/\s (rt r)=.root k d dep box frz ver/\(r,f)∈us/\(f=true->box=true)
def InU (φ:Nat->Option (Bool×Nat×Path)) (us:List (Nat×Bool)) (b:Nat):Prop := ∃r f,(r,f)∈us/\((∃q,φ b=some (false,r,q))\/(f=true/\φ b=some (true,r,[])))
theorem InU.mono {φ:Nat->Option (Bool×Nat×Path)} {us vs:List (Nat×Bool)} {b:Nat} (h:InU φ us b) (hs:∀x∈us,x∈vs):InU φ vs b:=by
 obtain ⟨r,f,h1,h2⟩:=h
 exact ⟨r,f,hs _ h1,h2⟩
def OneWay (us:List (Nat×Bool)):Prop := ∀r f f',(r,f)∈us->(r,f')∈us->f=f'
theorem oneWay_ok:∀{us:List (Nat×Bool)},oneWay us=true->OneWay us:=by
 intro us
 induction us with
 | nil=>intro _ r f f' h;simp at h
 | cons x us ih=>
  intro h r f f' h1 h2
  obtain ⟨r0,f0⟩:=x
  simp only [oneWay,Bool.and_eq_true,List.all_eq_true] at h
  obtain ⟨h3,h4⟩:=h
  have key:∀f,(r0,f)∈us->f0=f:=fun f hf=>by
   have:=h3 _ hf
   simp only [Nat.beq_refl,Bool.not_true,Bool.false_or] at this
   cases f0<;>cases f<;>simp_all
  rcases List.mem_cons.1 h1 with e1 | g1<;>rcases List.mem_cons.1 h2 with e2 | g2
  ·injection e1 with _ e1;injection e2 with _ e2;rw [e1,e2]
  ·injection e1 with e0 e1;subst e0 e1;exact key _ g2
  ·injection e2 with e0 e2;subst e0 e2;exact (key _ g1).symm
  ·exact ih h4 r f f' g1 g2
theorem dem_all {us:List (Nat×Bool)} (hone:OneWay us):∀{W:Writes} {G:Gh} {s:State},GOk Kp G s a w->DemW s us W ->
  ∃G',GOk Kp G' (s.put W) a w/\G'.C=G.C/\G'.β=G.β/\(∀b,G.φ b=none->G'.φ b=none)/\(∀b f r q,G.φ b=some (f,r,q)->r∉us.map (·.1)->G'.φ b=some (f,r,q))/\(∀b z,G'.φ b=some z->G.φ b=some z) /\
   (∀r,(∃c,(rt r,c)∈W) -> ∀b,((∃q,G.φ b=some (false,r,q))\/((r,true)∈us/\G.φ b=some (true,r,[])))->G'.φ b=none)/\(∀r,r∉us.map (·.1)->(s.put W) (rt r)=s (rt r))/\(∀t,(s.put W) (sl t)=s (sl t)) /\
   (∀r,(s (rt r)=.none->(s.put W) (rt r)=.none)/\(s (rt r)=.dead->(s.put W) (rt r)=.dead)):=by
 intro W
 induction W with
 | nil=>
  intro G s g _
  exact ⟨G,g,rfl,rfl,fun _ h=>h,fun _ _ _ _ h _=>h,fun _ _ h=>h,fun r ⟨c,h⟩=>by simp at h,fun _ _=>rfl,fun _=>rfl,fun _=>⟨fun h=>h,fun h=>h⟩⟩
 | cons x W ih=>
  intro G s g hW
  obtain ⟨r,f,k,d,dep,box,frz,ver,rfl,hs,hr,hfb⟩:=hW x (by simp)
  have hrm:r∈us.map (·.1):=List.mem_map.2 ⟨_,hr,rfl⟩
  -- one step
  have hstep:∃G1,GOk Kp G1 (s.set (rt r) (.root k d 0 box (frz||f) ver)) a w/\G1.C=G.C/\G1.β=G.β/\(∀b,G.φ b=none->G1.φ b=none)/\(∀b f' r' q,G.φ b=some (f',r',q)->r'≠r->G1.φ b=some (f',r',q))/\(∀b z,G1.φ b=some z->G.φ b=some z) /\
    (∀b,((∃q,G.φ b=some (false,r,q))\/(f=true/\G.φ b=some (true,r,[])))->G1.φ b=none):=by
   have g1:=demote_ok g hs
   cases f with
   | false=>
    rw [Bool.or_false]
    exact ⟨_,g1,rfl,rfl,fun b h=>demφ_none h,fun b f' r' q h e=>demφ_other h e,fun b z h=>demφ_some h,fun b h=>by
     rcases h with ⟨q,h⟩ | ⟨h,_⟩
     ·exact demφ_own h
     ·cases h⟩
   | true=>
    have hb:=hfb rfl
    subst hb
    have g2:=still_ok g1 (State.set_same _ _ _)
    have e:(s.set (rt r) (.root k d 0 true frz ver)).set (rt r) (.root k d 0 true true ver)=s.set (rt r) (.root k d 0 true (frz||true) ver):=by
     funext x
     unfold State.set
     cases Nat.beq x (rt r)<;>simp
    rw [e] at g2
    exact ⟨_,g2,rfl,rfl,fun b h=>frzφ_none (demφ_none h),fun b f' r' q h e=>frzφ_other (demφ_other h e) e,fun b z h=>demφ_some (frzφ_some h),fun b h=>by
     rcases h with ⟨q,h⟩ | ⟨_,h⟩
     ·exact frzφ_none (demφ_own h)
     ·exact frzφ_own (demφ_box h)⟩
  obtain ⟨G1,g1,a1,a2,a3,a4,a5,a6⟩:=hstep
  have hW1:DemW (s.set (rt r) (.root k d 0 box (frz||f) ver)) us W:=by
   intro y hy
   obtain ⟨r',f',k',d',dep',box',frz',ver',e1,e2,e3,e4⟩:=hW y (by simp [hy])
   by_cases e:r'=r
   ·subst e
    rw [hs] at e2
    simp only [Cell.root.injEq] at e2
    obtain ⟨rfl,e2,rfl,rfl,rfl,rfl⟩:=e2
    have e2:=eq_of_heq e2
    subst e2
    have:=hone _ _ _ hr e3
    subst this
    exact ⟨r',f,k,d,0,box,(frz||f),ver,by rw [e1];cases frz<;>cases f<;>rfl,State.set_same _ _ _,e3,e4⟩
   ·exact ⟨r',f',k',d',dep',box',frz',ver',e1,by rw [State.set_other _ _ (fun h=>e (rt_inj h))];exact e2,e3,e4⟩
  obtain ⟨G',g',c1,c2,c3,c4,c5,c6,c7,c8,c9⟩:=ih g1 hW1
  refine ⟨G',g',c1.trans a1,c2.trans a2,fun b h=>c3 b (a3 b h),fun b f' r' q h hn=>c4 b f' r' q (a4 b f' r' q h (fun e=>hn (e▸hrm))) hn,fun b z h=>a5 b z (c5 b z h),fun r' ⟨c,hc⟩ b hb => ?_,fun r' hn => ?_,fun t => ?_,fun r' => ?_⟩
  ·by_cases e:r'=r
   ·subst e
    refine c3 b (a6 b ?_)
    rcases hb with hb | ⟨h1,h2⟩
    ·exact .inl hb
    ·have:=hone _ _ _ hr h1
     exact .inr ⟨this,h2⟩
   ·rcases List.mem_cons.1 hc with hc | hc
    ·exact absurd (rt_inj (congrArg Prod.fst hc)) e
    ·refine c6 r' ⟨c,hc⟩ b ?_
     rcases hb with ⟨q,hb⟩ | ⟨h1,h2⟩
     ·exact .inl ⟨q,a4 b _ _ _ hb e⟩
     ·exact .inr ⟨h1,a4 b _ _ _ h2 e⟩
  ·simp only [State.put]
   rw [c7 r' hn]
   exact State.set_other _ _ (fun h=>hn (by rw [rt_inj h];exact hrm))
  ·simp only [State.put]
   rw [c8 t]
   exact State.set_other _ _ (sl_rt t r)
  ·have e:∀{c},s (rt r')=c->(c=.none\/c=.dead)->r'≠r:=fun h hc e=>by subst e;rw [hs] at h;subst h;rcases hc with hc | hc<;>cases hc
   simp only [State.put]
   refine ⟨fun h=>(c9 r').1 ?_,fun h=>(c9 r').2 ?_⟩
   ·rw [State.set_other _ _ (fun h'=>e h (.inl rfl) (rt_inj h'))];exact h
   ·rw [State.set_other _ _ (fun h'=>e h (.inr rfl) (rt_inj h'))];exact h
structure LentOk (G:Gh) (w:World) (s:State) (l:Lent) (k:Kd) (x:Value) (k':Kd) (d':k'.den) (dep:Nat) (box frz:Bool) (ver:Nat) (d:k.den):Prop where
 bx:l.bx=false
 nb:k.isBx=false
 ns:k.nossl=true
 root:s (rt l.r)=.root k' d' dep box frz ver
 get:getP l.p k' d'=some ⟨k,d⟩
 ok:okP l.p k' d'
 deep:lev l.p+k.lev<=dep
 val:x=mkVal k (subC w l.p k' (G.C l.r))
structure LentBx (G:Gh) (w:World) (s:State) (l:Lent) (x:Value) (k':Kd) (d':k'.den) (dep:Nat) (ver:Nat):Prop where
 bx:l.bx=true
 p:l.p=[]
 root:s (rt l.r)=.root k' d' dep true false ver
 flat:l.dp=false->k'.flat=true\/dep=0
 deep:l.dp=true->k'.lev<=dep
 val:x=.pointer (some ⟨G.β l.r,0,none⟩)
inductive LentI (G:Gh) (w:World) (s:State) (l:Lent):(k:Kd)->Value->k.den->Prop
 | part {k:Kd} {x:Value} {k':Kd} {d':k'.den} {dep:Nat} {box frz:Bool} {ver:Nat} {d:k.den} (h:LentOk G w s l k x k' d' dep box frz ver d):LentI G w s l k x d
 | whole {x:Value} {k':Kd} {d':k'.den} {dep:Nat} {ver:Nat} (h:LentBx G w s l x k' d' dep ver):LentI G w s l (.bx k') x d'
theorem LentI.root {l:Lent} {k:Kd} {x:Value} {d:k.den} (h:LentI G w s l k x d):∃k' d' dep box frz ver,s (rt l.r)=.root k' d' dep box frz ver:=by
 cases h with
 | part h=>exact ⟨_,_,_,_,_,_,h.root⟩
 | whole h=>exact ⟨_,_,_,_,_,_,h.root⟩
theorem ptr_whole (g:GOk Kp G s a w) {x:Value} {r ver ver':Nat} {k:Kd} {d:k.den} {dep:Nat} {frz:Bool} (hc:CellOk G w s x (.ptr r [] ver)) (hr:s (rt r)=.root k d dep true frz ver'):x=.pointer (some ⟨G.β r,0,none⟩):=by
 simp only [CellOk,hr] at hc
 obtain ⟨_,hc⟩:=hc
 obtain ⟨y,_,_,B,O,hA,hv⟩:=hc (.inr (by simp [noIdx]))
 simp only [subA,home,cond_true,Option.some.injEq,Prod.mk.injEq] at hA
 obtain ⟨rfl,rfl⟩:=hA
 exact hv
theorem argR_ok (g:GOk Kp G s a w) {m:Md} {share:Bool} {i:Nat} {k:Kd} {io:Bool} {t:TypeId} {x:Operand} {y:k.den×Writes×List Lent×List (Nat×Bool)} (h:(argR Γ m share i k io t x).out s=some y) :
  DemW s y.2.2.2 y.2.1/\(share=true -> ∀r f,(r,f)∈y.2.2.2 -> ∃c,(rt r,c)∈y.2.1) /\
  (io=false->y.2.2.1=[] /\ ∀U:Nat->Prop,(∀b,G.φ b=none->U b)->(∀b,InU G.φ y.2.2.2 b->U b) -> ∃c,a.eval x=mkVal k c/\Rep w (fun _ b=>U b) k [] c y.1) /\
  (io=true -> ∃l,y.2.2.1=[l]/\l.i=i/\(l.bx=true->l.dp=m.d i)/\y.2.1=[]/\y.2.2.2=[]/\LentI G w s l k (a.eval x) y.1):=by
 unfold argR at h
 simp only [Rd.out_bind,Option.bind_eq_some_iff] at h
 obtain ⟨c,h1,h⟩:=h
 have hc:=rdOp_ok g h1
 cases io with
 | false=>
  have hplain:∀(d:k.den) (T:OwnS) (q:Path) (c:List Value),a.eval x=mkVal k c->Rep w T k q c d->(∀q' b,T q' b->G.φ b=none\/InU G.φ y.2.2.2 b)->y.1=d->y.2.2.1=[] -> 
    (false=false->y.2.2.1=[] /\ ∀U:Nat->Prop,(∀b,G.φ b=none->U b)->(∀b,InU G.φ y.2.2.2 b->U b) -> ∃c,a.eval x=mkVal k c/\Rep w (fun _ b=>U b) k [] c y.1):=by
   intro d T q c e1 e2 e3 e4 e5 _
   refine ⟨e5,fun U u1 u2=>⟨c,e1,?_⟩⟩
   rw [e4]
   refine e2.move fun p b hb _ => ?_
   rcases e3 _ b hb with h | h
   ·exact u1 b h
   ·exact u2 b h
  cases c with
  | ptr r p ver=>
   simp only [Rd.out] at h
   cases hs:s (rt r) with
   | root k' d' dep box frz ver'=>
    rw [hs] at h
    cases box with
    | false=>simp [Rd.out] at h
    | true=>
     simp only [bif_out,Rd.out] at h
     rcases bif_some h with ⟨hp,h0⟩ | ⟨_,h0⟩
     ·have hp:p=[]:=by simpa using hp
      subst hp
      rw [Rd.out_bind,Rd.out_opt,Option.bind_eq_some_iff] at h0
      obtain ⟨d,h3,h4⟩:=h0
      simp only [bif_out,Rd.out] at h4
      have h3:=cast?_eq h3
      injection h3 with h3a h3b
      subst h3a
      have h3b:=eq_of_heq h3b
      subst h3b
      have hv:=ptr_whole g hc hs
      have hro:=g.roots r
      rw [hs] at hro
      obtain ⟨⟨cs,ty,e1,e2⟩,e3⟩:=hro.2 rfl
      have hlen:=hro.1.length
      have hsz:cs.size=k'.size:=by rw [<- hlen,<- e2];simp
      have hcells:cellsAt w (G.β r) 0 k'.size=G.C r:=by
       unfold cellsAt
       rw [e1]
       simp only [List.drop_zero,e2]
       exact List.take_of_length_le (by omega)
      have hin:∀f,(r,f)=(r,true)->InU G.φ [(r,f)] (G.β r)\/G.φ (G.β r)=none:=fun f hf=>by
       cases frz with
       | true=>simp only [if_true] at e3;exact .inr e3
       | false=>simp only [Bool.false_eq_true,if_false] at e3;exact .inl ⟨r,f,by simp,.inr ⟨by simpa using hf,e3⟩⟩
      have hrep:Rep w (fun _ b=>G.φ b=none\/InU G.φ [(r,true)] b) (.bx k') [] [.pointer (some ⟨G.β r,0,none⟩)] d':=by
       simp only [Rep]
       refine ⟨G.β r,0,rfl,(hin true rfl).symm,⟨cs,ty,_,e1,by omega⟩,?_⟩
       rw [hcells]
       refine hro.1.move fun q b hb _ => ?_
       rcases ownS_lev hb with ⟨_,hb⟩ | ⟨_,hb⟩
       ·exact .inr ⟨r,true,by simp,.inl ⟨_,hb⟩⟩
       ·exact .inl hb
      rcases bif_some h4 with ⟨hsh,h4⟩ | ⟨hsh,h4⟩
      ·have h5:=Option.some.inj h4
       subst h5
       refine ⟨fun z hz => ?_,fun _ r' f' hr' => ?_,hplain d' _ [] [.pointer (some ⟨G.β r,0,none⟩)] hv hrep (fun _ _ h=>h) rfl rfl,fun hh=>absurd hh (by simp)⟩
       ·simp only [List.mem_singleton] at hz
        subst hz
        exact ⟨r,true,k',d',dep,true,frz,ver',by simp,hs,by simp,fun _=>rfl⟩
       ·simp only [List.mem_singleton,Prod.mk.injEq] at hr'
        obtain ⟨rfl,rfl⟩:=hr'
        exact ⟨_,by simp;rfl⟩
      ·have h5:=Option.some.inj h4
       subst h5
       exact ⟨fun _ h=>by simp at h,fun hh=>absurd (hsh.symm.trans hh) (by simp),hplain d' _ [] [.pointer (some ⟨G.β r,0,none⟩)] hv hrep (fun _ _ h=>h) rfl rfl,fun hh=>absurd hh (by simp)⟩
     ·cases h0
   | _=>rw [hs] at h;simp [Rd.out] at h
  | sptr k' d'=>
   simp only [Rd.out_bind,Rd.out_opt,Option.bind_eq_some_iff,Rd.out,Option.some.injEq] at h
   obtain ⟨d,h3,h4⟩:=h
   have h3:=cast?_eq h3
   injection h3 with h3a h3b
   subst h3a
   have h3b:=eq_of_heq h3b
   subst h3b
   subst h4
   obtain ⟨B,O,e1,e2,e3,e4⟩:=hc
   refine ⟨fun _ h=>by simp at h,fun _ r f h=>by simp at h,hplain d' (shS G.φ) [] [.pointer (some ⟨B,O,none⟩)] e1 ⟨B,O,rfl,e2,e3,e4.move fun p b hb _=>hb⟩ (fun _ _ h=>.inl h) rfl rfl,fun hh=>absurd hh (by simp)⟩
  | al r p ver=>
   simp only [Rd.out_bind,Option.bind_eq_some_iff,Rd.out_opt] at h
   obtain ⟨v,h2,d,h3,h⟩:=h
   have h3:=cast?_eq h3
   subst h3
   simp only [bif_out,Rd.out] at h
   simp only [look,Rd.out] at h2
   simp only [CellOk] at hc
   cases hs:s (rt r) with
   | root k' d' dep box frz ver'=>
    rw [hs] at h h2 hc
    simp only [bif_out,Rd.out,Rd.out_opt] at h h2
    rcases bif_some h2 with ⟨hv,h4⟩ | ⟨_,h4⟩
    ·have hro:=g.roots r
     rw [hs] at hro
     obtain ⟨z,e1,e2,e3⟩:=hc.2 (verOk hv)
     rw [h4] at e1
     have e1:=Option.some.inj e1
     subst e1
     have hrep:=getP_rep hro.1 e2 h4
     rcases bif_some h with ⟨hf,h5⟩ | ⟨_,h5⟩
     ·have h6:=Option.some.inj h5
      subst h6
      exact ⟨fun _ h=>by simp at h,fun _ r f h=>by simp at h,hplain _ noS [] _ e3 (hrep.flat w _ _ hf) (fun _ _ h=>h.elim) rfl rfl,fun hh=>absurd hh (by simp)⟩
     ·have hown:∀q' b,ownS G.φ r dep q' b->G.φ b=none\/InU G.φ [(r,false)] b:=fun q' b h=>by
       rcases ownS_lev h with ⟨_,h⟩ | ⟨_,h⟩
       ·exact .inr ⟨r,false,by simp,.inl ⟨q',h⟩⟩
       ·exact .inl h
      rcases bif_some h5 with ⟨hsh,h6⟩ | ⟨hsh,h6⟩
      ·have h7:=Option.some.inj h6
       subst h7
       refine ⟨fun z hz => ?_,fun _ r' f' hr' => ?_,hplain _ _ _ _ e3 hrep hown rfl rfl,fun hh=>absurd hh (by simp)⟩
       ·simp only [List.mem_singleton] at hz
        subst hz
        exact ⟨r,false,k',d',dep,box,frz,ver',by simp,hs,by simp,fun h=>by cases h⟩
       ·simp only [List.mem_singleton,Prod.mk.injEq] at hr'
        obtain ⟨rfl,rfl⟩:=hr'
        exact ⟨_,by simp;rfl⟩
      ·have h7:=Option.some.inj h6
       subst h7
       exact ⟨fun _ h=>by simp at h,fun hh=>absurd (hsh.symm.trans hh) (by simp),hplain _ _ _ _ e3 hrep hown rfl rfl,fun hh=>absurd hh (by simp)⟩
    ·cases h4
   | _=>rw [hs] at h2;simp [Rd.out] at h2
  | val k' d'=>
   simp only [Rd.out_bind,Option.bind_eq_some_iff,Rd.out_opt,Rd.out,Option.some.injEq,look] at h
   obtain ⟨v,h2,d,h3,h⟩:=h
   have h3:=cast?_eq h3
   subst h3
   subst h
   injection h2 with h2a h2b
   subst h2a
   have h2b:=eq_of_heq h2b
   subst h2b
   obtain ⟨cs,e1,e2⟩:=hc
   exact ⟨fun _ h=>by simp at h,fun _ r f h=>by simp at h,hplain _ _ _ cs e1 e2 (fun _ _ h=>.inl h) rfl rfl,fun hh=>absurd hh (by simp)⟩
  | cst k' d'=>
   simp only [Rd.out_bind,Option.bind_eq_some_iff,Rd.out_opt,Rd.out,Option.some.injEq,look] at h
   obtain ⟨v,h2,d,h3,h⟩:=h
   have h3:=cast?_eq h3
   subst h3
   subst h
   injection h2 with h2a h2b
   subst h2a
   have h2b:=eq_of_heq h2b
   subst h2b
   obtain ⟨cs,e1,e2⟩:=hc
   exact ⟨fun _ h=>by simp at h,fun _ r f h=>by simp at h,hplain _ _ _ cs e1 e2 (fun _ _ h=>h.elim) rfl rfl,fun hh=>absurd hh (by simp)⟩
  | fn f'=>
   simp only [Rd.out_bind,Option.bind_eq_some_iff,Rd.out_opt,Rd.out,Option.some.injEq,look] at h
   obtain ⟨v,h2,d,h3,h⟩:=h
   have h3:=cast?_eq h3
   subst h3
   subst h
   injection h2 with h2a h2b
   subst h2a
   have h2b:=eq_of_heq h2b
   subst h2b
   have hc:a.eval x=.func (.func f') #[] #[]:=hc
   exact ⟨fun _ h=>by simp at h,fun _ r f h=>by simp at h,hplain _ noS [] [.func (.func f') #[] #[]] hc ⟨[],[],rfl,rfl,rfl⟩ (fun _ _ h=>h.elim) rfl rfl,fun hh=>absurd hh (by simp)⟩
  | _=>simp [look,Rd.out,Rd.out_bind] at h
 | true=>
  cases c with
  | al r p ver=>
   simp only [Rd.out] at h
   simp only [CellOk] at hc
   cases hs:s (rt r) with
   | root k' d' dep box frz ver'=>
    rw [hs] at h hc
    simp only [bif_out,Rd.out,Rd.out_opt,Rd.out_bind] at h
    rcases bif_some h with ⟨hv,h4⟩ | ⟨_,h4⟩
    ·simp only [Option.bind_eq_some_iff,Bool.and_eq_true,decide_eq_true_eq,Bool.not_eq_true'] at h4 hv
     obtain ⟨v,h5,d,h6,h7⟩:=h4
     obtain ⟨⟨⟨hv1,hv2⟩,hv3⟩,hv4⟩:=hv
     have h6:=cast?_eq h6
     subst h6
     have h8:=Option.some.inj h7
     subst h8
     obtain ⟨z,e1,e2,e3⟩:=hc.2 (verOk (by simpa using hv1))
     rw [h5] at e1
     have e1:=Option.some.inj e1
     subst e1
     exact ⟨fun _ h=>by simp at h,fun _ r f h=>by simp at h,fun hh=>absurd hh (by simp),fun _=>⟨⟨i,r,p,false,false⟩,rfl,rfl,(fun h=>by cases h),rfl,rfl,.part ⟨rfl,hv3,hv4,hs,h5,e2,hv2,e3⟩⟩⟩
    ·cases h4
   | _=>rw [hs] at h;simp [Rd.out] at h
  | ptr r p ver=>
   simp only [Rd.out] at h
   cases hs:s (rt r) with
   | root k' d' dep box frz ver'=>
    rw [hs] at h
    cases box with
    | false=>simp [Rd.out] at h
    | true=>
     cases frz with
     | true=>simp [Rd.out] at h
     | false=>
      simp only [bif_out,Rd.out,Rd.out_opt,Rd.out_bind] at h
      rcases bif_some h with ⟨hv,h4⟩ | ⟨_,h4⟩
      ·simp only [Option.bind_eq_some_iff,Bool.and_eq_true,List.isEmpty_iff] at h4 hv
       obtain ⟨rfl,hk0⟩:=hv
       obtain ⟨d,h6,h7⟩:=h4
       have h6:=cast?_eq h6
       injection h6 with h6a h6b
       subst h6a
       have h6b:=eq_of_heq h6b
       subst h6b
       have h8:=Option.some.inj h7
       subst h8
       exact ⟨fun _ h=>by simp at h,fun _ r f h=>by simp at h,fun hh=>absurd hh (by simp),fun _=>⟨⟨i,r,[],true,m.d i⟩,rfl,rfl,(fun _=>rfl),rfl,rfl,.whole ⟨rfl,rfl,hs,fun h=>by
        have h:m.d i=false:=h
        rw [h] at hk0
        simp only [cond_false,Bool.or_eq_true] at hk0
        exact hk0.imp _root_.id fun h=>Nat.eq_of_beq_eq_true h,fun h=>by
        have h:m.d i=true:=h
        rw [h] at hk0
        simpa using hk0,ptr_whole g hc hs⟩⟩⟩
      ·cases h4
   | _=>rw [hs] at h;simp [Rd.out] at h
  | _=>simp [Rd.out] at h
theorem LentOk.rep (g:GOk Kp G s a w) {l:Lent} {k:Kd} {x:Value} {k':Kd} {d':k'.den} {dep:Nat} {box frz:Bool} {ver:Nat} {d:k.den} (h:LentOk G w s l k x k' d' dep box frz ver d)
  {ψ:Nat->Option (Nat×Path)} (hψ:∀b q,G.φ b=some (false,l.r,l.p++q)->ψ b=some (l.i,q)):Rep w (fun q b=>ψ b=some (l.i,q)) k [] (subC w l.p k' (G.C l.r)) d:=by
 have hro:=g.roots l.r
 rw [h.root] at hro
 have hrep:=getP_rep hro.1 h.ok h.get
 rw [List.nil_append] at hrep
 refine hrep.lmove (fun q b h3 h1 _ => ?_) (.inl h.ns)
 rw [List.nil_append]
 have hl:=lev_append l.p q
 have hd:=h.deep
 have:lev (l.p++q)<dep:=by simp only at h3;rw [hl];omega
 simp only [ownS,this,if_true] at h1
 exact hψ b q h1
def toLab (l:Lent) (f:Bool) (q:Path):Option Path:=
 bif l.bx then match f,q with
  | true,[]=>some []
  | false,q=>bif l.dp then some (.i 0::q) else none
  | _,_=>none
 else bif f then none else stripP l.p q
def ofLab (l:Lent) (q:Path):Option (Bool×Nat×Path):=
 bif l.bx then match q with
  | []=>some (true,l.r,[])
  | .i 0::q=>some (false,l.r,q)
  | _=>none
 else some (false,l.r,l.p++q)
theorem toLab_part {l:Lent} (h:l.bx=false) (q:Path):toLab l false (l.p++q)=some q:=by
 unfold toLab
 rw [h]
 exact stripP_append l.p q
theorem toLab_box {l:Lent} (h:l.bx=true):toLab l true []=some []:=by
 unfold toLab
 rw [h]
 rfl
theorem toLab_deep {l:Lent} (h:l.bx=true) (hd:l.dp=true) (q:Path):toLab l false q=some (.i 0::q):=by
 unfold toLab
 rw [h,hd]
 rfl
theorem toLab_live {l:Lent} {f:Bool} {q q':Path} (h:toLab l f q=some q'):f=false\/q=[]:=by
 cases f with
 | false=>exact .inl rfl
 | true=>
  right
  unfold toLab at h
  cases hb:l.bx with
  | false=>rw [hb] at h;cases h
  | true=>
   rw [hb] at h
   cases q with
   | nil=>rfl
   | cons x q=>cases h
theorem LentI.rep (g:GOk Kp G s a w) {l:Lent} {k:Kd} {x:Value} {d:k.den} (h:LentI G w s l k x d) {ψ:Nat->Option (Nat×Path)} {U:Nat->Prop} {dp:Bool} (hdp:l.bx=true->l.dp=dp) (hU:∀b,G.φ b=none->U b)
  (hψ:∀b f q q',G.φ b=some (f,l.r,q)->toLab l f q=some q'->ψ b=some (l.i,q')):∃c,x=mkVal k c/\RepL w (fun q b=>ψ b=some (l.i,q)) U dp k c d:=by
 cases h with
 | part h=>
  refine ⟨_,h.val,?_⟩
  rw [RepL.of h.nb]
  exact h.rep g fun b q hb=>hψ b _ _ q hb (toLab_part h.bx q)
 | @whole x k' d' dep ver h=>
  have hro:=g.roots l.r
  rw [h.root] at hro
  obtain ⟨⟨cs,ty,e1,e2⟩,e3⟩:=hro.2 rfl
  simp only [Bool.false_eq_true,if_false] at e3
  refine ⟨[x],by rw [h.val];rfl,G.β l.r,cs,ty,by rw [h.val],e1,hψ _ _ _ [] e3 (toLab_box h.bx),?_⟩
  rw [e2,<- hdp h.bx]
  cases hd:l.dp with
  | false=>
   simp only [cond_false]
   rcases h.flat hd with hf | hd
   ·exact hro.1.flat w _ _ hf
   ·refine hro.1.frame fun q b _ hb _=>⟨rfl,hU b ?_⟩
    rw [hd] at hb
    simpa only [ownS,Nat.not_lt_zero,if_false] using hb
  | true=>
   simp only [cond_true]
   refine hro.1.lmove (fun q b g2 g1 _ => ?_) (.inr fun q b hs _=>shAt_lv.2 (hU b (shAt_own.1 hs)))
   have:=h.deep hd
   have:lev q<dep:=by omega
   simp only [List.nil_append,ownS,this,if_true] at g1
   simp only [List.nil_append,lvS,g2,if_true]
   exact hψ b _ _ _ g1 (toLab_deep h.bx hd q)
theorem argsR_ok (g:GOk Kp G s a w) {m:Md} {share:Bool}:∀{ps:List (Kd×Bool)} {i:Nat} {os:List (Operand×TypeId)} {y:(Kd.tuple (ps.map (·.1))).den×Writes×List Lent×List (Nat×Bool)},(argsR Γ m share i ps os).out s=some y ->
  DemW s y.2.2.2 y.2.1/\(share=true -> ∀r f,(r,f)∈y.2.2.2 -> ∃c,(rt r,c)∈y.2.1)/\(∀l∈y.2.2.1,i<=l.i)/\(y.2.2.1.Pairwise fun l l'=>l.i<l'.i)/\(∀l∈y.2.2.1,∃k x d,LentI G w s l k x d)/\(∀l∈y.2.2.1,l.bx=true->(ps.any fun x=>x.2&&x.1.isBx)=true) /\
  (∀(ψ:Nat->Option (Nat×Path)) (U:Nat->Prop),(∀l∈y.2.2.1,∀b f q q',G.φ b=some (f,l.r,q)->toLab l f q=some q'->ψ b=some (l.i,q'))->(∀b,G.φ b=none->U b)->(∀b,InU G.φ y.2.2.2 b->U b) ->
   ArgsOk m w ψ U i ps (os.map fun z=>a.eval z.1) y.1):=by
 intro ps
 induction ps with
 | nil=>
  intro i os y h
  cases os with
  | nil=>
   simp only [argsR,Rd.out,Option.some.injEq] at h
   subst h
   exact ⟨fun _ h=>by simp at h,fun _ _ _ h=>by simp at h,fun _ h=>by simp at h,List.Pairwise.nil,fun _ h=>by simp at h,fun _ h=>by simp at h,fun _ _ _ _ _=>rfl⟩
  | cons _ _=>simp [argsR,Rd.out] at h
 | cons p ps ih=>
  intro i os y h
  obtain ⟨k,io⟩:=p
  cases os with
  | nil=>simp [argsR,Rd.out] at h
  | cons o os=>
   obtain ⟨x,t⟩:=o
   simp only [argsR,Rd.out_bind,Option.bind_eq_some_iff,Rd.out,Option.some.injEq] at h
   obtain ⟨u,h1,v,h2,h3⟩:=h
   subst h3
   obtain ⟨a1,a2,a3,a4⟩:=argR_ok g h1
   obtain ⟨b1,b2,b3,b4,b5,b7,b6⟩:=ih h2
   refine ⟨fun z hz => ?_,fun hsh r f hr => ?_,fun l hl => ?_,?_,fun l hl => ?_,fun l hl hb => ?_,fun ψ U hψ u1 u2 => ?_⟩
   ·simp only at hz |-
    rcases List.mem_append.1 hz with hz | hz
    ·obtain ⟨r,f,k',d',dep,box,frz,ver,e1,e2,e3,e4⟩:=a1 z hz
     exact ⟨r,f,k',d',dep,box,frz,ver,e1,e2,by simp [e3],e4⟩
    ·obtain ⟨r,f,k',d',dep,box,frz,ver,e1,e2,e3,e4⟩:=b1 z hz
     exact ⟨r,f,k',d',dep,box,frz,ver,e1,e2,by simp [e3],e4⟩
   ·simp only at hr |-
    rcases List.mem_append.1 hr with hr | hr
    ·obtain ⟨c,hc⟩:=a2 hsh r f hr;exact ⟨c,by simp [hc]⟩
    ·obtain ⟨c,hc⟩:=b2 hsh r f hr;exact ⟨c,by simp [hc]⟩
   ·simp only at hl
    rcases List.mem_append.1 hl with hl | hl
    ·cases io with
     | false=>rw [(a3 rfl).1] at hl;simp at hl
     | true=>
      obtain ⟨l',e1,e2,_⟩:=a4 rfl
      rw [e1] at hl
      simp only [List.mem_singleton] at hl
      subst hl
      omega
    ·have:=b3 l hl;omega
   ·simp only
    cases io with
    | false=>rw [(a3 rfl).1];simpa using b4
    | true=>
     obtain ⟨l',e1,e2,_⟩:=a4 rfl
     rw [e1]
     simp only [List.cons_append,List.nil_append,List.pairwise_cons]
     exact ⟨fun l hl=>by have:=b3 l hl;omega,b4⟩
   ·simp only at hl
    rcases List.mem_append.1 hl with hl | hl
    ·cases io with
     | false=>rw [(a3 rfl).1] at hl;simp at hl
     | true=>
      obtain ⟨l',e1,e2,edp,_,_,hh⟩:=a4 rfl
      rw [e1] at hl
      simp only [List.mem_singleton] at hl
      subst hl
      exact ⟨_,_,_,hh⟩
    ·exact b5 l hl
   ·simp only at hl
    rw [List.any_cons,Bool.or_eq_true]
    rcases List.mem_append.1 hl with hl | hl
    ·cases io with
     | false=>rw [(a3 rfl).1] at hl;simp at hl
     | true=>
      obtain ⟨l',e1,e2,edp,_,_,hh⟩:=a4 rfl
      rw [e1] at hl
      simp only [List.mem_singleton] at hl
      subst hl
      cases hh with
      | part h=>rw [h.bx] at hb;cases hb
      | whole h=>exact .inl rfl
    ·exact .inr (b7 l hl hb)
   ·simp only at hψ u2
    have hrest:=b6 ψ U (fun l hl=>hψ l (by simp [hl])) u1 (fun b hb=>u2 b (hb.mono fun x hx=>by simp [hx]))
    cases io with
    | false=>
     obtain ⟨c,c1,c2⟩:=(a3 rfl).2 U u1 (fun b hb=>u2 b (hb.mono fun x hx=>by simp [hx]))
     exact ⟨c,_,by simp [c1],c2,hrest⟩
    | true=>
     obtain ⟨l',e1,e2,edp,_,_,hh⟩:=a4 rfl
     obtain ⟨c,hv,hr⟩:=hh.rep g (dp:=m.d i) edp u1 (hψ l' (by rw [e1];simp))
     refine ⟨c,_,by simp [hv],?_,hrest⟩
     subst e2
     exact hr
inductive Back (m:Md) (G:Gh) (w w':World) (s:State) (χ:Nat->Option Lab) (sh:Nat->Prop) (l:Lent):Cell->Prop
 | part {k:Kd} {x:Value} {k':Kd} {d' d'':k'.den} {dep:Nat} {box frz:Bool} {ver:Nat} {d dn:k.den} (h:LentOk G w s l k x k' d' dep box frz ver d)
   (hs:setP l.p k' d' ⟨k,dn⟩=some d'') (hr:Rep w' (fun q b=>χ b=some (.io l.i q)) k [] (subC w l.p k' (G.C l.r)) dn):Back m G w w' s χ sh l (.root k' d'' dep box frz (upV ver))
 | whole {x:Value} {k':Kd} {d' d'':k'.den} {dep:Nat} {ver:Nat} {cs:Array Value} {ty:TypeId} (h:LentBx G w s l x k' d' dep ver)
   (hb:w'.heap[G.β l.r]? = some (.cells cs ty (0,0))) (hc:χ (G.β l.r)=some (.io l.i []))
   (hr:Rep w' (bif l.dp then lvS k'.lev (fun q b=>χ b=some (.io l.i (.i 0::q))) sh else fun _ b=>sh b) k' [] cs.toList d''):Back m G w w' s χ sh l (.root k' d'' dep true false (upV ver))
 | gone {k':Kd} {d':k'.den} {dep:Nat} {box frz:Bool} {ver:Nat} (hx:l.bx=false) (hr:s (rt l.r)=.root k' d' dep box frz ver):Back m G w w' s χ sh l .dead
inductive Backs (m:Md) (G:Gh) (w w':World) (s:State) (χ:Nat->Option Lab) (sh:Nat->Prop):List Lent->Writes->Prop
 | nil:Backs m G w w' s χ sh [] []
 | cons {l:Lent} {ls:List Lent} {W:Writes} {c:Cell} (h:Back m G w w' s χ sh l c) (t:Backs m G w w' s χ sh ls W):Backs m G w w' s χ sh (l::ls) ((rt l.r,c)::W)
theorem backR_ok (g:GOk Kp G s a w) {m:Md} {share:Bool} {χ:Nat->Option Lab} {sh:Nat->Prop}:∀{ps:List (Kd×Bool)} {i:Nat} {os:List (Operand×TypeId)} {y:(Kd.tuple (ps.map (·.1))).den×Writes×List Lent×List (Nat×Bool)} {dn:(Kd.tuple ((ps.filter (·.2)).map (·.1))).den} {W:Writes},
  (argsR Γ m share i ps os).out s=some y->(backR m y.2.2.1 ((ps.filter (·.2)).map (·.1)) dn).out s=some W->IoOk m w' χ sh i ps (os.map fun z=>a.eval z.1) dn->Backs m G w w' s χ sh y.2.2.1 W:=by
 intro ps
 induction ps with
 | nil=>
  intro i os y dn W h hb hio
  cases os with
  | nil=>
   simp only [argsR,Rd.out,Option.some.injEq] at h
   subst h
   have hb':some ([]:Writes)=some W:=hb
   injection hb' with hb'
   subst hb'
   exact .nil
  | cons _ _=>simp [argsR,Rd.out] at h
 | cons p ps ih=>
  intro i os y dn W h hb hio
  obtain ⟨k,io⟩:=p
  cases os with
  | nil=>simp [argsR,Rd.out] at h
  | cons o os=>
   obtain ⟨x,t⟩:=o
   simp only [argsR,Rd.out_bind,Option.bind_eq_some_iff,Rd.out,Option.some.injEq] at h
   obtain ⟨u,h1,v,h2,h3⟩:=h
   subst h3
   obtain ⟨a1,a2,a3,a4⟩:=argR_ok g h1
   cases io with
   | false=>
    have e:=(a3 rfl).1
    simp only at hb |-
    rw [e] at hb |-
    exact ih h2 hb hio
   | true=>
    obtain ⟨l,e1,e2,edp,_,_,hh⟩:=a4 rfl
    simp only at hb |-
    rw [e1] at hb |-
    obtain ⟨li,lr,lp,lb,ld⟩:=l
    simp only at e2
    subst e2
    have hb':(backR m (⟨li,lr,lp,lb,ld⟩::v.2.2.1) (k::((ps.filter (·.2)).map (·.1))) dn).out s=some W:=hb
    have hio':(m.g li=false -> ∃c,some (a.eval x)=some (mkVal k c)/\c.length=k.size/\RepL w' (fun q b=>χ b=some (.io li q)) sh (m.d li) k c dn.1)/\IoOk m w' χ sh (li+1) ps (os.map fun z=>a.eval z.1) dn.2:=hio
    obtain ⟨j3,j4⟩:=hio'
    obtain ⟨k0,d0,dep0,box0,frz0,ver0,hroot⟩:=hh.root
    simp only [backR,Rd.out] at hb'
    simp only at hroot
    rw [hroot] at hb'
    simp only [bif_out] at hb'
    rcases bif_some hb' with ⟨hg,hb'⟩ | ⟨hg,hb'⟩
    ·rcases bif_some hb' with ⟨_,hb'⟩ | ⟨hnb,hb'⟩
     ·simp [Rd.out] at hb'
     ·simp only [Rd.out_bind,Option.bind_eq_some_iff,Rd.out,Option.some.injEq] at hb'
      obtain ⟨W',k2,k3⟩:=hb'
      subst k3
      exact .cons (.gone hnb hroot) (ih h2 k2 j4)
    ·obtain ⟨c,j1,j2,j3⟩:=j3 hg
     have j1:=Option.some.inj j1
     cases hh with
     | @part _ _ k' d' dep box frz ver d h=>
      have hr2:=h.root
      simp only at hr2
      rw [hroot] at hr2
      simp only [Cell.root.injEq] at hr2
      obtain ⟨rfl,hr2,rfl,rfl,rfl,rfl⟩:=hr2
      have hr2:=eq_of_heq hr2
      subst hr2
      have hbx:=h.bx
      simp only at hbx
      subst hbx
      simp only [cond_false,Rd.out_bind,Rd.out_opt,Option.bind_eq_some_iff,Rd.out,Option.some.injEq] at hb'
      obtain ⟨d'',k1,W',k2,k3⟩:=hb'
      subst k3
      rw [RepL.of h.nb] at j3
      have hro:=g.roots lr
      rw [hroot] at hro
      have hrep:=getP_rep hro.1 h.ok h.get
      have hc:subC w lp k0 (G.C lr)=c:=by
       have e3:=mkVal_cells j3
       have e4:=mkVal_cells hrep
       rw [<- e3,<- e4,<- j1]
       exact congrArg (fun v=>v.cells.toList) h.val.symm
      exact .cons (.part h k1 (by rw [hc];exact j3)) (ih h2 k2 j4)
     | @whole _ k' d' dep ver h=>
      have hr2:=h.root
      simp only at hr2
      rw [hroot] at hr2
      simp only [Cell.root.injEq] at hr2
      obtain ⟨rfl,hr2,rfl,rfl,rfl,rfl⟩:=hr2
      have hr2:=eq_of_heq hr2
      subst hr2
      have hbx:=h.bx
      simp only at hbx
      subst hbx
      simp only [cond_true,Rd.out_bind,Rd.out_opt,Option.bind_eq_some_iff,Rd.out,Option.some.injEq] at hb'
      obtain ⟨d'',k1,W',k2,k3⟩:=hb'
      subst k3
      have k1:=cast?_eq k1
      have k1:dn.1=d'':=by injection k1
      subst k1
      have hdp:ld=m.d li:=edp rfl
      obtain ⟨b,cs,ty,f1,f2,f3,f4⟩:=j3
      have hb:b=G.β lr:=by
       have:=h.val
       rw [j1,f1] at this
       simpa [mkVal,Kd.agg] using this
      subst hb
      exact .cons (.whole h f2 f3 (by rw [hdp];exact f4)) (ih h2 k2 j4)
end
end Go.V
