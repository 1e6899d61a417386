/- What the law FnDismantlings leans on, part 3: an interpreter of the model as plain data, its soundness, the functions as it tells them, and their laws. -/
import Derived.Orders
import Derived.LoopN
import Derived.Sort.Row
import Derived.Sort.Grow
import Derived.Shelf.Lays
import Derived.Test.YtjniohefdfbeoaaGreatVB
set_option linter.unusedVariables false
set_option linter.unusedSimpArgs false
set_option maxRecDepth 100000
noncomputable section
namespace Go.V
def GY:Ah->Ah->Option Ah
 | [],q=>some q
 | x::p,y::q=>if x=y then GY p q else none
 | _::_,[]=>none
theorem KU:∀(p q:Ah),GY p (p++q)=some q:=by
 intro p
 induction p with
 | nil=>intro q;rfl
 | cons x p ih=>intro q;simp [GY,ih]
theorem XU:∀{p x q:Ah},GY p x=some q->x=p++q:=by
 intro p
 induction p with
 | nil=>intro x q h;simp [GY] at h;simp [h]
 | cons y p ih=>
  intro x q h
  cases x with
  | nil=>simp [GY] at h
  | cons z x=>
   simp only [GY] at h
   split at h
   ·rename_i e
    subst e
    rw [ih h]
    rfl
   ·cases h
section
variable {P:Program} {Γ:Ctx} {Kp:Keep} {B0:World} {n:Nat} {G:Gh} {s:Ab} {a:Act} {w w':World} {id:Nat} {o:Oper} {Q:Exit->Act->World->Prop} {ws:AA}
def Asf (s:Ab) (us:List (Nat×Bool)) (W:AA):Prop := ∀x∈W,∃r f k d dep box frz ver,x=(rt r,.root k d 0 box (frz||f) ver)/\s (rt r)=.root k d dep box frz ver/\(r,f)∈us/\(f=true->box=true)
def InU (φ:Nat->Option (Bool×Nat×Ah)) (us:List (Nat×Bool)) (b:Nat):Prop := ∃r f,(r,f)∈us/\((∃q,φ b=some (false,r,q))\/(f=true/\φ b=some (true,r,[])))
theorem InU.mono {φ:Nat->Option (Bool×Nat×Ah)} {us vs:List (Nat×Bool)} {b:Nat} (h:InU φ us b) (hs:∀x∈us,x∈vs):InU φ vs b:=by
 obtain ⟨r,f,h1,h2⟩:=h
 exact ⟨r,f,hs _ h1,h2⟩
def Aqw (us:List (Nat×Bool)):Prop := ∀r f f',(r,f)∈us->(r,f')∈us->f=f'
theorem Ajz:∀{us:List (Nat×Bool)},Vk us=true->Aqw us:=by
 intro us
 induction us with
 | nil=>intro _ r f f' h;simp at h
 | cons x us ih=>
  intro h r f f' h1 h2
  obtain ⟨r0,f0⟩:=x
  simp only [Vk,ACo,List.all_eq_true] at h
  obtain ⟨h3,h4⟩:=h
  have key:∀f,(r0,f)∈us->f0=f:=fun f hf=>by
   have:=h3 _ hf
   simp only [Nat.beq_refl,Bool.not_true,Bool.false_or] at this
   cases f0<;>cases f<;>simp_all
  rcases List.mem_cons.1 h1 with e1 | g1<;>rcases List.mem_cons.1 h2 with e2 | g2
  ·injection e1 with _ e1;injection e2 with _ e2;rw [e1,e2]
  ·injection e1 with e0 e1;subst e0 e1;exact key _ g2
  ·injection e2 with e0 e2;subst e0 e2;exact (key _ g1).symm
  ·exact ih h4 r f f' g1 g2
theorem Awa {us:List (Nat×Bool)} (hone:Aqw us):∀{W:AA} {G:Gh} {s:Ab},GOk Kp G s a w->Asf s us W ->
  ∃G',GOk Kp G' (s.put W) a w/\G'.C=G.C/\G'.β=G.β/\(∀b,G.φ b=none->G'.φ b=none)/\(∀b f r q,G.φ b=some (f,r,q)->r∉us.map (·.1)->G'.φ b=some (f,r,q))/\(∀b z,G'.φ b=some z->G.φ b=some z) /\
   (∀r,(∃c,(rt r,c)∈W) -> ∀b,((∃q,G.φ b=some (false,r,q))\/((r,true)∈us/\G.φ b=some (true,r,[])))->G'.φ b=none)/\(∀r,r∉us.map (·.1)->(s.put W) (rt r)=s (rt r))/\(∀t,(s.put W) (sl t)=s (sl t)) /\
   (∀r,(s (rt r)=.none->(s.put W) (rt r)=.none)/\(s (rt r)=.dead->(s.put W) (rt r)=.dead)):=by
 intro W
 induction W with
 | nil=>
  intro G s g _
  exact ⟨G,g,rfl,rfl,fun _ h=>h,fun _ _ _ _ h _=>h,fun _ _ h=>h,fun r ⟨c,h⟩=>by simp at h,fun _ _=>rfl,fun _=>rfl,fun _=>⟨fun h=>h,fun h=>h⟩⟩
 | cons x W ih=>
  intro G s g hW
  obtain ⟨r,f,k,d,dep,box,frz,ver,rfl,hs,hr,hfb⟩:=hW x (by simp)
  have hrm:r∈us.map (·.1):=List.mem_map.2 ⟨_,hr,rfl⟩
  -- one step
  have hstep:∃G1,GOk Kp G1 (s.set (rt r) (.root k d 0 box (frz||f) ver)) a w/\G1.C=G.C/\G1.β=G.β/\(∀b,G.φ b=none->G1.φ b=none)/\(∀b f' r' q,G.φ b=some (f',r',q)->r'≠r->G1.φ b=some (f',r',q))/\(∀b z,G1.φ b=some z->G.φ b=some z) /\
    (∀b,((∃q,G.φ b=some (false,r,q))\/(f=true/\G.φ b=some (true,r,[])))->G1.φ b=none):=by
   have g1:=Afb g hs
   cases f with
   | false=>
    rw [Bool.or_false]
    exact ⟨_,g1,rfl,rfl,fun b h=>Cw h,fun b f' r' q h e=>Ff h e,fun b z h=>IS h,fun b h=>by
     rcases h with ⟨q,h⟩ | ⟨h,_⟩
     ·exact Hs h
     ·cases h⟩
   | true=>
    have hb:=hfb rfl
    subst hb
    have g2:=Ap5 g1 (Ab.set_same _ _ _)
    have e:(s.set (rt r) (.root k d 0 true frz ver)).set (rt r) (.root k d 0 true true ver)=s.set (rt r) (.root k d 0 true (frz||true) ver):=by
     funext x
     unfold Ab.set
     cases Nat.beq x (rt r)<;>simp
    rw [e] at g2
    exact ⟨_,g2,rfl,rfl,fun b h=>Du (Cw h),fun b f' r' q h e=>PM (Ff h e) e,fun b z h=>IS (Lk h),fun b h=>by
     rcases h with ⟨q,h⟩ | ⟨_,h⟩
     ·exact Du (Hs h)
     ·exact Uo (Hz h)⟩
  obtain ⟨G1,g1,a1,a2,a3,a4,a5,a6⟩:=hstep
  have hW1:Asf (s.set (rt r) (.root k d 0 box (frz||f) ver)) us W:=by
   intro y hy
   obtain ⟨r',f',k',d',dep',box',frz',ver',e1,e2,e3,e4⟩:=hW y (by simp [hy])
   by_cases e:r'=r
   ·subst e
    rw [hs] at e2
    simp only [Cell.root.injEq] at e2
    obtain ⟨rfl,e2,rfl,rfl,rfl,rfl⟩:=e2
    have e2:=eq_of_heq e2
    subst e2
    have:=hone _ _ _ hr e3
    subst this
    exact ⟨r',f,k,d,0,box,(frz||f),ver,by rw [e1];cases frz<;>cases f<;>rfl,Ab.set_same _ _ _,e3,e4⟩
   ·exact ⟨r',f',k',d',dep',box',frz',ver',e1,by rw [Ab.set_other _ _ (fun h=>e (Bi h))];exact e2,e3,e4⟩
  obtain ⟨G',g',c1,c2,c3,c4,c5,c6,c7,c8,c9⟩:=ih g1 hW1
  refine ⟨G',g',c1.trans a1,c2.trans a2,fun b h=>c3 b (a3 b h),fun b f' r' q h hn=>c4 b f' r' q (a4 b f' r' q h (fun e=>hn (e▸hrm))) hn,fun b z h=>a5 b z (c5 b z h),fun r' ⟨c,hc⟩ b hb => ?_,fun r' hn => ?_,fun t => ?_,fun r' => ?_⟩
  ·by_cases e:r'=r
   ·subst e
    refine c3 b (a6 b ?_)
    rcases hb with hb | ⟨h1,h2⟩
    ·exact .inl hb
    ·have:=hone _ _ _ hr h1
     exact .inr ⟨this,h2⟩
   ·rcases List.mem_cons.1 hc with hc | hc
    ·exact absurd (Bi (congrArg Prod.fst hc)) e
    ·refine c6 r' ⟨c,hc⟩ b ?_
     rcases hb with ⟨q,hb⟩ | ⟨h1,h2⟩
     ·exact .inl ⟨q,a4 b _ _ _ hb e⟩
     ·exact .inr ⟨h1,a4 b _ _ _ h2 e⟩
  ·simp only [Ab.put]
   rw [c7 r' hn]
   exact Ab.set_other _ _ (fun h=>hn (by rw [Bi h];exact hrm))
  ·simp only [Ab.put]
   rw [c8 t]
   exact Ab.set_other _ _ (A8 t r)
  ·have e:∀{c},s (rt r')=c->(c=.none\/c=.dead)->r'≠r:=fun h hc e=>by subst e;rw [hs] at h;subst h;rcases hc with hc | hc<;>cases hc
   simp only [Ab.put]
   refine ⟨fun h=>(c9 r').1 ?_,fun h=>(c9 r').2 ?_⟩
   ·rw [Ab.set_other _ _ (fun h'=>e h (.inl rfl) (Bi h'))];exact h
   ·rw [Ab.set_other _ _ (fun h'=>e h (.inr rfl) (Bi h'))];exact h
structure LentOk (G:Gh) (w:World) (s:Ab) (l:Lent) (k:Kd) (x:Value) (k':Kd) (d':k'.den) (dep:Nat) (box frz:Bool) (ver:Nat) (d:k.den):Prop where
 bx:l.bx=false
 nb:k.isBx=false
 ns:k.nossl=true
 root:s (rt l.r)=.root k' d' dep box frz ver
 get:Al l.p k' d'=some ⟨k,d⟩
 ok:okP l.p k' d'
 deep:lev l.p+k.lev<=dep
 val:x=Am k (A2 w l.p k' (G.C l.r))
structure LentBx (G:Gh) (w:World) (s:Ab) (l:Lent) (x:Value) (k':Kd) (d':k'.den) (dep:Nat) (ver:Nat):Prop where
 bx:l.bx=true
 p:l.p=[]
 root:s (rt l.r)=.root k' d' dep true false ver
 flat:l.dp=false->k'.flat=true\/dep=0
 deep:l.dp=true->k'.lev<=dep
 val:x=.pointer (some ⟨G.β l.r,0,none⟩)
inductive LentI (G:Gh) (w:World) (s:Ab) (l:Lent):(k:Kd)->Value->k.den->Prop
 | part {k:Kd} {x:Value} {k':Kd} {d':k'.den} {dep:Nat} {box frz:Bool} {ver:Nat} {d:k.den} (h:LentOk G w s l k x k' d' dep box frz ver d):LentI G w s l k x d
 | whole {x:Value} {k':Kd} {d':k'.den} {dep:Nat} {ver:Nat} (h:LentBx G w s l x k' d' dep ver):LentI G w s l (.bx k') x d'
theorem LentI.root {l:Lent} {k:Kd} {x:Value} {d:k.den} (h:LentI G w s l k x d):∃k' d' dep box frz ver,s (rt l.r)=.root k' d' dep box frz ver:=by
 cases h with
 | part h=>exact ⟨_,_,_,_,_,_,h.root⟩
 | whole h=>exact ⟨_,_,_,_,_,_,h.root⟩
theorem Gb (g:GOk Kp G s a w) {x:Value} {r ver ver':Nat} {k:Kd} {d:k.den} {dep:Nat} {frz:Bool} (hc:At G w s x (.ptr r [] ver)) (hr:s (rt r)=.root k d dep true frz ver'):x=.pointer (some ⟨G.β r,0,none⟩):=by
 simp only [At,hr] at hc
 obtain ⟨_,hc⟩:=hc
 obtain ⟨y,_,_,B,O,hA,hv⟩:=hc (.inr (by simp [BX]))
 simp only [By,home,cond_true,ACp,Prod.mk.injEq] at hA
 obtain ⟨rfl,rfl⟩:=hA
 exact hv
theorem Ad9 (g:GOk Kp G s a w) {m:Md} {share:Bool} {i:Nat} {k:Kd} {io:Bool} {t:TypeId} {x:Operand} {y:k.den×AA×List Lent×List (Nat×Bool)} (h:(Ax6 Γ m share i k io t x).out s=some y) :
  Asf s y.2.2.2 y.2.1/\(share=true -> ∀r f,(r,f)∈y.2.2.2 -> ∃c,(rt r,c)∈y.2.1) /\
  (io=false->y.2.2.1=[] /\ ∀U:Nat->Prop,(∀b,G.φ b=none->U b)->(∀b,InU G.φ y.2.2.2 b->U b) -> ∃c,a.eval x=Am k c/\Rep w (fun _ b=>U b) k [] c y.1) /\
  (io=true -> ∃l,y.2.2.1=[l]/\l.i=i/\(l.bx=true->l.dp=m.d i)/\y.2.1=[]/\y.2.2.2=[]/\LentI G w s l k (a.eval x) y.1):=by
 unfold Ax6 at h
 simp only [Rd.out_bind,ACq] at h
 obtain ⟨c,h1,h⟩:=h
 have hc:=B8 g h1
 cases io with
 | false=>
  have hplain:∀(d:k.den) (T:BM) (q:Ah) (c:List Value),a.eval x=Am k c->Rep w T k q c d->(∀q' b,T q' b->G.φ b=none\/InU G.φ y.2.2.2 b)->y.1=d->y.2.2.1=[] -> 
    (false=false->y.2.2.1=[] /\ ∀U:Nat->Prop,(∀b,G.φ b=none->U b)->(∀b,InU G.φ y.2.2.2 b->U b) -> ∃c,a.eval x=Am k c/\Rep w (fun _ b=>U b) k [] c y.1):=by
   intro d T q c e1 e2 e3 e4 e5 _
   refine ⟨e5,fun U u1 u2=>⟨c,e1,?_⟩⟩
   rw [e4]
   refine e2.move fun p b hb _ => ?_
   rcases e3 _ b hb with h | h
   ·exact u1 b h
   ·exact u2 b h
  cases c with
  | ptr r p ver=>
   simp only [Rd.out] at h
   cases hs:s (rt r) with
   | root k' d' dep box frz ver'=>
    rw [hs] at h
    cases box with
    | false=>simp [Rd.out] at h
    | true=>
     simp only [As,Rd.out] at h
     rcases Ae h with ⟨hp,h0⟩ | ⟨_,h0⟩
     ·have hp:p=[]:=by simpa using hp
      subst hp
      rw [Rd.out_bind,Rd.out_opt,ACq] at h0
      obtain ⟨d,h3,h4⟩:=h0
      simp only [As,Rd.out] at h4
      have h3:=AX h3
      injection h3 with h3a h3b
      subst h3a
      have h3b:=eq_of_heq h3b
      subst h3b
      have hv:=Gb g hc hs
      have hro:=g.roots r
      rw [hs] at hro
      obtain ⟨⟨cs,ty,e1,e2⟩,e3⟩:=hro.2 rfl
      have hlen:=hro.1.length
      have hsz:cs.size=k'.size:=by rw [<- hlen,<- e2];simp
      have hcells:Ai w (G.β r) 0 k'.size=G.C r:=by
       unfold Ai
       rw [e1]
       simp only [List.drop_zero,e2]
       exact List.take_of_length_le (by omega)
      have hin:∀f,(r,f)=(r,true)->InU G.φ [(r,f)] (G.β r)\/G.φ (G.β r)=none:=fun f hf=>by
       cases frz with
       | true=>simp only [if_true] at e3;exact .inr e3
       | false=>simp only [ACn,if_false] at e3;exact .inl ⟨r,f,by simp,.inr ⟨by simpa using hf,e3⟩⟩
      have hrep:Rep w (fun _ b=>G.φ b=none\/InU G.φ [(r,true)] b) (.bx k') [] [.pointer (some ⟨G.β r,0,none⟩)] d':=by
       simp only [Rep]
       refine ⟨G.β r,0,rfl,(hin true rfl).symm,⟨cs,ty,_,e1,by omega⟩,?_⟩
       rw [hcells]
       refine hro.1.move fun q b hb _ => ?_
       rcases AG hb with ⟨_,hb⟩ | ⟨_,hb⟩
       ·exact .inr ⟨r,true,by simp,.inl ⟨_,hb⟩⟩
       ·exact .inl hb
      rcases Ae h4 with ⟨hsh,h4⟩ | ⟨hsh,h4⟩
      ·have h5:=ACs h4
       subst h5
       refine ⟨fun z hz => ?_,fun _ r' f' hr' => ?_,hplain d' _ [] [.pointer (some ⟨G.β r,0,none⟩)] hv hrep (fun _ _ h=>h) rfl rfl,fun hh=>absurd hh (by simp)⟩
       ·simp only [List.mem_singleton] at hz
        subst hz
        exact ⟨r,true,k',d',dep,true,frz,ver',by simp,hs,by simp,fun _=>rfl⟩
       ·simp only [List.mem_singleton,Prod.mk.injEq] at hr'
        obtain ⟨rfl,rfl⟩:=hr'
        exact ⟨_,by simp;rfl⟩
      ·have h5:=ACs h4
       subst h5
       exact ⟨fun _ h=>by simp at h,fun hh=>absurd (hsh.symm.trans hh) (by simp),hplain d' _ [] [.pointer (some ⟨G.β r,0,none⟩)] hv hrep (fun _ _ h=>h) rfl rfl,fun hh=>absurd hh (by simp)⟩
     ·cases h0
   | _=>rw [hs] at h;simp [Rd.out] at h
  | sptr k' d'=>
   simp only [Rd.out_bind,Rd.out_opt,ACq,Rd.out,ACp] at h
   obtain ⟨d,h3,h4⟩:=h
   have h3:=AX h3
   injection h3 with h3a h3b
   subst h3a
   have h3b:=eq_of_heq h3b
   subst h3b
   subst h4
   obtain ⟨B,O,e1,e2,e3,e4⟩:=hc
   refine ⟨fun _ h=>by simp at h,fun _ r f h=>by simp at h,hplain d' (shS G.φ) [] [.pointer (some ⟨B,O,none⟩)] e1 ⟨B,O,rfl,e2,e3,e4.move fun p b hb _=>hb⟩ (fun _ _ h=>.inl h) rfl rfl,fun hh=>absurd hh (by simp)⟩
  | al r p ver=>
   simp only [Rd.out_bind,ACq,Rd.out_opt] at h
   obtain ⟨v,h2,d,h3,h⟩:=h
   have h3:=AX h3
   subst h3
   simp only [As,Rd.out] at h
   simp only [Dl,Rd.out] at h2
   simp only [At] at hc
   cases hs:s (rt r) with
   | root k' d' dep box frz ver'=>
    rw [hs] at h h2 hc
    simp only [As,Rd.out,Rd.out_opt] at h h2
    rcases Ae h2 with ⟨hv,h4⟩ | ⟨_,h4⟩
    ·have hro:=g.roots r
     rw [hs] at hro
     obtain ⟨z,e1,e2,e3⟩:=hc.2 (I3 hv)
     rw [h4] at e1
     have e1:=ACs e1
     subst e1
     have hrep:=BD hro.1 e2 h4
     rcases Ae h with ⟨hf,h5⟩ | ⟨_,h5⟩
     ·have h6:=ACs h5
      subst h6
      exact ⟨fun _ h=>by simp at h,fun _ r f h=>by simp at h,hplain _ noS [] _ e3 (hrep.flat w _ _ hf) (fun _ _ h=>h.elim) rfl rfl,fun hh=>absurd hh (by simp)⟩
     ·have hown:∀q' b,Az G.φ r dep q' b->G.φ b=none\/InU G.φ [(r,false)] b:=fun q' b h=>by
       rcases AG h with ⟨_,h⟩ | ⟨_,h⟩
       ·exact .inr ⟨r,false,by simp,.inl ⟨q',h⟩⟩
       ·exact .inl h
      rcases Ae h5 with ⟨hsh,h6⟩ | ⟨hsh,h6⟩
      ·have h7:=ACs h6
       subst h7
       refine ⟨fun z hz => ?_,fun _ r' f' hr' => ?_,hplain _ _ _ _ e3 hrep hown rfl rfl,fun hh=>absurd hh (by simp)⟩
       ·simp only [List.mem_singleton] at hz
        subst hz
        exact ⟨r,false,k',d',dep,box,frz,ver',by simp,hs,by simp,fun h=>by cases h⟩
       ·simp only [List.mem_singleton,Prod.mk.injEq] at hr'
        obtain ⟨rfl,rfl⟩:=hr'
        exact ⟨_,by simp;rfl⟩
      ·have h7:=ACs h6
       subst h7
       exact ⟨fun _ h=>by simp at h,fun hh=>absurd (hsh.symm.trans hh) (by simp),hplain _ _ _ _ e3 hrep hown rfl rfl,fun hh=>absurd hh (by simp)⟩
    ·cases h4
   | _=>rw [hs] at h2;simp [Rd.out] at h2
  | val k' d'=>
   simp only [Rd.out_bind,ACq,Rd.out_opt,Rd.out,ACp,Dl] at h
   obtain ⟨v,h2,d,h3,h⟩:=h
   have h3:=AX h3
   subst h3
   subst h
   injection h2 with h2a h2b
   subst h2a
   have h2b:=eq_of_heq h2b
   subst h2b
   obtain ⟨cs,e1,e2⟩:=hc
   exact ⟨fun _ h=>by simp at h,fun _ r f h=>by simp at h,hplain _ _ _ cs e1 e2 (fun _ _ h=>.inl h) rfl rfl,fun hh=>absurd hh (by simp)⟩
  | cst k' d'=>
   simp only [Rd.out_bind,ACq,Rd.out_opt,Rd.out,ACp,Dl] at h
   obtain ⟨v,h2,d,h3,h⟩:=h
   have h3:=AX h3
   subst h3
   subst h
   injection h2 with h2a h2b
   subst h2a
   have h2b:=eq_of_heq h2b
   subst h2b
   obtain ⟨cs,e1,e2⟩:=hc
   exact ⟨fun _ h=>by simp at h,fun _ r f h=>by simp at h,hplain _ _ _ cs e1 e2 (fun _ _ h=>h.elim) rfl rfl,fun hh=>absurd hh (by simp)⟩
  | fn f'=>
   simp only [Rd.out_bind,ACq,Rd.out_opt,Rd.out,ACp,Dl] at h
   obtain ⟨v,h2,d,h3,h⟩:=h
   have h3:=AX h3
   subst h3
   subst h
   injection h2 with h2a h2b
   subst h2a
   have h2b:=eq_of_heq h2b
   subst h2b
   have hc:a.eval x=.func (.func f') #[] #[]:=hc
   exact ⟨fun _ h=>by simp at h,fun _ r f h=>by simp at h,hplain _ noS [] [.func (.func f') #[] #[]] hc ⟨[],[],rfl,rfl,rfl⟩ (fun _ _ h=>h.elim) rfl rfl,fun hh=>absurd hh (by simp)⟩
  | _=>simp [Dl,Rd.out,Rd.out_bind] at h
 | true=>
  cases c with
  | al r p ver=>
   simp only [Rd.out] at h
   simp only [At] at hc
   cases hs:s (rt r) with
   | root k' d' dep box frz ver'=>
    rw [hs] at h hc
    simp only [As,Rd.out,Rd.out_opt,Rd.out_bind] at h
    rcases Ae h with ⟨hv,h4⟩ | ⟨_,h4⟩
    ·simp only [ACq,ACo,decide_eq_true_eq,Bool.not_eq_true'] at h4 hv
     obtain ⟨v,h5,d,h6,h7⟩:=h4
     obtain ⟨⟨⟨hv1,hv2⟩,hv3⟩,hv4⟩:=hv
     have h6:=AX h6
     subst h6
     have h8:=ACs h7
     subst h8
     obtain ⟨z,e1,e2,e3⟩:=hc.2 (I3 (by simpa using hv1))
     rw [h5] at e1
     have e1:=ACs e1
     subst e1
     exact ⟨fun _ h=>by simp at h,fun _ r f h=>by simp at h,fun hh=>absurd hh (by simp),fun _=>⟨⟨i,r,p,false,false⟩,rfl,rfl,(fun h=>by cases h),rfl,rfl,.part ⟨rfl,hv3,hv4,hs,h5,e2,hv2,e3⟩⟩⟩
    ·cases h4
   | _=>rw [hs] at h;simp [Rd.out] at h
  | ptr r p ver=>
   simp only [Rd.out] at h
   cases hs:s (rt r) with
   | root k' d' dep box frz ver'=>
    rw [hs] at h
    cases box with
    | false=>simp [Rd.out] at h
    | true=>
     cases frz with
     | true=>simp [Rd.out] at h
     | false=>
      simp only [As,Rd.out,Rd.out_opt,Rd.out_bind] at h
      rcases Ae h with ⟨hv,h4⟩ | ⟨_,h4⟩
      ·simp only [ACq,ACo,List.isEmpty_iff] at h4 hv
       obtain ⟨rfl,hk0⟩:=hv
       obtain ⟨d,h6,h7⟩:=h4
       have h6:=AX h6
       injection h6 with h6a h6b
       subst h6a
       have h6b:=eq_of_heq h6b
       subst h6b
       have h8:=ACs h7
       subst h8
       exact ⟨fun _ h=>by simp at h,fun _ r f h=>by simp at h,fun hh=>absurd hh (by simp),fun _=>⟨⟨i,r,[],true,m.d i⟩,rfl,rfl,(fun _=>rfl),rfl,rfl,.whole ⟨rfl,rfl,hs,fun h=>by
        have h:m.d i=false:=h
        rw [h] at hk0
        simp only [cond_false,Bool.or_eq_true] at hk0
        exact hk0.imp _root_.id fun h=>ACt h,fun h=>by
        have h:m.d i=true:=h
        rw [h] at hk0
        simpa using hk0,Gb g hc hs⟩⟩⟩
      ·cases h4
   | _=>rw [hs] at h;simp [Rd.out] at h
  | _=>simp [Rd.out] at h
theorem LentOk.rep (g:GOk Kp G s a w) {l:Lent} {k:Kd} {x:Value} {k':Kd} {d':k'.den} {dep:Nat} {box frz:Bool} {ver:Nat} {d:k.den} (h:LentOk G w s l k x k' d' dep box frz ver d)
  {ψ:Nat->Option (Nat×Ah)} (hψ:∀b q,G.φ b=some (false,l.r,l.p++q)->ψ b=some (l.i,q)):Rep w (fun q b=>ψ b=some (l.i,q)) k [] (A2 w l.p k' (G.C l.r)) d:=by
 have hro:=g.roots l.r
 rw [h.root] at hro
 have hrep:=BD hro.1 h.ok h.get
 rw [List.nil_append] at hrep
 refine hrep.lmove (fun q b h3 h1 _ => ?_) (.inl h.ns)
 rw [List.nil_append]
 have hl:=A3 l.p q
 have hd:=h.deep
 have:lev (l.p++q)<dep:=by simp only at h3;rw [hl];omega
 simp only [Az,this,if_true] at h1
 exact hψ b q h1
def Eg (l:Lent) (f:Bool) (q:Ah):Option Ah:=
 bif l.bx then match f,q with
  | true,[]=>some []
  | false,q=>bif l.dp then some (.i 0::q) else none
  | _,_=>none
 else bif f then none else GY l.p q
def T3 (l:Lent) (q:Ah):Option (Bool×Nat×Ah):=
 bif l.bx then match q with
  | []=>some (true,l.r,[])
  | .i 0::q=>some (false,l.r,q)
  | _=>none
 else some (false,l.r,l.p++q)
theorem Abs {l:Lent} (h:l.bx=false) (q:Ah):Eg l false (l.p++q)=some q:=by
 unfold Eg
 rw [h]
 exact KU l.p q
theorem Afn {l:Lent} (h:l.bx=true):Eg l true []=some []:=by
 unfold Eg
 rw [h]
 rfl
theorem Za {l:Lent} (h:l.bx=true) (hd:l.dp=true) (q:Ah):Eg l false q=some (.i 0::q):=by
 unfold Eg
 rw [h,hd]
 rfl
theorem Zd {l:Lent} {f:Bool} {q q':Ah} (h:Eg l f q=some q'):f=false\/q=[]:=by
 cases f with
 | false=>exact .inl rfl
 | true=>
  right
  unfold Eg at h
  cases hb:l.bx with
  | false=>rw [hb] at h;cases h
  | true=>
   rw [hb] at h
   cases q with
   | nil=>rfl
   | cons x q=>cases h
theorem LentI.rep (g:GOk Kp G s a w) {l:Lent} {k:Kd} {x:Value} {d:k.den} (h:LentI G w s l k x d) {ψ:Nat->Option (Nat×Ah)} {U:Nat->Prop} {dp:Bool} (hdp:l.bx=true->l.dp=dp) (hU:∀b,G.φ b=none->U b)
  (hψ:∀b f q q',G.φ b=some (f,l.r,q)->Eg l f q=some q'->ψ b=some (l.i,q')):∃c,x=Am k c/\IO w (fun q b=>ψ b=some (l.i,q)) U dp k c d:=by
 cases h with
 | part h=>
  refine ⟨_,h.val,?_⟩
  rw [IO.of h.nb]
  exact h.rep g fun b q hb=>hψ b _ _ q hb (Abs h.bx q)
 | @whole x k' d' dep ver h=>
  have hro:=g.roots l.r
  rw [h.root] at hro
  obtain ⟨⟨cs,ty,e1,e2⟩,e3⟩:=hro.2 rfl
  simp only [ACn,if_false] at e3
  refine ⟨[x],by rw [h.val];rfl,G.β l.r,cs,ty,by rw [h.val],e1,hψ _ _ _ [] e3 (Afn h.bx),?_⟩
  rw [e2,<- hdp h.bx]
  cases hd:l.dp with
  | false=>
   simp only [cond_false]
   rcases h.flat hd with hf | hd
   ·exact hro.1.flat w _ _ hf
   ·refine hro.1.frame fun q b _ hb _=>⟨rfl,hU b ?_⟩
    rw [hd] at hb
    simpa only [Az,Nat.not_lt_zero,if_false] using hb
  | true=>
   simp only [cond_true]
   refine hro.1.lmove (fun q b g2 g1 _ => ?_) (.inr fun q b hs _=>Ej.2 (hU b (B6.1 hs)))
   have:=h.deep hd
   have:lev q<dep:=by omega
   simp only [List.nil_append,Az,this,if_true] at g1
   simp only [List.nil_append,lvS,g2,if_true]
   exact hψ b _ _ _ g1 (Za h.bx hd q)
theorem Apb (g:GOk Kp G s a w) {m:Md} {share:Bool}:∀{ps:List (Kd×Bool)} {i:Nat} {os:List (Operand×TypeId)} {y:(Kd.tuple (ps.map (·.1))).den×AA×List Lent×List (Nat×Bool)},(I4 Γ m share i ps os).out s=some y ->
  Asf s y.2.2.2 y.2.1/\(share=true -> ∀r f,(r,f)∈y.2.2.2 -> ∃c,(rt r,c)∈y.2.1)/\(∀l∈y.2.2.1,i<=l.i)/\(y.2.2.1.Pairwise fun l l'=>l.i<l'.i)/\(∀l∈y.2.2.1,∃k x d,LentI G w s l k x d)/\(∀l∈y.2.2.1,l.bx=true->(ps.any fun x=>x.2&&x.1.isBx)=true) /\
  (∀(ψ:Nat->Option (Nat×Ah)) (U:Nat->Prop),(∀l∈y.2.2.1,∀b f q q',G.φ b=some (f,l.r,q)->Eg l f q=some q'->ψ b=some (l.i,q'))->(∀b,G.φ b=none->U b)->(∀b,InU G.φ y.2.2.2 b->U b) ->
   GD m w ψ U i ps (os.map fun z=>a.eval z.1) y.1):=by
 intro ps
 induction ps with
 | nil=>
  intro i os y h
  cases os with
  | nil=>
   simp only [I4,Rd.out,ACp] at h
   subst h
   exact ⟨fun _ h=>by simp at h,fun _ _ _ h=>by simp at h,fun _ h=>by simp at h,List.Pairwise.nil,fun _ h=>by simp at h,fun _ h=>by simp at h,fun _ _ _ _ _=>rfl⟩
  | cons _ _=>simp [I4,Rd.out] at h
 | cons p ps ih=>
  intro i os y h
  obtain ⟨k,io⟩:=p
  cases os with
  | nil=>simp [I4,Rd.out] at h
  | cons o os=>
   obtain ⟨x,t⟩:=o
   simp only [I4,Rd.out_bind,ACq,Rd.out,ACp] at h
   obtain ⟨u,h1,v,h2,h3⟩:=h
   subst h3
   obtain ⟨a1,a2,a3,a4⟩:=Ad9 g h1
   obtain ⟨b1,b2,b3,b4,b5,b7,b6⟩:=ih h2
   refine ⟨fun z hz => ?_,fun hsh r f hr => ?_,fun l hl => ?_,?_,fun l hl => ?_,fun l hl hb => ?_,fun ψ U hψ u1 u2 => ?_⟩
   ·simp only at hz |-
    rcases List.mem_append.1 hz with hz | hz
    ·obtain ⟨r,f,k',d',dep,box,frz,ver,e1,e2,e3,e4⟩:=a1 z hz
     exact ⟨r,f,k',d',dep,box,frz,ver,e1,e2,by simp [e3],e4⟩
    ·obtain ⟨r,f,k',d',dep,box,frz,ver,e1,e2,e3,e4⟩:=b1 z hz
     exact ⟨r,f,k',d',dep,box,frz,ver,e1,e2,by simp [e3],e4⟩
   ·simp only at hr |-
    rcases List.mem_append.1 hr with hr | hr
    ·obtain ⟨c,hc⟩:=a2 hsh r f hr;exact ⟨c,by simp [hc]⟩
    ·obtain ⟨c,hc⟩:=b2 hsh r f hr;exact ⟨c,by simp [hc]⟩
   ·simp only at hl
    rcases List.mem_append.1 hl with hl | hl
    ·cases io with
     | false=>rw [(a3 rfl).1] at hl;simp at hl
     | true=>
      obtain ⟨l',e1,e2,_⟩:=a4 rfl
      rw [e1] at hl
      simp only [List.mem_singleton] at hl
      subst hl
      omega
    ·have:=b3 l hl;omega
   ·simp only
    cases io with
    | false=>rw [(a3 rfl).1];simpa using b4
    | true=>
     obtain ⟨l',e1,e2,_⟩:=a4 rfl
     rw [e1]
     simp only [List.cons_append,List.nil_append,List.pairwise_cons]
     exact ⟨fun l hl=>by have:=b3 l hl;omega,b4⟩
   ·simp only at hl
    rcases List.mem_append.1 hl with hl | hl
    ·cases io with
     | false=>rw [(a3 rfl).1] at hl;simp at hl
     | true=>
      obtain ⟨l',e1,e2,edp,_,_,hh⟩:=a4 rfl
      rw [e1] at hl
      simp only [List.mem_singleton] at hl
      subst hl
      exact ⟨_,_,_,hh⟩
    ·exact b5 l hl
   ·simp only at hl
    rw [List.any_cons,Bool.or_eq_true]
    rcases List.mem_append.1 hl with hl | hl
    ·cases io with
     | false=>rw [(a3 rfl).1] at hl;simp at hl
     | true=>
      obtain ⟨l',e1,e2,edp,_,_,hh⟩:=a4 rfl
      rw [e1] at hl
      simp only [List.mem_singleton] at hl
      subst hl
      cases hh with
      | part h=>rw [h.bx] at hb;cases hb
      | whole h=>exact .inl rfl
    ·exact .inr (b7 l hl hb)
   ·simp only at hψ u2
    have hrest:=b6 ψ U (fun l hl=>hψ l (by simp [hl])) u1 (fun b hb=>u2 b (hb.mono fun x hx=>by simp [hx]))
    cases io with
    | false=>
     obtain ⟨c,c1,c2⟩:=(a3 rfl).2 U u1 (fun b hb=>u2 b (hb.mono fun x hx=>by simp [hx]))
     exact ⟨c,_,by simp [c1],c2,hrest⟩
    | true=>
     obtain ⟨l',e1,e2,edp,_,_,hh⟩:=a4 rfl
     obtain ⟨c,hv,hr⟩:=hh.rep g (dp:=m.d i) edp u1 (hψ l' (by rw [e1];simp))
     refine ⟨c,_,by simp [hv],?_,hrest⟩
     subst e2
     exact hr
inductive Back (m:Md) (G:Gh) (w w':World) (s:Ab) (χ:Nat->Option Lab) (sh:Nat->Prop) (l:Lent):Cell->Prop
 | part {k:Kd} {x:Value} {k':Kd} {d' d'':k'.den} {dep:Nat} {box frz:Bool} {ver:Nat} {d dn:k.den} (h:LentOk G w s l k x k' d' dep box frz ver d)
   (hs:C2 l.p k' d' ⟨k,dn⟩=some d'') (hr:Rep w' (fun q b=>χ b=some (.io l.i q)) k [] (A2 w l.p k' (G.C l.r)) dn):Back m G w w' s χ sh l (.root k' d'' dep box frz (upV ver))
 | whole {x:Value} {k':Kd} {d' d'':k'.den} {dep:Nat} {ver:Nat} {cs:Array Value} {ty:TypeId} (h:LentBx G w s l x k' d' dep ver)
   (hb:w'.heap[G.β l.r]? = some (.cells cs ty (0,0))) (hc:χ (G.β l.r)=some (.io l.i []))
   (hr:Rep w' (bif l.dp then lvS k'.lev (fun q b=>χ b=some (.io l.i (.i 0::q))) sh else fun _ b=>sh b) k' [] cs.toList d''):Back m G w w' s χ sh l (.root k' d'' dep true false (upV ver))
 | gone {k':Kd} {d':k'.den} {dep:Nat} {box frz:Bool} {ver:Nat} (hx:l.bx=false) (hr:s (rt l.r)=.root k' d' dep box frz ver):Back m G w w' s χ sh l .dead
inductive Backs (m:Md) (G:Gh) (w w':World) (s:Ab) (χ:Nat->Option Lab) (sh:Nat->Prop):List Lent->AA->Prop
 | nil:Backs m G w w' s χ sh [] []
 | cons {l:Lent} {ls:List Lent} {W:AA} {c:Cell} (h:Back m G w w' s χ sh l c) (t:Backs m G w w' s χ sh ls W):Backs m G w w' s χ sh (l::ls) ((rt l.r,c)::W)
theorem Apc (g:GOk Kp G s a w) {m:Md} {share:Bool} {χ:Nat->Option Lab} {sh:Nat->Prop}:∀{ps:List (Kd×Bool)} {i:Nat} {os:List (Operand×TypeId)} {y:(Kd.tuple (ps.map (·.1))).den×AA×List Lent×List (Nat×Bool)} {dn:(Kd.tuple ((ps.filter (·.2)).map (·.1))).den} {W:AA},
  (I4 Γ m share i ps os).out s=some y->(Sy m y.2.2.1 ((ps.filter (·.2)).map (·.1)) dn).out s=some W->S5 m w' χ sh i ps (os.map fun z=>a.eval z.1) dn->Backs m G w w' s χ sh y.2.2.1 W:=by
 intro ps
 induction ps with
 | nil=>
  intro i os y dn W h hb hio
  cases os with
  | nil=>
   simp only [I4,Rd.out,ACp] at h
   subst h
   have hb':some ([]:AA)=some W:=hb
   injection hb' with hb'
   subst hb'
   exact .nil
  | cons _ _=>simp [I4,Rd.out] at h
 | cons p ps ih=>
  intro i os y dn W h hb hio
  obtain ⟨k,io⟩:=p
  cases os with
  | nil=>simp [I4,Rd.out] at h
  | cons o os=>
   obtain ⟨x,t⟩:=o
   simp only [I4,Rd.out_bind,ACq,Rd.out,ACp] at h
   obtain ⟨u,h1,v,h2,h3⟩:=h
   subst h3
   obtain ⟨a1,a2,a3,a4⟩:=Ad9 g h1
   cases io with
   | false=>
    have e:=(a3 rfl).1
    simp only at hb |-
    rw [e] at hb |-
    exact ih h2 hb hio
   | true=>
    obtain ⟨l,e1,e2,edp,_,_,hh⟩:=a4 rfl
    simp only at hb |-
    rw [e1] at hb |-
    obtain ⟨li,lr,lp,lb,ld⟩:=l
    simp only at e2
    subst e2
    have hb':(Sy m (⟨li,lr,lp,lb,ld⟩::v.2.2.1) (k::((ps.filter (·.2)).map (·.1))) dn).out s=some W:=hb
    have hio':(m.g li=false -> ∃c,some (a.eval x)=some (Am k c)/\c.length=k.size/\IO w' (fun q b=>χ b=some (.io li q)) sh (m.d li) k c dn.1)/\S5 m w' χ sh (li+1) ps (os.map fun z=>a.eval z.1) dn.2:=hio
    obtain ⟨j3,j4⟩:=hio'
    obtain ⟨k0,d0,dep0,box0,frz0,ver0,hroot⟩:=hh.root
    simp only [Sy,Rd.out] at hb'
    simp only at hroot
    rw [hroot] at hb'
    simp only [As] at hb'
    rcases Ae hb' with ⟨hg,hb'⟩ | ⟨hg,hb'⟩
    ·rcases Ae hb' with ⟨_,hb'⟩ | ⟨hnb,hb'⟩
     ·simp [Rd.out] at hb'
     ·simp only [Rd.out_bind,ACq,Rd.out,ACp] at hb'
      obtain ⟨W',k2,k3⟩:=hb'
      subst k3
      exact .cons (.gone hnb hroot) (ih h2 k2 j4)
    ·obtain ⟨c,j1,j2,j3⟩:=j3 hg
     have j1:=ACs j1
     cases hh with
     | @part _ _ k' d' dep box frz ver d h=>
      have hr2:=h.root
      simp only at hr2
      rw [hroot] at hr2
      simp only [Cell.root.injEq] at hr2
      obtain ⟨rfl,hr2,rfl,rfl,rfl,rfl⟩:=hr2
      have hr2:=eq_of_heq hr2
      subst hr2
      have hbx:=h.bx
      simp only at hbx
      subst hbx
      simp only [cond_false,Rd.out_bind,Rd.out_opt,ACq,Rd.out,ACp] at hb'
      obtain ⟨d'',k1,W',k2,k3⟩:=hb'
      subst k3
      rw [IO.of h.nb] at j3
      have hro:=g.roots lr
      rw [hroot] at hro
      have hrep:=BD hro.1 h.ok h.get
      have hc:A2 w lp k0 (G.C lr)=c:=by
       have e3:=BW j3
       have e4:=BW hrep
       rw [<- e3,<- e4,<- j1]
       exact congrArg (fun v=>v.cells.toList) h.val.symm
      exact .cons (.part h k1 (by rw [hc];exact j3)) (ih h2 k2 j4)
     | @whole _ k' d' dep ver h=>
      have hr2:=h.root
      simp only at hr2
      rw [hroot] at hr2
      simp only [Cell.root.injEq] at hr2
      obtain ⟨rfl,hr2,rfl,rfl,rfl,rfl⟩:=hr2
      have hr2:=eq_of_heq hr2
      subst hr2
      have hbx:=h.bx
      simp only at hbx
      subst hbx
      simp only [cond_true,Rd.out_bind,Rd.out_opt,ACq,Rd.out,ACp] at hb'
      obtain ⟨d'',k1,W',k2,k3⟩:=hb'
      subst k3
      have k1:=AX k1
      have k1:dn.1=d'':=by injection k1
      subst k1
      have hdp:ld=m.d li:=edp rfl
      obtain ⟨b,cs,ty,f1,f2,f3,f4⟩:=j3
      have hb:b=G.β lr:=by
       have:=h.val
       rw [j1,f1] at this
       simpa [Am,Kd.agg] using this
      subst hb
      exact .cons (.whole h f2 f3 (by rw [hdp];exact f4)) (ih h2 k2 j4)
end
end Go.V
namespace Go.V
def Bb (φ:Nat->Option (Bool×Nat×Ah)) (ls:List Lent) (b:Nat):Option (Nat×Ah):=
 match φ b with
 | some (f,r,q)=>match ls.find? (fun l=>Nat.beq l.r r) with
  | some l=>(Eg l f q).map fun q'=>(l.i,q')
  | none=>none
 | none=>none
def As5 (rs:List Kd) (q:Ah):Option Ah:=
 match rs with
 | [_]=>match q with
  | .l::q'=>some q'
  | _=>none
 | rs=>match Ld rs 0 with
  | some j=>GY (fld j) q
  | none=>some q
theorem YS:∀{ks:List Kd} {i j:Nat},Ld ks i=some j -> ∃m,j=i+m /\ ∀x:(Kd.tuple ks).den,∃v,Al (fld m) (Kd.tuple ks) x=some v:=by
 intro ks
 induction ks with
 | nil=>intro i j h;simp [Ld] at h
 | cons k ks ih=>
  intro i j h
  simp only [Ld] at h
  rcases Ae h with ⟨_,h⟩ | ⟨_,h⟩
  ·obtain ⟨m,rfl,hm⟩:=ih h
   exact ⟨m+1,by omega,fun x=>hm x.2⟩
  ·rcases Ae h with ⟨_,h⟩ | ⟨_,h⟩
   ·have h:=ACs h
    subst h
    exact ⟨0,rfl,fun x=>⟨⟨k,x.1⟩,rfl⟩⟩
   ·cases h
def SN (wh:Bool) (rs:List Kd) (id:Nat) (q:Ah):Option (Bool×Nat×Ah):=
 match wh,rs with
 | true,[.bx _]=>match q with
  | [.l]=>some (true,id,[])
  | .l::.i 0::q'=>some (false,id,q')
  | _=>none
 | _,rs=>(As5 rs q).map fun q'=>(false,id,q')
theorem Je {wh:Bool} {rs:List Kd} {id:Nat} {q:Ah} (h:wh=false \/ ∀k,rs≠[.bx k]):SN wh rs id q=(As5 rs q).map fun q'=>(false,id,q'):=by
 unfold SN
 split
 ·rcases h with h | h
  ·cases h
  ·exact absurd rfl (h _)
 ·rfl
open Classical in
def RB (φ:Nat->Option (Bool×Nat×Ah)) (ψ:Nat->Option (Nat×Ah)) (χ:Nat->Option Lab) (ls:List Lent) (id size:Nat) (own wh:Bool) (rs:List Kd):Nat->Option (Bool×Nat×Ah):=fun b=>
 if b<size/\ψ b=none then φ b else
 match χ b with
 | some (.io i q)=>(ls.find? (fun l=>Nat.beq l.i i)).bind fun l=>T3 l q
 | some (.res q)=>if own=true then SN wh rs id q else none
 | none=>none
theorem Yt:∀{ls:List Lent} {us:List Nat},Rj ls us=true->(∀l∈ls,l.r∉us)/\ls.Pairwise fun l l'=>l.r≠l'.r:=by
 intro ls
 induction ls with
 | nil=>intro us _;exact ⟨fun _ h=>by simp at h,List.Pairwise.nil⟩
 | cons l ls ih=>
  intro us h
  simp only [Rj,ACo,Bool.not_eq_true',List.any_eq_false] at h
  obtain ⟨⟨h1,h2⟩,h3⟩:=h
  obtain ⟨h4,h5⟩:=ih h3
  refine ⟨fun l' hl' => ?_,?_⟩
  ·rcases List.mem_cons.1 hl' with rfl | hl'
   ·intro hm
    exact h1 _ hm (Nat.beq_refl _)
   ·exact h4 l' hl'
  ·rw [List.pairwise_cons]
   refine ⟨fun l' hl' e=>h2 l' hl' ?_,h5⟩
   rw [e]
   exact Nat.beq_refl _
theorem JU:∀{ls:List Lent},(ls.Pairwise fun l l'=>l.r≠l'.r) -> ∀l∈ls,ls.find? (fun x=>Nat.beq x.r l.r)=some l:=by
 intro ls
 induction ls with
 | nil=>intro _ l h;simp at h
 | cons x ls ih=>
  intro hp l hl
  rw [List.pairwise_cons] at hp
  rcases List.mem_cons.1 hl with rfl | hl
  ·simp
  ·have:Nat.beq x.r l.r=false:=by
    cases hb:Nat.beq x.r l.r with
    | false=>rfl
    | true=>exact absurd (ACt hb) (hp.1 l hl)
   rw [List.find?_cons,this]
   exact ih hp.2 l hl
theorem Yz:∀{ls:List Lent},(ls.Pairwise fun l l'=>l.i<l'.i) -> ∀l∈ls,ls.find? (fun x=>Nat.beq x.i l.i)=some l:=by
 intro ls
 induction ls with
 | nil=>intro _ l h;simp at h
 | cons x ls ih=>
  intro hp l hl
  rw [List.pairwise_cons] at hp
  rcases List.mem_cons.1 hl with rfl | hl
  ·simp
  ·have:Nat.beq x.i l.i=false:=by
    cases hb:Nat.beq x.i l.i with
    | false=>rfl
    | true=>have:=ACt hb;have:=hp.1 l hl;omega
   rw [List.find?_cons,this]
   exact ih hp.2 l hl
theorem Acg {P:Program} {o:Oper} {a:Act} {w:World} {K:Act->World->Prop} {Q:Exit->Act->World->Prop} {f:FuncId} {args:Array Value} {R:Value->World->Prop}
  (h:(execOp a.eval o).run P w=(callFunc f args).run P w) (hc:BJ P f args w R) (hR:∀v w',R v w'->K (a.put o.dst v) w'):o.wp P a w K Q:=by
 unfold Oper.wp
 rw [h]
 unfold BJ at hc
 cases hr:(callFunc f args).run P w with
 | ok x w1=>
  rw [hr] at hc
  cases x with
  | value v=>exact hR _ _ hc
  | enter f' args'=>
   rw [Oper.upon_enter]
   refine Calls.mono hc fun e w'' he => ?_
   cases e with
   | returned v=>exact hR _ _ he
   | panicked chain=>exact he.elim
   | outgrown=>exact he.elim
  | row row args'=>
   rw [Oper.upon_row]
   exact Rows.mono hc fun v w'' he=>hR _ _ he
  | _=>exact hc.elim
 | halt x w1=>rw [hr] at hc;exact hc.elim
section
variable {P:Program} {Γ:Ctx} {Kp:Keep} {B0:World} {n:Nat} {G:Gh} {s:Ab} {a:Act} {w w':World} {id:Nat} {o:Oper} {Q:Exit->Act->World->Prop} {ws:AA}
theorem W8 {φ:Nat->Option (Bool×Nat×Ah)} {ls:List Lent} {b:Nat} {z:Nat×Ah} (h:Bb φ ls b=some z) :
  ∃l∈ls,∃f q q',φ b=some (f,l.r,q)/\Eg l f q=some q'/\z=(l.i,q'):=by
 unfold Bb at h
 split at h
 ·rename_i f r q hb
  split at h
  ·rename_i l hl
   rw [Option.map_eq_some_iff] at h
   obtain ⟨q',h1,h2⟩:=h
   have hr:=List.find?_some hl
   have hr:=ACt hr
   exact ⟨l,List.mem_of_find?_eq_some hl,f,q,q',by rw [hb,hr],h1,h2.symm⟩
  ·cases h
 ·cases h
theorem YT {φ:Nat->Option (Bool×Nat×Ah)} {ls:List Lent} (hp:ls.Pairwise fun l l'=>l.r≠l'.r) {l:Lent} (hl:l∈ls) {b:Nat} {f:Bool} {q q':Ah} (h:φ b=some (f,l.r,q)) (hq:Eg l f q=some q'):Bb φ ls b=some (l.i,q'):=by
 unfold Bb
 rw [h]
 simp only [JU hp l hl,hq,Option.map_some]
theorem Z6 {φ:Nat->Option (Bool×Nat×Ah)} {ls:List Lent} (hp:ls.Pairwise fun l l'=>l.r≠l'.r) {l:Lent} (hl:l∈ls) {b:Nat} {f:Bool} {q:Ah} (h:φ b=some (f,l.r,q)) (hq:Eg l f q=none):Bb φ ls b=none:=by
 unfold Bb
 rw [h]
 simp only [JU hp l hl,hq,Option.map_none]
theorem ZP {φ:Nat->Option (Bool×Nat×Ah)} {ls:List Lent} {b:Nat} (h:φ b=some far):Bb φ ls b=none:=by
 unfold Bb
 rw [h]
 unfold far
 simp only
 split
 ·rename_i l _
  unfold Eg
  cases l.bx<;>rfl
 ·rfl
theorem Ag3 {m:Md} {χ:Nat->Option Lab} {sh:Nat->Prop} {ls:List Lent} {W:AA} (h:Backs m G w w' s χ sh ls W):∀{s1:Ab},(ls.Pairwise fun l l'=>l.r≠l'.r) ->
  (∀r,(∀l∈ls,l.r≠r)->(s1.put W) (rt r)=s1 (rt r))/\(∀t,(s1.put W) (sl t)=s1 (sl t)) /\
  (∀l∈ls,∃c,Back m G w w' s χ sh l c/\(s1.put W) (rt l.r)=c):=by
 induction h with
 | nil=>intro s1 _;exact ⟨fun _ _=>rfl,fun _=>rfl,fun _ h=>by simp at h⟩
 | @cons l ls W c h t ih=>
  intro s1 hp
  rw [List.pairwise_cons] at hp
  obtain ⟨h1,h2,h3⟩:=ih (s1:=s1.set (rt l.r) c) hp.2
  refine ⟨fun r hr => ?_,fun t => ?_,fun l' hl' => ?_⟩
  ·simp only [Ab.put]
   rw [h1 r (fun l' hl'=>hr l' (by simp [hl']))]
   exact Ab.set_other _ _ (fun e=>hr l (by simp) (Bi e).symm)
  ·simp only [Ab.put]
   rw [h2 t]
   exact Ab.set_other _ _ (A8 t l.r)
  ·rcases List.mem_cons.1 hl' with rfl | hl'
   ·refine ⟨c,h,?_⟩
    simp only [Ab.put]
    rw [h1 l'.r (fun l2 hl2=>(hp.1 l2 hl2).symm)]
    exact Ab.set_same _ _ _
   ·exact h3 l' hl'
theorem Apt {m:Md} {χ:Nat->Option Lab} {sh:Nat->Prop} {ls:List Lent} {W:AA} (h:Backs m G w w' s χ sh ls W):∀(s1:Ab) (r:Nat),(s1.put W) (ak r)=s1 (ak r):=by
 induction h with
 | nil=>intro s1 r;rfl
 | @cons l ls W c h t ih=>
  intro s1 r
  simp only [Ab.put]
  rw [ih,Ab.set_other _ _ (Ev r l.r)]
theorem Xj {id d:Nat} {own wh:Bool} {k:Kd} {x:k.den} (h:k.isBx=false\/own=false\/wh=false):Zp id d own wh k x=N8 id d ⟨k,x⟩ (bif own then max k.lev 99 else 0):=by
 cases k<;>try rfl
 rcases h with h | h | h
 ·cases h
 ·subst h;rfl
 ·subst h;cases own<;>rfl
theorem Adf:∀{ks:List Kd},ks.all Kd.flat=true->(Kd.tuple ks).flat=true:=by
 intro ks
 induction ks with
 | nil=>intro _;rfl
 | cons k ks ih=>intro h;simp only [List.all_cons,ACo] at h;simp [Kd.tuple,Kd.flat,h.1,ih h.2]
theorem Pj (S:Set_ P Γ Kp B0 n G s a w o) {m:Md} {wh:Bool} {g:FSig} {os:List (Operand×TypeId)} {f:FuncId} {args:Array Value}
  (hcon:∀(ψ:Nat->Option (Nat×Ah)) (U:Nat->Prop) d out,GD m w ψ U 0 g.ps (os.map fun z=>a.eval z.1) d->(∀b,U b->ψ b=none)->(∀b z,ψ b=some z->C6 w (b))->Gl P w ψ->g.F d=some out ->
   (execOp a.eval o).run P w=(callFunc f args).run P w/\BJ P f args w fun v w' => ∃χ,PostG m wh g ψ (frU m U) (os.map fun z=>a.eval z.1) w out χ v w')
  (h:(XI Γ m wh o.dst id g os).out s=some ws) (hok:Bv o ws=true):o.wp P a w (fun a' w'=>Inv P Kp B0 n (s.put ws) a' w') Q:=by
 ·simp only [XI,Rd.out_bind,ACq,As] at h
  obtain ⟨y,h1,h2⟩:=h
  obtain ⟨d,W,ls,us⟩:=y
  simp only at h2
  rcases Ae h2 with ⟨hl,h3⟩ | ⟨_,h3⟩
  ·simp only [Rd.out,Rd.out_bind,ACq] at h3
   obtain ⟨out,h4,Wb,h5,h6⟩:=h3
   obtain ⟨hid,hws⟩:=Cf h6
   simp only [ACo] at hl
   obtain ⟨l1,l2⟩:=Yt hl.1
   have hone:=Ajz hl.2
   obtain ⟨b1,b2,b3,b4,b5,b7,b6⟩:=Apb S.g h1
   simp only at b1 b2 b3 b4 b5 b6 b7
   obtain ⟨G1,g1,c1,cβ,c3,c4,c5,c6,c7,c8,c9⟩:=Awa hone S.g b1
   have hψs:∀b z,Bb G.φ ls b=some z -> ∃l∈ls,∃f q q',G.φ b=some (f,l.r,q)/\Eg l f q=some q'/\z=(l.i,q'):=fun b z hz=>W8 hz
   have hψ0:∀b,G.φ b=none->Bb G.φ ls b=none:=fun b hb=>by unfold Bb;rw [hb]
   have hψr:∀b f r q,G.φ b=some (f,r,q)->(∀l∈ls,l.r≠r)->Bb G.φ ls b=none:=by
    intro b f r q hb hr
    cases hz:Bb G.φ ls b with
    | none=>rfl
    | some z=>
     obtain ⟨l,hl',f',q1,q',e1,_⟩:=hψs b z hz
     rw [hb] at e1
     injection e1 with e1
     injection e1 with _ e1
     injection e1 with e1 _
     exact absurd e1.symm (hr l hl')
   have hcells:∀b z,Bb G.φ ls b=some z -> ¬Kp.K b/\C6 w (b):=by
    intro b z hz
    obtain ⟨l,hl',f,q,q',e1,e2,_⟩:=hψs b z hz
    exact S.g.mine e1 (Zd e2)
   have hargs:=b6 (Bb G.φ ls) (fun b=>G.φ b=none\/InU G.φ us b) (fun l hl' b f q q' hb hq=>YT l2 hl' hb hq) (fun b hb=>.inl hb) (fun b hb=>.inr hb)
   obtain ⟨hexec,hcon⟩:=hcon (Bb G.φ ls) (fun b=>G.φ b=none\/InU G.φ us b) _ out hargs
    (fun b hU=>by
     rcases hU with hb | ⟨r,f,hr,hb⟩
     ·exact hψ0 b hb
     ·have hr':r∈us.map (·.1):=List.mem_map.2 ⟨_,hr,rfl⟩
      rcases hb with ⟨q,hb⟩ | ⟨_,hb⟩
      ·exact hψr b _ r q hb (fun l hl' e=>l1 l hl' (e▸hr'))
      ·exact hψr b _ r _ hb (fun l hl' e=>l1 l hl' (e▸hr')))
    (fun b z hz=>(hcells b z hz).2) (fun b hb=>by
     obtain ⟨k1,k2⟩:=S.inv.base.gl b hb
     refine ⟨?_,k2.move (S.inv.base.kept b k1)⟩
     cases hz:Bb G.φ ls b with
     | none=>rfl
     | some z=>exact absurd k1 (hcells b z hz).1) h4
   refine Acg (f:=f) (args:=args) hexec hcon ?_
   ·intro v w' hpost
    obtain ⟨χ,hpost⟩:=hpost
    have hbs:=Apc S.g h1 (by simpa using h5) hpost.io
    obtain ⟨p1,p2,p3⟩:=Ag3 (s1:=s.put W) hbs l2
    have hls:∀l∈ls,∃k' d' dep box frz ver,s (rt l.r)=.root k' d' dep box frz ver:=fun l hl'=>by
     obtain ⟨k,x,d0,hh⟩:=b5 l hl'
     exact hh.root
    have hsW:∀l∈ls,(s.put W) (rt l.r)=s (rt l.r):=fun l hl'=>c7 l.r (l1 l hl')
    have hlid:∀l∈ls,l.r≠id:=fun l hl' e=>by
     obtain ⟨k',d',dep,box,frz,ver,e1⟩:=hls l hl'
     rw [e,hid] at e1
     cases e1
    have huniq:∀l∈ls,∀l'∈ls,l'.r=l.r->l'=l:=fun l hl1 l' hl2 e=>by
     have h1':=JU l2 l hl1
     have h2':=JU l2 l' hl2
     rw [e,h1'] at h2'
     exact (ACs h2').symm
    -- lent blocks keep their colour through the sharing
    have hlendG1:∀b z,Bb G.φ ls b=some z -> ∃l∈ls,∃f q q',G1.φ b=some (f,l.r,q)/\Eg l f q=some q'/\z=(l.i,q'):=fun b z hz=>by
     obtain ⟨l,hl',f,q,q',e1,e2,e3⟩:=hψs b z hz
     exact ⟨l,hl',f,q,q',c4 b _ _ _ e1 (l1 l hl'),e2,e3⟩
    have hnone1:∀b,G1.φ b=none->Bb G.φ ls b=none:=fun b hb=>by
     cases hz:Bb G.φ ls b with
     | none=>rfl
     | some z=>
      obtain ⟨l,hl',f,q,q',e1,_⟩:=hlendG1 b z hz
      rw [hb] at e1
      cases e1
    have hr1:∀b f r q,G1.φ b=some (f,r,q)->(∀l∈ls,l.r≠r)->Bb G.φ ls b=none:=fun b f r q hb hr=>hψr b f r q (c5 b _ hb) hr
    let φ':=RB G1.φ (Bb G.φ ls) χ ls id w.heap.size g.own wh g.rs
    have hold:∀b,b<w.heap.size->Bb G.φ ls b=none->φ' b=G1.φ b/\w'.heap[b]? = w.heap[b]?:=fun b hb hz=>⟨by simp only [φ',RB];rw [if_pos ⟨hb,hz⟩],hpost.kept b hb hz⟩
    have hnew:∀b z,χ b=some z->φ' b=match z with
      | .io i q=>(ls.find? (fun l=>Nat.beq l.i i)).bind fun l=>T3 l q
      | .res q=>if g.own=true then SN wh g.rs id q else none:=fun b z hz=>by
     have hc:=(hpost.col b z hz).1
     have:¬(b<w.heap.size/\Bb G.φ ls b=none):=fun h=>by
      rcases hc with hc | hc
      ·omega
      ·exact hc h.2
     simp only [φ',RB]
     rw [if_neg this,hz]
     cases z<;>rfl
    have hfreeb:∀b,χ b=none->(w.heap.size<=b\/Bb G.φ ls b≠none)->φ' b=none:=fun b hz hc=>by
     have:¬(b<w.heap.size/\Bb G.φ ls b=none):=fun h=>by
      rcases hc with hc | hc
      ·omega
      ·exact hc h.2
     simp only [φ',RB]
     rw [if_neg this,hz]
    have hio:∀l∈ls,∀b q,χ b=some (.io l.i q)->φ' b=T3 l q:=fun l hl' b q hb=>by
     rw [hnew b _ hb]
     simp only [Yz b4 l hl',Option.bind_some]
    have hshared:∀b,G1.φ b=none->b<w.heap.size->φ' b=none/\w'.heap[b]? = w.heap[b]?:=fun b hb hlt=>by
     obtain ⟨e1,e2⟩:=hold b hlt (hnone1 b hb)
     exact ⟨e1.trans hb,e2⟩
    -- what is shared is nobody's
    have hsh0:((!g.own && !g.rs.all Kd.flat)||Qx g||(!g.rs.all Kd.nossl && !m.fr))=true\/m.fr=true -> ∀b,(χ b=none/\(frU m (fun b=>G.φ b=none\/InU G.φ us b) b\/w.heap.size<=b\/Bb G.φ ls b≠none))->φ' b=none:=by
     intro hshare b hb
     obtain ⟨e1,e2⟩:=hb
     by_cases hc:b<w.heap.size/\Bb G.φ ls b=none
     ·rw [(hold b hc.1 hc.2).1]
      rcases e2 with e2 | e2 | e2
      ·have hfr:m.fr=false:=by
        unfold frU at e2
        cases hm:m.fr with
        | false=>rfl
        | true=>rw [hm] at e2;exact e2.elim
       unfold frU at e2
       rw [hfr] at e2
       have hshare:=hshare.resolve_right (by rw [hfr];exact Bool.false_ne_true)
       rcases e2 with e2 | ⟨r,f,hr,e2⟩
       ·exact c3 b e2
       ·refine c6 r (b2 hshare r f hr) b ?_
        rcases e2 with e2 | ⟨e2,e3⟩
        ·exact .inl e2
        ·subst e2;exact .inr ⟨hr,e3⟩
      ·exact absurd hc.1 (by omega)
      ·exact absurd hc.2 e2
     ·refine hfreeb b e1 ?_
      by_cases hlt2:b<w.heap.size
      ·exact .inr fun e=>hc ⟨hlt2,e⟩
      ·exact .inl (by omega)
    -- the roots' cells
    let Cx:Nat->List Value:=open Classical in fun r=>if ∃l∈ls,l.bx=true/\l.r=r then (match w'.heap[G.β r]? with | some (.cells cs _ _)=>cs.toList | _=>[]) else G1.C r
    have hCx:∀r,(∀l∈ls,l.r=r->l.bx=false)->Cx r=G1.C r:=fun r hr=>by
     simp only [Cx]
     rw [if_neg]
     rintro ⟨l,hl',e1,e2⟩
     rw [hr l hl' e2] at e1
     cases e1
    have hCxb:∀l∈ls,l.bx=true -> ∀cs ty fr,w'.heap[G.β l.r]? = some (.cells cs ty fr)->Cx l.r=cs.toList:=fun l hl' hb cs ty fr hh=>by
     simp only [Cx]
     rw [if_pos ⟨l,hl',hb,rfl⟩,hh]
    -- the roots as they stand behind the lent ones' return
    have hroots:∀r,(∀l∈ls,l.r≠r)->((s.put W).put Wb) (rt r)=(s.put W) (rt r):=p1
    have hidW:((s.put W).put Wb) (rt id)=.none:=by
     rw [hroots id hlid]
     exact (c9 id).1 hid
    -- all roots but the result's
    have hRoot:∀(C':Nat->List Value) (β':Nat->Nat),(∀r,r≠id->C' r=Cx r)->(∀r,r≠id->β' r=G1.β r) -> ∀r,r≠id->Cy ⟨φ',C',β'⟩ w' r (((s.put W).put Wb) (rt r)):=by
     intro C' β' hC' hβ' r hrid
     by_cases hr:∃l∈ls,l.r=r
     ·obtain ⟨l,hl',rfl⟩:=hr
      obtain ⟨c,hback,e4⟩:=p3 l hl'
      rw [e4]
      cases hback with
      | gone=>trivial
      | @whole x k' d' d'' dep ver cs ty h hb hc hrp=>
       have hCe:=hCxb l hl' h.bx cs ty _ hb
       refine ⟨?_,fun _=>⟨⟨cs,ty,?_,?_⟩,?_⟩⟩
       ·simp only
        rw [hC' _ hrid,hCe]
        cases hd:l.dp with
        | false=>
         rw [hd] at hrp
         simp only [cond_false] at hrp
         rcases h.flat hd with hf | hd
         ·exact hrp.flat w' _ _ hf
         ·refine hrp.frame fun q b _ hb' _=>⟨rfl,?_⟩
          have hlb:Qx g=true:=b7 l hl' h.bx
          simp only [Az,hd,Nat.not_lt_zero,if_false]
          exact hsh0 (.inl (by rw [hlb,Bool.or_true,Bool.true_or])) b hb'
        | true=>
         rw [hd] at hrp
         simp only [cond_true] at hrp
         have hlb:Qx g=true:=b7 l hl' h.bx
         refine hrp.lmove (fun q b f2 f1 _ => ?_) (.inr fun q b hs _=>B6.2 (hsh0 (.inl (by rw [hlb,Bool.or_true,Bool.true_or])) b (Ej.1 hs)))
         have hd1:=h.deep hd
         have:lev q<dep:=by omega
         simp only [List.nil_append,lvS,f2,if_true] at f1
         simp only [List.nil_append,Az,this,if_true]
         rw [hio l hl' b _ f1]
         unfold T3
         rw [h.bx]
         rfl
       ·simp only
        rw [hβ' _ hrid,cβ]
        exact hb
       ·simp only
        rw [hC' _ hrid,hCe]
       ·simp only [ACn,if_false]
        rw [hβ' _ hrid,cβ,hio l hl' _ _ hc]
        unfold T3
        rw [h.bx]
        rfl
      | @part k x k' d' d'' dep box frz ver d0 dn e1 e2 e3=>
      have hCe:Cx l.r=G1.C l.r:=hCx l.r fun l' hl2 e=>by rw [huniq l hl' l' hl2 e];exact e1.bx
      have hro:=g1.roots l.r
      rw [hsW l hl',e1.root] at hro
      refine ⟨?_,fun hbx => ?_⟩
      ·simp only
       rw [hC' _ hrid,hCe]
       refine Amh (y:=⟨k,dn⟩) hro.1 e1.ok e1.get e2 (fun q' b hq hnq hs hlt => ?_) ?_
       ·rcases AG hs with ⟨hlv,hs⟩ | ⟨hlv,hs⟩
        ·have hz:Bb G.φ ls b=none:=by
          cases hz:Bb G.φ ls b with
          | none=>rfl
          | some z=>
           obtain ⟨l',hl2,f,q,q1,f1,f3,_⟩:=hlendG1 b z hz
           rw [hs] at f1
           injection f1 with f1
           injection f1 with f0 f1
           injection f1 with f1 f2
           have:l'=l:=huniq l hl' l' hl2 f1.symm
           subst this
           subst f0 f2
           unfold Eg at f3
           rw [e1.bx] at f3
           have f4:=XU (show GY l'.p q'=some q1 from f3)
           rw [f4] at hnq
           exact absurd ⟨q1,by simp⟩ hnq
         obtain ⟨f1,f2⟩:=hold b hlt hz
         refine ⟨f2,?_⟩
         simp only [Az,hlv,if_true]
         exact f1.trans hs
        ·obtain ⟨f1,f2⟩:=hshared b hs hlt
         refine ⟨f2,?_⟩
         simp only [Az,Nat.not_lt.2 hlv,if_false]
         exact f1
       ·rw [List.nil_append]
        have hcc:A2 w l.p k' (G1.C l.r)=A2 w l.p k' (G.C l.r):=by rw [c1]
        rw [hcc]
        refine e3.lmove (fun q b f3 f1 _ => ?_) (.inl e1.ns)
        rw [List.nil_append] at f1
        have hd1:=e1.deep
        have:lev (l.p++q)<dep:=by rw [A3];omega
        simp only [Az,this,if_true]
        rw [hio l hl' b q f1]
        unfold T3
        rw [e1.bx]
        rfl
      ·obtain ⟨⟨cs,T,f1,f2⟩,f3⟩:=hro.2 hbx
       have hlt:G1.β l.r<w.heap.size:=(Array.getElem?_eq_some_iff.1 f1).1
       have hz:Bb G.φ ls (G1.β l.r)=none:=by
        cases frz with
        | true=>simp only [if_true] at f3;exact hnone1 _ f3
        | false=>simp only [ACn,if_false] at f3;exact Z6 l2 hl' (c5 _ _ f3) (by unfold Eg;rw [e1.bx];rfl)
       obtain ⟨k1,k2⟩:=hold _ hlt hz
       simp only
       rw [hC' _ hrid,hCe,hβ' _ hrid]
       exact ⟨⟨cs,T,k2.trans f1,f2⟩,k1.trans f3⟩
     ·have hr':∀l∈ls,l.r≠r:=fun l hl' e=>hr ⟨l,hl',e⟩
      rw [hroots r hr']
      refine Cy.keep (g1.roots r) hshared ((hC' r hrid).trans (hCx r fun l hl' e=>absurd e (hr' l hl'))) (hβ' r hrid) (fun b f q hb => ?_)
      obtain ⟨k1,k2⟩:=hold b (g1.col.lt b _ hb) (hr1 b f r q hb hr')
      exact ⟨k1.trans hb,k2⟩
    have hCol:∀C' β',ColOk Kp ⟨φ',C',β'⟩ w':=by
     intro C' β'
     have key:∀b x,φ' b=some x->(b<w.heap.size/\Bb G.φ ls b=none/\G1.φ b=some x) \/ ∃z,χ b=some z:=by
      intro b x hx
      by_cases hc:b<w.heap.size/\Bb G.φ ls b=none
      ·exact .inl ⟨hc.1,hc.2,by rw [<- (hold b hc.1 hc.2).1];exact hx⟩
      ·right
       simp only [φ',RB] at hx
       rw [if_neg hc] at hx
       cases hz:χ b with
       | none=>rw [hz] at hx;cases hx
       | some z=>exact ⟨z,rfl⟩
     refine ⟨fun b x hx => ?_,fun b x hx => ?_,fun b hx => ?_⟩
     ·rcases key b x hx with ⟨h1,h2,h3⟩ | ⟨z,hz⟩
      ·rcases g1.col.col b x h3 with e | ⟨k1,k2⟩
       ·exact .inl e
       ·exact .inr ⟨k1,k2.same (hold b h1 h2).2⟩
      ·obtain ⟨k1,k2⟩:=hpost.col b z hz
       refine .inr ⟨fun hk => ?_,k2⟩
       rcases k1 with k1 | k1
       ·have:=S.inv.base.old b hk;have:=S.inv.base.size;omega
       ·cases hz2:Bb G.φ ls b with
        | none=>exact k1 hz2
        | some z2=>exact (hcells b z2 hz2).1 hk
     ·rcases key b x hx with ⟨h1,h2,h3⟩ | ⟨z,hz⟩
      ·exact Nat.lt_of_lt_of_le h1 hpost.size
      ·exact (hpost.col b z hz).2.lt
     ·have h1:=g1.col.out b hx
      exact ((hold b (g1.col.lt b _ h1) (ZP (c5 b _ h1))).1).trans h1
    have hTr:∀(C':Nat->List Value) (β':Nat->Nat) (s2:Ab),(∀r,r≠id->C' r=Cx r)->(∀r,r≠id->β' r=G1.β r)->(∀r,r≠id->s2 (rt r)=((s.put W).put Wb) (rt r))->(∀r,s2 (ak r)=((s.put W).put Wb) (ak r))->Tr G1 ⟨φ',C',β'⟩ w w' (s.put W) s2:=by
     intro C' β' s2 hC' hβ' hs2 Anw
     refine ⟨hshared,fun r k d dep box frz ver hs => ?_,fun r hs => ?_,fun r hs=>by rw [Anw,Apt hbs];exact hs⟩
     ·have hrid:r≠id:=fun e=>by subst e;rw [(c9 r).1 hid] at hs;cases hs
      rw [hs2 r hrid]
      by_cases hr:∃l∈ls,l.r=r
      ·obtain ⟨l,hl',rfl⟩:=hr
       obtain ⟨c,hback,e4⟩:=p3 l hl'
       rw [e4]
       rw [hsW l hl'] at hs
       cases hback with
       | gone=>exact .inl rfl
       | whole h hb hc hrp=>
        rw [h.root] at hs
        simp only [Cell.root.injEq] at hs
        obtain ⟨rfl,_,rfl,rfl,rfl,rfl⟩:=hs
        exact .inr ⟨_,_,_,_,rfl,hβ' _ hrid,fun h=>(by
         rcases h with h | h | h
         ·cases h
         ·cases h
         ·exact absurd h (Apn _)),fun h=>h,.inr (.inl (U9 _))⟩
       | part e1 e2 e3=>
        have hCe:Cx l.r=G1.C l.r:=hCx l.r fun l' hl2 e=>by rw [huniq l hl' l' hl2 e];exact e1.bx
        rw [e1.root] at hs
        simp only [Cell.root.injEq] at hs
        obtain ⟨rfl,_,rfl,rfl,rfl,rfl⟩:=hs
        exact .inr ⟨_,_,_,_,rfl,hβ' _ hrid,fun _=>(hC' _ hrid).trans hCe,fun h=>h,.inr (.inl (U9 _))⟩
      ·have hr':∀l∈ls,l.r≠r:=fun l hl' e=>hr ⟨l,hl',e⟩
       have hCe:Cx r=G1.C r:=hCx r fun l hl' e=>absurd e (hr' l hl')
       rw [hroots r hr']
       exact .inr ⟨d,dep,frz,ver,hs,hβ' _ hrid,fun _=>(hC' _ hrid).trans hCe,fun h=>h,.inl ⟨rfl,rfl,(hC' _ hrid).trans hCe,fun q b hb=>(hold b (g1.col.lt b _ hb) (hr1 b _ r q hb hr')).2,fun q b hlt h=>by
        rcases AG h with ⟨hl,h⟩ | ⟨hl,h⟩
        ·simp only [Az,hl,if_true];exact ((hold b hlt (hr1 b _ r q h hr')).1).trans h
        ·simp only [Az,Nat.not_lt.2 hl,if_false];exact (hshared b h hlt).1⟩⟩
     ·have hrid:r≠id:=fun e=>by subst e;rw [(c9 r).1 hid] at hs;cases hs
      have hr':∀l∈ls,l.r≠r:=fun l hl' e=>by
       obtain ⟨k',d',dep',box',frz',ver',e1⟩:=hls l hl'
       rw [<- e,hsW l hl',e1] at hs
       cases hs
      rw [hs2 r hrid,hroots r hr']
      exact hs
    have hBase:Base P Kp B0 w':=by
     have hbase:=S.inv.base
     refine ⟨hpost.os.trans hbase.os,hpost.tape.trans hbase.tape,hpost.output.trans hbase.output,Nat.le_trans hbase.size hpost.size,fun b hk => ?_,hbase.old,hbase.gl⟩
     have hlt:b<w.heap.size:=Nat.lt_of_lt_of_le (hbase.old b hk) hbase.size
     refine (hpost.kept b hlt ?_).trans (hbase.kept b hk)
     cases hz:Bb G.φ ls b with
     | none=>rfl
     | some z=>exact absurd hk (hcells b z hz).1
    have hsl:∀t,((s.put W).put Wb) (sl t)=(s.put W) (sl t):=p2
    rw [hws,Ab.put_append,Ab.put_append]
    -- without a new root
    have plain:∀(c:Cell) (dst:Option Nat),o.dst=dst->(∀d,dst=some d->At ⟨φ',Cx,G1.β⟩ w' (((s.put W).put Wb).put (Bp dst c)) v c)->Inv P Kp B0 n (((s.put W).put Wb).put (Bp dst c)) (a.put o.dst v) w':=by
     intro c dst hd hc
     refine ⟨?_,?_,hBase,_,g1.step (hTr Cx G1.β _ (fun _ _=>rfl) (fun _ _=>rfl) (fun r _ => ?_) (fun r=>by
      cases dst with
      | none=>rfl
      | some d=>simp only [Bp,Ab.put];exact Ab.set_other _ _ (Fd r d))) o.dst v (fun t ht => ?_) (fun d' hd' => ?_) (fun r => ?_) (hCol _ _)⟩
     ·cases o.dst<;>simp [Act.put,S.inv.defers]
     ·cases o.dst<;>simp [Act.put,S.inv.size]
     ·cases dst with
      | none=>rfl
      | some d=>simp only [Bp,Ab.put];exact Ab.set_other _ _ (A8 d r).symm
     ·subst hd
      cases hdd:o.dst with
      | none=>simp only [Bp,Ab.put];exact hsl t
      | some d=>
       simp only [Bp,Ab.put]
       rw [Ab.set_other _ _ (fun e=>ht (by rw [hdd,Em e]))]
       exact hsl t
     ·refine ⟨by rw [S.inv.size];exact S.dst d' hd',?_⟩
      subst hd
      rw [hd'] at hc |-
      simp only [Bp,Ab.put,Ab.set_same]
      have:=hc d' rfl
      simpa only [Bp,Ab.put] using this
     ·have e:(((s.put W).put Wb).put (Bp dst c)) (rt r)=((s.put W).put Wb) (rt r):=by
       cases dst with
       | none=>rfl
       | some d=>simp only [Bp,Ab.put];exact Ab.set_other _ _ (A8 d r).symm
      rw [e]
      by_cases hr:r=id
      ·subst hr;rw [hidW];trivial
      ·exact hRoot Cx G1.β (fun _ _=>rfl) (fun _ _=>rfl) r hr
    -- with a new root
    have rooted:∀(d:Nat) (k:Kd) (x:k.den) (dep:Nat) (cs:List Value) (sc:Cell),o.dst=some d->Rep w' (Az φ' id dep) k [] cs x ->
      At ⟨φ',fun r=>if r=id then cs else Cx r,G1.β⟩ w' (((s.put W).put Wb).put [(rt id,.root k x dep false false 0),(sl d,sc)]) v sc ->
      Inv P Kp B0 n (((s.put W).put Wb).put [(rt id,.root k x dep false false 0),(sl d,sc)]) (a.put o.dst v) w':=by
     intro d k x dep cs sc hd hrep hc
     have hr2:∀r,r≠id->(((s.put W).put Wb).put [(rt id,.root k x dep false false 0),(sl d,sc)]) (rt r)=((s.put W).put Wb) (rt r):=fun r hr=>by
      simp only [Ab.put]
      rw [Ab.set_other _ _ (A8 d r).symm,Ab.set_other _ _ (fun e=>hr (Bi e))]
     refine ⟨by rw [hd];simp [Act.put,S.inv.defers],by rw [hd];simp [Act.put,S.inv.size],hBase,_,g1.step (hTr (fun r=>if r=id then cs else Cx r) G1.β _ (fun r hr=>by simp [hr]) (fun _ _=>rfl) hr2 (fun r=>by simp only [Ab.put];rw [Ab.set_other _ _ (Fd r d),Ab.set_other _ _ (Ev r id)])) o.dst v (fun t ht => ?_) (fun d' hd' => ?_) (fun r => ?_) (hCol _ _)⟩
     ·simp only [Ab.put]
      rw [Ab.set_other _ _ (fun e=>ht (by rw [hd,Em e])),Ab.set_other _ _ (A8 t id)]
      exact hsl t
     ·refine ⟨by rw [S.inv.size];exact S.dst d' hd',?_⟩
      rw [hd] at hd'
      injection hd' with hd'
      subst hd'
      have e:(((s.put W).put Wb).put [(rt id,.root k x dep false false 0),(sl d,sc)]) (sl d)=sc:=by simp only [Ab.put];exact Ab.set_same _ _ _
      rw [e]
      exact hc
     ·by_cases hr:r=id
      ·subst hr
       have e:(((s.put W).put Wb).put [(rt r,.root k x dep false false 0),(sl d,sc)]) (rt r)=.root k x dep false false 0:=by
        simp only [Ab.put];rw [Ab.set_other _ _ (A8 d r).symm,Ab.set_same]
       rw [e]
       refine ⟨?_,fun h=>by cases h⟩
       simpa using hrep
      ·rw [hr2 r hr]
       exact hRoot _ _ (fun r hr=>by simp [hr]) (fun _ _=>rfl) r hr
    -- with a new box
    have rootedB:∀(d:Nat) (k:Kd) (x:k.den) (dep:Nat) (cs:Array Value) (ty:TypeId) (b:Nat),o.dst=some d->w'.heap[b]? = some (.cells cs ty (0,0))->φ' b=some (true,id,[])->Rep w' (Az φ' id dep) k [] cs.toList x->v=.pointer (some ⟨b,0,none⟩) ->
      Inv P Kp B0 n (((s.put W).put Wb).put [(rt id,.root k x dep true false 0),(sl d,.ptr id [] 0)]) (a.put o.dst v) w':=by
     intro d k x dep cs ty b hd hh hφ hrep hv
     have hr2:∀r,r≠id->(((s.put W).put Wb).put [(rt id,.root k x dep true false 0),(sl d,.ptr id [] 0)]) (rt r)=((s.put W).put Wb) (rt r):=fun r hr=>by
      simp only [Ab.put]
      rw [Ab.set_other _ _ (A8 d r).symm,Ab.set_other _ _ (fun e=>hr (Bi e))]
     have eid:(((s.put W).put Wb).put [(rt id,.root k x dep true false 0),(sl d,.ptr id [] 0)]) (rt id)=.root k x dep true false 0:=by
      simp only [Ab.put];rw [Ab.set_other _ _ (A8 d id).symm,Ab.set_same]
     refine ⟨by rw [hd];simp [Act.put,S.inv.defers],by rw [hd];simp [Act.put,S.inv.size],hBase,_,g1.step (hTr (fun r=>if r=id then cs.toList else Cx r) (fun r=>if r=id then b else G1.β r) _ (fun r hr=>by simp [hr]) (fun r hr=>by simp [hr]) hr2 (fun r=>by simp only [Ab.put];rw [Ab.set_other _ _ (Fd r d),Ab.set_other _ _ (Ev r id)])) o.dst v (fun t ht => ?_) (fun d' hd' => ?_) (fun r => ?_) (hCol _ _)⟩
     ·simp only [Ab.put]
      rw [Ab.set_other _ _ (fun e=>ht (by rw [hd,Em e])),Ab.set_other _ _ (A8 t id)]
      exact hsl t
     ·refine ⟨by rw [S.inv.size];exact S.dst d' hd',?_⟩
      rw [hd] at hd'
      injection hd' with hd'
      subst hd'
      have e:(((s.put W).put Wb).put [(rt id,.root k x dep true false 0),(sl d,.ptr id [] 0)]) (sl d)=.ptr id [] 0:=by simp only [Ab.put];exact Ab.set_same _ _ _
      rw [e]
      simp only [At]
      rw [eid]
      exact ⟨ACr _,fun _=>⟨⟨k,x⟩,rfl,trivial,b,0,by simp [By,home],hv⟩⟩
     ·by_cases hr:r=id
      ·subst hr
       rw [eid]
       refine ⟨by simpa using hrep,fun _=>⟨⟨cs,ty,by simpa using hh,by simp⟩,by simpa using hφ⟩⟩
      ·rw [hr2 r hr]
       exact hRoot _ _ (fun r hr=>by simp [hr]) (fun r hr=>by simp [hr]) r hr
    obtain ⟨c,hv,hres⟩:=hpost.res
    -- shared results
    have hsh:g.own=false -> ∀(k:Kd) (q0:Ah) (c0:List Value) (x:k.den),Rep w' (bif g.own then lvS (Kd.tuple g.rs).lev (fun q b=>χ b=some (.res q)) (fun b=>χ b=none/\(frU m (fun b=>G.φ b=none\/InU G.φ us b) b\/w.heap.size<=b\/Bb G.φ ls b≠none)) else fun _ b=>χ b=none/\(frU m (fun b=>G.φ b=none\/InU G.φ us b) b\/w.heap.size<=b\/Bb G.φ ls b≠none)) k q0 c0 x ->
      g.rs.all Kd.flat=false->Rep w' (shS φ') k [] c0 x:=by
     intro ho k q0 c0 x hr hnf
     rw [ho] at hr
     simp only [cond_false] at hr
     refine hr.move fun p b hb hlt=>hsh0 (.inl (by rw [ho,hnf];rfl)) b hb
    have hown:g.own=true -> ∀(k:Kd) (q0:Ah) (c0:List Value) (x:k.den),Rep w' (bif g.own then lvS (Kd.tuple g.rs).lev (fun q b=>χ b=some (.res q)) (fun b=>χ b=none/\(frU m (fun b=>G.φ b=none\/InU G.φ us b) b\/w.heap.size<=b\/Bb G.φ ls b≠none)) else fun _ b=>χ b=none/\(frU m (fun b=>G.φ b=none\/InU G.φ us b) b\/w.heap.size<=b\/Bb G.φ ls b≠none)) k q0 c0 x ->
      (∀q,SN wh g.rs id (q0++q)=some (false,id,q))->lev q0+k.lev<=(Kd.tuple g.rs).lev->(k.nossl=true\/g.rs.all Kd.nossl=false)->Rep w' (Az φ' id (max k.lev 99)) k [] c0 x:=by
     intro ho k q0 c0 x hr hq hlv hns
     rw [ho] at hr
     simp only [cond_true] at hr
     refine hr.lmove (fun p b e2 e1 _ => ?_) (hns.imp _root_.id fun hns p b hs _=>B6.2 (hsh0 (by rw [hns];cases m.fr<;>simp) b (Ej.1 hs)))
     have hl2:lev p<max k.lev 99:=by omega
     have hl3:lev (q0++p)<(Kd.tuple g.rs).lev:=by rw [A3];omega
     rw [List.nil_append]
     simp only [lvS,hl3,if_true] at e1
     simp only [Az,hl2,if_true]
     rw [hnew b _ e1]
     simp only [ho,if_true,hq]
    cases hd:o.dst with
    | none=>
     have:=plain .none none hd (fun d h=>by cases h)
     rw [hd] at this
     simpa [XG,Bp] using this
    | some d0=>
     have hgoal:∀(rs:List Kd) (x:(Kd.tuple rs).den),g.rs=rs->S9 rs v c ->
       Rep w' (bif g.own then lvS (Kd.tuple g.rs).lev (fun q b=>χ b=some (.res q)) (fun b=>χ b=none/\(frU m (fun b=>G.φ b=none\/InU G.φ us b) b\/w.heap.size<=b\/Bb G.φ ls b≠none)) else fun _ b=>χ b=none/\(frU m (fun b=>G.φ b=none\/InU G.φ us b) b\/w.heap.size<=b\/Bb G.φ ls b≠none)) (Kd.tuple rs) [] c x ->
       Inv P Kp B0 n (((s.put W).put Wb).put (XG (some d0) id g.own wh rs x)) (a.put (some d0) v) w':=by
      intro rs x hrs hv hr
      match rs,x,hrs,hv,hr with
      | [],x,hrs,hv,hr=>
       have:=plain .none (some d0) hd (fun d h=>trivial)
       rw [hd] at this
       simpa [XG,Bp] using this
      | [k],x,hrs,hv,hr=>
       simp only [Kd.tuple,Rep,List.nil_append] at hr
       obtain ⟨hr,_⟩:=hr
       have hv:v=Am k (c.take k.size):=hv
       have hflat:g.rs.all Kd.flat=k.flat:=by simp [hrs]
       by_cases hbw:k.isBx=true/\g.own=true/\wh=true
       ·obtain ⟨hb1,ho,hw⟩:=hbw
        obtain ⟨k1,rfl⟩:=Wy hb1
        have e:XG (some d0) id g.own wh [.bx k1] x=[(rt id,.root k1 x.1 (max k1.lev 99) true false 0),(sl d0,.ptr id [] 0)]:=by simp only [XG,Zp,ho,hw,Bool.and_self,cond_true]
        rw [e]
        obtain ⟨b,cs,ty,f1,f2,f3⟩:=hpost.whole hw ho k1 hrs
        rw [ho] at hr
        simp only [cond_true,Rep] at hr
        obtain ⟨b',off,g2,g3,g4,g5⟩:=hr
        have g3:χ b'=some (.res [.l]):=by
         have:lev [St.l]<(Kd.tuple g.rs).lev:=by rw [hrs];simp only [lev,Kd.tuple,Kd.lev];omega
         simp only [lvS,this,if_true] at g3
         exact g3
        have g6:b'=b/\off=0:=by
         have:=hv
         rw [g2,f1] at this
         simp only [Am,Kd.agg,cond_false,Value.pointer.injEq,ACp,Addr.mk.injEq] at this
         exact ⟨this.1.symm,this.2.1.symm⟩
        obtain ⟨rfl,rfl⟩:=g6
        have hcells:Ai w' b' 0 k1.size=cs.toList:=by
         unfold Ai
         rw [f2]
         simp only [List.drop_zero]
         exact List.take_of_length_le (by simp [f3])
        rw [hcells] at g5
        have hφ':φ' b'=some (true,id,[]):=by
         rw [hnew b' _ g3]
         simp only [ho,if_true,hrs,hw,SN]
        have:=rootedB d0 k1 x.1 (max k1.lev 99) cs ty b' hd f2 hφ' (by
         have hns:k1.nossl=true\/g.rs.all Kd.nossl=false:=by
          cases hz:k1.nossl with
          | true=>exact .inl rfl
          | false=>exact .inr (by simp [hrs,Kd.nossl,hz])
         refine g5.lmove (fun p b e2 e1 _ => ?_) (hns.imp _root_.id fun hns p b hs _=>B6.2 (hsh0 (by rw [hns];cases m.fr<;>simp) b (Ej.1 hs)))
         have hl2:lev p<max k1.lev 99:=by omega
         have hl3:lev (([]++[St.l]++[.i 0])++p)<(Kd.tuple g.rs).lev:=by rw [A3,hrs];simp only [lev,List.nil_append,List.cons_append,Kd.tuple,Kd.lev];omega
         rw [List.nil_append]
         simp only [List.nil_append,List.cons_append] at hl3 e1
         simp only [lvS,hl3,if_true] at e1
         simp only [Az,hl2,if_true]
         rw [hnew b _ e1]
         simp only [ho,if_true,hrs,hw,SN,List.cons_append,List.nil_append]) f1
        rw [hd] at this
        exact this
       have hbw':k.isBx=false\/g.own=false\/wh=false:=by
        rcases Bool.eq_false_or_eq_true k.isBx with h1 | h1
        ·rcases Bool.eq_false_or_eq_true g.own with h2 | h2
         ·rcases Bool.eq_false_or_eq_true wh with h3 | h3
          ·exact absurd ⟨h1,h2,h3⟩ hbw
          ·exact .inr (.inr h3)
         ·exact .inr (.inl h2)
        ·exact .inl h1
       simp only [XG,Xj hbw',N8]
       have asVal:At ⟨φ',Cx,G1.β⟩ w' (((s.put W).put Wb).put [(sl d0,.val k x.1)]) v (.val k x.1)->Inv P Kp B0 n (((s.put W).put Wb).put [(sl d0,.val k x.1)]) (a.put (some d0) v) w':=by
        intro hc
        have:=plain (.val k x.1) (some d0) hd (fun d h=>by cases h;exact hc)
        rw [hd] at this
        exact this
       cases hf:k.flat with
       | true=>
        simp only [Bool.true_or,cond_true]
        exact asVal ⟨_,hv,hr.flat w' _ _ hf⟩
       | false=>
        simp only [Bool.false_or]
        cases ho:g.own with
        | false=>
         simp only [cond_false,Nat.beq_refl,cond_true]
         exact asVal ⟨_,hv,hsh ho k _ _ _ hr (by rw [hflat,hf])⟩
        | true=>
         have hrep:=hown ho k _ _ _ hr (fun q=>by
          rw [hrs,Je]
          ·rfl
          ·rcases hbw' with h | h | h
           ·right
            intro k' e
            injection e with e
            subst e
            cases h
           ·rw [ho] at h;cases h
           ·exact .inl h) (by rw [hrs];simp only [lev,Kd.tuple,Kd.lev];omega) (by
            cases hz:k.nossl with
            | true=>exact .inl rfl
            | false=>exact .inr (by simp [hrs,hz]))
         simp only [cond_true]
         cases hz:Nat.beq (max k.lev 99) 0 with
         | true=>
          simp only [cond_true]
          have hz:=ACt hz
          omega
         | false=>
          simp only [cond_false]
          have:=rooted d0 k x.1 (max k.lev 99) (c.take k.size) (.al id [] 0) hd hrep (by
           have e':(((s.put W).put Wb).put [(rt id,Cell.root k x.1 (max k.lev 99) false false 0),(sl d0,.al id [] 0)]) (rt id)=.root k x.1 (max k.lev 99) false false 0:=by
            simp only [Ab.put];rw [Ab.set_other _ _ (A8 d0 id).symm,Ab.set_same]
           simp only [At]
           rw [e']
           exact ⟨ACr _,fun _=>⟨⟨k,x.1⟩,rfl,trivial,by simp [A2,hv]⟩⟩)
          rw [hd] at this
          exact this
      | k::k'::ks,x,hrs,hv,hr=>
       have hv:v=.tuple (K3 (k::k'::ks) c).toArray:=hv
       simp only [XG]
       cases hj:(bif g.own then Ld (k::k'::ks) 0 else none) with
       | some j=>
        rcases Ae hj with ⟨ho,hj⟩ | ⟨_,hj⟩
        ·obtain ⟨m,e0,hm⟩:=YS hj
         rw [Nat.zero_add] at e0
         subst e0
         obtain ⟨y,hy⟩:=hm x
         simp only [hy]
         have hpart:=BD hr (Fx hy) hy
         rw [List.nil_append] at hpart
         have hrep:=hown ho y.k _ _ _ hpart (fun q=>by rw [hrs,Je (.inr (by intro k h;cases h))];simp only [As5,hj,KU,Option.map_some]) (by rw [Adn,hrs,Nat.zero_add];exact (Ls hy).1)
          (by
           cases hz:(Kd.tuple (k::k'::ks)).nossl with
           | true=>exact .inl ((Ls hy).2 hz)
           | false=>exact .inr (by rw [hrs,<- W7];exact hz))
         rw [Uu w' _ j c x y hy] at hrep
         have:=rooted d0 y.k y.d (max y.k.lev 99) _ (.tap id j (k::k'::ks) x) hd hrep (by
          have e':(((s.put W).put Wb).put [(rt id,Cell.root y.k y.d (max y.k.lev 99) false false 0),(sl d0,.tap id j (k::k'::ks) x)]) (rt id)=.root y.k y.d (max y.k.lev 99) false false 0:=by
           simp only [Ab.put];rw [Ab.set_other _ _ (A8 d0 id).symm,Ab.set_same]
          simp only [At]
          rw [e']
          exact ⟨c,hv,hr.frep,rfl,by simp,y,hy,rfl⟩)
         rw [hd] at this
         exact this
        ·cases hj
       | none=>
       have hrep:Rep w' (Az φ' id (bif g.own then max (Kd.tuple (k::k'::ks)).lev 99 else 0)) (Kd.tuple (k::k'::ks)) [] c x:=by
        cases ho:g.own with
        | true=>
         simp only [cond_true]
         rw [ho] at hj
         simp only [cond_true] at hj
         exact hown ho _ _ _ _ hr (fun q=>by rw [hrs,Je (.inr (by intro k h;cases h))];simp only [As5,hj,List.nil_append,Option.map_some]) (by rw [hrs];simp [lev])
          (by
           cases hz:(Kd.tuple (k::k'::ks)).nossl with
           | true=>exact .inl rfl
           | false=>exact .inr (by rw [hrs,<- W7];exact hz))
        | false=>
         simp only [cond_false]
         cases hf:g.rs.all Kd.flat with
         | true=>
          refine hr.flat w' _ _ ?_
          rw [hrs] at hf
          exact Adf hf
         | false=>exact (hsh ho _ _ _ _ hr hf).move fun q b hb _=>by simpa [Az,shS] using hb
       have:=rooted d0 (Kd.tuple (k::k'::ks)) x _ c (.tal id) hd hrep (by
        have e':(((s.put W).put Wb).put [(rt id,Cell.root (Kd.tuple (k::k'::ks)) x (bif g.own then max (Kd.tuple (k::k'::ks)).lev 99 else 0) false false 0),(sl d0,.tal id)]) (rt id)=.root (Kd.tuple (k::k'::ks)) x (bif g.own then max (Kd.tuple (k::k'::ks)).lev 99 else 0) false false 0:=by
         simp only [Ab.put];rw [Ab.set_other _ _ (A8 d0 id).symm,Ab.set_same]
        simp only [At]
        rw [e']
        exact ⟨rfl,k::k'::ks,rfl,by simp [hv]⟩)
       rw [hd] at this
       exact this
     exact hgoal g.rs _ rfl hv hres
  ·simp [Rd.out] at h3
theorem Rp {ags:Array Operand} {ts:Array TypeId} (hlen:ags.size=ts.size):(ags.toList.zip ts.toList).map (fun z=>a.eval z.1)=ags.toList.map a.eval:=by
 have e:∀(x:List Operand) (y:List TypeId),x.length=y.length->(x.zip y).map (fun z=>a.eval z.1)=x.map a.eval:=by
  intro x
  induction x with
  | nil=>intro y _;rfl
  | cons x xs ih=>
   intro y hy
   cases y with
   | nil=>simp at hy
   | cons y ys=>simp only [List.zip_cons_cons,List.map_cons,ih ys (by simpa using hy)]
 exact e _ _ (by simpa using hlen)
theorem Ash (S:Set_ P Γ Kp B0 n G s a w o) (hfs:∀f g,Γ.fs f=some g->Aa P f g) (hgs:∀f g,Γ.gs f=some g->AR P f g) {f:FuncId} {ags:Array Operand} {ts:Array TypeId} (ho:o.op=.call { callee:=.value (.func f),args:=ags,argTypes:=ts }) (h:(opD Γ id o).out s=some ws) (hok:Bv o ws=true) :
  o.wp P a w (fun a' w'=>Inv P Kp B0 n (s.put ws) a' w') Q:=by
 unfold opD at h
 rw [ho] at h
 simp only [As] at h
 rcases Ae h with ⟨hlen,h⟩ | ⟨_,h⟩
 ·have hlen:=ACt hlen
  have hexec:(execOp a.eval o).run P w=(callFunc f (ags.toList.map a.eval).toArray).run P w:=by
   unfold execOp
   rw [ho]
   have e:ags.map a.eval=(ags.toList.map a.eval).toArray:=by apply Array.ext';simp
   simp [resolve,Deferred.ofValue,Act.eval,invoke,e]
  split at h
  ·rename_i g hg
   refine Pj S (f:=f) (args:=(ags.toList.map a.eval).toArray) (fun ψ U d out h1 h2 h3 hgl h4 => ?_) h hok
   rw [Rp hlen] at h1 |-
   exact ⟨hexec,hgs f g hg w ψ U _ d out h1 h2 h3 hgl h4⟩
  ·simp only [Rd.out_bind,Rd.out_opt,ACq] at h
   obtain ⟨g,hg,h⟩:=h
   refine Pj S (f:=f) (args:=(ags.toList.map a.eval).toArray) (fun ψ U d out h1 h2 h3 hgl h4 => ?_) h hok
   rw [Rp hlen] at h1 |-
   exact ⟨hexec,(hfs f g hg w ψ U _ d out h1 h2 h3 hgl h4).mono fun v w' ⟨χ,p⟩=>⟨χ,p.toG⟩⟩
 ·simp [Rd.out] at h
def CH (P:Program) (g:FSig):Prop:=
 ∀(w:World) (ψ:Nat->Option (Nat×Ah)) (U:Nat->Prop) (vs:List Value) (d:(Kd.tuple (g.ps.map (·.1))).den) (out:(Kd.tuple (g.rs++(g.ps.filter (·.2)).map (·.1))).den),
  GD md0 w ψ U 0 g.ps vs d->(∀b,U b->ψ b=none)->(∀b z,ψ b=some z->C6 w (b))->Gl P w ψ->g.F d=some out ->
  ∃f fs cs ags,vs=ags++[.func (.func f) fs cs]/\BJ P f (fs++ags.toArray++cs) w fun v w' => ∃χ,Post g ψ U vs w out χ v w'
theorem Aot (S:Set_ P Γ Kp B0 n G s a w o) (hcs:∀f g,Γ.cs f=some g->CH P g) {x:Nat} {ags:Array Operand} {ts:Array TypeId} (ho:o.op=.call { callee:=.value (.tmp x),args:=ags,argTypes:=ts }) (h:(opD Γ id o).out s=some ws) (hok:Bv o ws=true) :
  o.wp P a w (fun a' w'=>Inv P Kp B0 n (s.put ws) a' w') Q:=by
 unfold opD at h
 rw [ho] at h
 simp only [As] at h
 rcases Ae h with ⟨hlen,h⟩ | ⟨_,h⟩
 ·have hlen:=ACt hlen
  simp only [Rd.out] at h
  split at h
  ·rename_i f _ _ _ _
   simp only [Rd.out_bind,Rd.out_opt,ACq] at h
   obtain ⟨g,hg,h⟩:=h
   have key:∀f' fs cs,a.eval (.tmp x)=.func (.func f') fs cs->(execOp a.eval o).run P w=(callFunc f' (fs++(ags.toList.map a.eval).toArray++cs)).run P w:=by
    intro f' fs cs hx
    unfold execOp
    rw [ho]
    have e:ags.map a.eval=(ags.toList.map a.eval).toArray:=by apply Array.ext';simp
    simp [resolve,Deferred.ofValue,hx,invoke,e]
   by_cases hf:∃f' fs cs,a.eval (.tmp x)=.func (.func f') fs cs
   ·obtain ⟨f',fs,cs,hx⟩:=hf
    refine Pj S (f:=f') (args:=fs++(ags.toList.map a.eval).toArray++cs) (fun ψ U d out h1 h2 h3 hgl h4=>⟨key _ _ _ hx,?_⟩) h hok
    refine BJ.mono (R:=fun v w' => ∃χ,Post g ψ U _ w out χ v w') ?_ fun v w' ⟨χ,p⟩=>⟨χ,p.toG⟩
    obtain ⟨f2,fs2,cs2,as2,e1,e2⟩:=hcs f g hg w ψ U _ d out h1 h2 h3 hgl h4
    have e3:=e1
    rw [List.map_append,Rp hlen] at e1
    simp only [List.map_cons,List.map_nil,hx] at e1
    obtain ⟨e4,e5⟩:=List.append_inj' e1 rfl
    simp only [List.cons.injEq,Value.func.injEq,Fn.func.injEq,and_true] at e5
    obtain ⟨e5,e6,e7⟩:=e5
    subst e4 e5 e6 e7
    exact e2
   ·exfalso
    rename_i hs
    have:=S.g.slots x
    rw [hs] at this
    obtain ⟨c,e1,c1,c2,e2,_⟩:=this
    subst e2
    exact hf ⟨_,_,_,by simpa [Act.eval,Array.getD_eq_getD_getElem?,Am,Kd.agg] using e1⟩
  ·simp [Rd.out] at h
 ·simp [Rd.out] at h
theorem Ya (g:GOk Kp G s a w) {r ver ver':Nat} {k:Kd} {d:k.den} {dep:Nat} {v:Value} (hc:At G w s v (.ptr r [] ver)) (hr:s (rt r)=.root k d dep true true ver') (hk0:k.flat=true\/dep=0) :
  ∃B,v=.pointer (some ⟨B,0,none⟩)/\G.φ B=none/\Be w B (0+k.size)/\Rep w (shS G.φ) k [] (Ai w B 0 k.size) d:=by
 have hro:=g.roots r
 rw [hr] at hro
 obtain ⟨hrep,hbx⟩:=hro
 obtain ⟨⟨cs,T,hb,hcs⟩,hφ⟩:=hbx rfl
 simp only [At,hr] at hc
 obtain ⟨_,hc⟩:=hc
 obtain ⟨x,_,_,B,O,hA,hv⟩:=hc (.inr (by simp [BX]))
 simp only [By,home,cond_true,ACp,Prod.mk.injEq] at hA
 obtain ⟨rfl,rfl⟩:=hA
 have hlen:=hrep.length
 have hcells:Ai w (G.β r) 0 k.size=G.C r:=by
  unfold Ai
  rw [hb]
  simp only [List.drop_zero,hcs]
  exact List.take_of_length_le (by omega)
 refine ⟨_,hv,hφ,⟨cs,T,_,hb,?_⟩,?_⟩
 ·have:cs.toList.length=k.size:=by rw [hcs];exact hlen
  simp at this
  omega
 ·rw [hcells]
  rcases hk0 with hf | rfl
  ·exact hrep.flat w _ _ hf
  ·refine hrep.move fun q b h _ => ?_
   simp only [Az,Nat.not_lt_zero,if_false] at h
   exact h
theorem Aid (g:GOk Kp G s a w) {x:Operand} {v:V} (h:(Eo x).out s=some v):∃c,a.eval x=Am v.k c/\Rep w (shS G.φ) v.k [] c v.d:=by
 cases x with
 | tmp x=>
  simp only [Eo,Rd.out] at h
  have hc:=g.slots x
  have hev:a.eval (.tmp x)=a.tmps.getD x undef:=by simp [Act.eval,Array.getD_eq_getD_getElem?]
  rw [hev]
  split at h
  ·rename_i k d hs
   have h:=ACs h
   subst h
   rw [hs] at hc
   obtain ⟨B,O,e1,e2,e3,e4⟩:=hc
   exact ⟨[.pointer (some ⟨B,O,none⟩)],e1,B,O,rfl,e2,e3,e4.move fun p b hb _=>hb⟩
  ·rename_i r p ver hs
   rw [hs] at hc
   simp only [Rd.out] at h
   split at h
   ·rename_i k d dep ver' hr
    simp only [As] at h
    rcases Ae h with ⟨hv,h5⟩ | ⟨_,h5⟩
    ·simp only [ACo,Bool.or_eq_true,List.isEmpty_iff] at hv
     obtain ⟨rfl,hk0⟩:=hv
     simp only [Rd.out] at h5
     have h6:=ACs h5
     subst h6
     obtain ⟨B,e1,e2,e3,e4⟩:=Ya g hc hr (hk0.imp _root_.id fun h=>ACt h)
     exact ⟨[.pointer (some ⟨B,0,none⟩)],e1,B,0,rfl,e2,e3,e4.move fun p b hb _=>hb⟩
    ·simp [Rd.out] at h5
   ·simp [Rd.out] at h
  ·rename_i k d hs
   have h:=ACs h
   subst h
   rw [hs] at hc
   exact hc
  ·rename_i k d hs
   have h:=ACs h
   subst h
   rw [hs] at hc
   obtain ⟨c,e1,e2⟩:=hc
   exact ⟨c,e1,e2.move fun p b hb _=>hb.elim⟩
  ·simp [Rd.out] at h
 | _=>simp [Eo,Rd.out] at h
theorem Xg (g:GOk Kp G s a w):∀{xs:List Operand} {v:V},(YJ xs).out s=some v -> ∀q,∃c,xs.map a.eval=LI v.k c/\Rep w (shS G.φ) v.k q c v.d:=by
 intro xs
 induction xs with
 | nil=>
  intro v h q
  have h:=ACs h
  subst h
  exact ⟨[],rfl,rfl⟩
 | cons x xs ih=>
  intro v h q
  simp only [YJ,Rd.out_bind,ACq,Rd.out,ACp] at h
  obtain ⟨y,h1,u,h2,h3⟩:=h
  subst h3
  obtain ⟨c1,e1,r1⟩:=Aid g h1
  obtain ⟨c2,e2,r2⟩:=ih h2 (q++[.r])
  have hl:=r1.length
  refine ⟨c1++c2,?_,?_⟩
  ·simp only [List.map_cons,LI]
   rw [List.take_append_of_le_length (by omega),List.take_of_length_le (by omega),List.drop_append_of_le_length (by omega),ACu (by omega),e1,e2]
   rfl
  ·simp only [Rep]
   rw [List.take_append_of_le_length (by omega),List.take_of_length_le (by omega),List.drop_append_of_le_length (by omega),ACu (by omega)]
   exact ⟨r1.move fun p b hb _=>hb,by simpa using r2⟩
theorem YE (S:Set_ P Γ Kp B0 n G s a w o) {f:FuncId} {xs ys:Array Operand} (ho:o.op=.makeFunc (.func f) xs ys) (h:(opD Γ id o).out s=some ws) (hok:Bv o ws=true) :
  o.wp P a w (fun a' w'=>Inv P Kp B0 n (s.put ws) a' w') Q:=by
 unfold opD at h
 rw [ho] at h
 simp only [Rd.out_bind,ACq,Rd.out,ACp] at h
 obtain ⟨u,h1,v,h2,h3⟩:=h
 subst h3
 obtain ⟨c1,e1,r1⟩:=Xg S.g h1 [.l]
 obtain ⟨c2,e2,r2⟩:=Xg S.g h2 [.r]
 refine AP S hok (v:=.func (.func f) (xs.map a.eval) (ys.map a.eval)) ?_ ⟨[_],rfl,c1,c2,?_,r1,r2⟩
 ·unfold execOp
  rw [ho]
  simp [Instr.makeFunc]
 ·rw [<- e1,<- e2]
  congr 2<;>(apply Array.ext';simp)
end
end Go.V
namespace Go.V
structure Env (P:Program) (Γ:Ctx):Prop where
 tab:BZ P Γ.tk Γ.ar
 fs:∀f g,Γ.fs f=some g->Aa P f g
 cs:∀f g,Γ.cs f=some g->CH P g
 w1:∀t,Γ.w1 t=true -> ∀w,(isAgg t).run P w=.ok false w
 eqt:∀t,Γ.eqt t=true->RT P t=true
 gs:∀f g,Γ.gs f=some g->AR P f g
section
variable {P:Program} {Γ:Ctx} {Kp:Keep} {B0:World} {n:Nat} {G:Gh} {s:Ab} {a:Act} {w w':World} {id:Nat} {o:Oper} {Q:Exit->Act->World->Prop} {ws:AA}
theorem Awn (E:Env P Γ) (hi:Inv P Kp B0 n s a w) (hdst:∀d,o.dst=some d->d<n) (h:(opD Γ id o).out s=some ws) (hok:Bv o ws=true) :
  o.wp P a w (fun a' w'=>Inv P Kp B0 n (s.put ws) a' w') Q:=by
 obtain ⟨G,g⟩:=hi.ghost
 have S:Set_ P Γ Kp B0 n G s a w o:=⟨E.tab,E.w1,E.eqt,hi,g,hdst⟩
 cases hop:o.op with
 | move x=>
  cases hnp:OZ x with
  | true=>exact PP S (.inl hop) hnp h hok
  | false=>
  cases hdm:Γ.dm (o.dst.getD 4095) with
  | false=>exact Aeg S (.inl hop) hnp hdm h hok
  | true=>exact R2 S (.inl hop) hnp hdm h hok
 | assign x=>
  cases hnp:OZ x with
  | true=>exact PP S (.inr hop) hnp h hok
  | false=>
  cases hdm:Γ.dm (o.dst.getD 4095) with
  | false=>exact Aeg S (.inr hop) hnp hdm h hok
  | true=>exact R2 S (.inr hop) hnp hdm h hok
 | pick c x y=>exact CF S hop h hok
 | binOp op t x y t'=>exact Ayo S hop h hok
 | unOp op t x=>exact AAl S hop h hok
 | convert t t' x=>exact Zj S hop h hok
 | alloc t=>exact Anu S hop h hok
 | box t x=>exact Az1 S hop h hok
 | load t x=>exact Atp S hop h hok
 | store t x y=>exact Ap6 S hop h hok
 | nilCheck x=>exact W6 S hop h hok
 | fieldAddr t x j=>exact UJ S hop h hok
 | field t x j=>exact Aol S hop h hok
 | indexAddr t x y=>exact V7 S hop h hok
 | index t x y=>exact Ao3 S hop h hok
 | slice t x lo hi mx=>
  cases mx with
  | none=>exact Ar4 S hop h hok
  | some m=>unfold opD at h;rw [hop] at h;simp [Rd.out] at h
 | makeSlice t x y=>exact Wq S hop h hok
 | build t ps=>exact Aog S hop h hok
 | buildSlice t m ps=>exact Tn S hop h hok
 | extract x j=>exact Zv S hop h hok
 | makeFunc f xs ys=>
  cases f with
  | func f=>exact YE S hop h hok
  | _=>unfold opD at h;rw [hop] at h;simp [Rd.out] at h
 | call c=>
  obtain ⟨callee,args,ts⟩:=c
  cases callee with
  | builtin b=>
   cases b with
   | len=>exact Ayz S hop h hok
   | append=>exact Ai2 S hop h hok
   | max=>exact Ayh S hop h hok
   | clear=>exact Apm S hop h hok
   | _=>unfold opD at h;rw [hop] at h;simp [Rd.out] at h
  | invoke r m=>unfold opD at h;rw [hop] at h;simp [Rd.out] at h
  | value x=>
   cases x with
   | func f=>exact Ash S E.fs E.gs hop h hok
   | tmp x=>exact Aot S E.cs hop h hok
   | _=>unfold opD at h;rw [hop] at h;simp [Rd.out] at h
 | _=>unfold opD at h;rw [hop] at h;simp [Rd.out] at h
structure InvP (P:Program) (Kp:Keep) (B0:World) (n:Nat) (A:Nat->Option Value) (s:Ab) (a:Act) (w:World):Prop where
 inv:Inv P Kp B0 n s a w
 pin:∀t v,A t=some v->a.tmps.getD t undef=v
theorem Iv {A:Nat->Option Value} {dst:Option Nat} {v:Value} (h:∀t v,A t=some v->a.tmps.getD t undef=v) (hd:∀d,dst=some d->A d=none):∀t u,A t=some u->(a.put dst v).tmps.getD t undef=u:=by
 intro t u ht
 rw [RV]
 split
 ·rename_i hc
  have:=hd t hc.1
  rw [ht] at this
  cases this
 ·exact h t u ht
theorem Ap3 {A:Nat->Option Value} {K:Act->World->Prop} (h:∀t v,A t=some v->a.tmps.getD t undef=v) (hd:∀d,o.dst=some d->A d=none) (hw:o.wp P a w K Q) :
  o.wp P a w (fun a' w'=>K a' w' /\ ∀t v,A t=some v->a'.tmps.getD t undef=v) Q:=by
 unfold Oper.wp at *
 generalize (execOp a.eval o).run P w=r at *
 cases r with
 | ok x w1=>
  cases x<;>simp only [Oper.upon] at hw |-
  case value v=>exact ⟨hw,Iv h hd⟩
  case skip=>exact ⟨hw,Iv h hd⟩
  case defer d=>exact ⟨hw,Iv (a:={ a with defers:=d::a.defers }) h hd⟩
  case enter f args=>
   refine Calls.mono hw fun e w'' he => ?_
   cases e with
   | returned u=>exact ⟨he,Iv h hd⟩
   | panicked c=>exact he
   | outgrown=>exact he
  case row row args=>exact Rows.mono hw fun u w'' he=>⟨he,Iv h hd⟩
 | halt x w1=>cases x<;>simp only [Oper.upon] at hw |- <;> exact hw
def KZ (o:Oper):AA:=match o.dst with | some d=>[(sl d,.undf)] | none=>[]
def RQ (Γ:Ctx) (ops:Array Oper) (clk:Nat) (o:Oper) (ws:AA) (s:Ab):Prop:=
 match o.guard with
 | none=>(opD Γ (clk*4096+XA o) o).out s=some ws/\Bv o ws=true
 | some (g,want) => ∃t,(ops[g]?).bind Oper.dst=some t/\((s (sl t)=.undf/\ws=KZ o) \/ ∃z,s (sl t)=.val .bool z/\if z=want then (opD Γ (clk*4096+XA o) o).out s=some ws/\Bv o ws=true else ws=KZ o)
theorem Inv.skip (hi:Inv P Kp B0 n s a w) (hdst:∀d,o.dst=some d->d<n):Inv P Kp B0 n (s.put (KZ o)) (a.put o.dst undef) w:=by
 obtain ⟨G,g⟩:=hi.ghost
 cases hd:o.dst with
 | none=>simpa [KZ,hd,Act.put,Ab.put] using hi
 | some d=>
  simp only [KZ,hd]
  exact hi.slot g (hdst d hd) rfl
theorem Aei {ops:Array Oper} {clk i:Nat} (E:Env P Γ) {A:Nat->Option Value} (hi:InvP P Kp B0 n A s a w) (hdst:∀d,o.dst=some d->d<n/\A d=none) (ho:ops[i]? = some o) (h:RQ Γ ops clk o ws s) {K:Act->World->Prop}
  (hK:∀a' w',InvP P Kp B0 n A (s.put ws) a' w'->K a' w'):wpOp P ops Q i K a w:=by
 unfold wpOp
 rw [ho]
 simp only
 unfold RQ at h
 cases hg:o.guard with
 | none=>
  rw [hg] at h
  simp only [Region.wanted,hg,if_true]
  exact .inl (Oper.wp_mono (fun a' w' hh=>hK a' w' ⟨hh.1,hh.2⟩) (Ap3 hi.pin (fun d hd=>(hdst d hd).2) (Awn E hi.inv (fun d hd=>(hdst d hd).1) h.1 h.2)))
 | some gw=>
  obtain ⟨gd,want⟩:=gw
  rw [hg] at h
  obtain ⟨t,h1,h⟩:=h
  obtain ⟨G,g⟩:=hi.inv.ghost
  have hv:=g.slots t
  rcases h with ⟨h2,h3⟩ | ⟨z,h2,h3⟩
  ·rw [h2] at hv
   have hv:a.tmps.getD t undef=undef:=hv
   have hy:yielded ops a.tmps gd=none:=by
    unfold yielded
    rw [h1]
    simp only [Option.bind_some]
    rw [Array.getD_eq_getD_getElem?] at hv
    cases hh:a.tmps[t]? with
    | none=>rfl
    | some v=>rw [hh] at hv;simp only [Option.getD_some] at hv;subst hv;rfl
   simp only [Region.wanted,hg,hy]
   subst h3
   rw [if_neg (by simp)]
   exact hK _ _ ⟨hi.inv.skip (fun d hd=>(hdst d hd).1),Iv hi.pin fun d hd=>(hdst d hd).2⟩
  rw [h2] at hv
  obtain ⟨c,e1,e2⟩:=hv
  simp only [Rep] at e2
  subst e2
  have e1:a.tmps.getD t undef=.bool z:=e1
  have hlt:a.tmps[t]? = some (.bool z):=by
   rw [Array.getD_eq_getD_getElem?] at e1
   cases hh:a.tmps[t]? with
   | none=>rw [hh] at e1;simp [undef] at e1
   | some v=>rw [hh] at e1;simp only [Option.getD_some] at e1;rw [e1]
  have hy:yielded ops a.tmps gd=some z:=by
   unfold yielded
   rw [h1]
   simp [hlt]
  simp only [Region.wanted,hg,hy]
  by_cases hz:z=want
  ·subst hz
   simp only [beq_self_eq_true,if_true] at h3 |-
   exact .inl (Oper.wp_mono (fun a' w' hh=>hK a' w' ⟨hh.1,hh.2⟩) (Ap3 hi.pin (fun d hd=>(hdst d hd).2) (Awn E hi.inv (fun d hd=>(hdst d hd).1) h3.1 h3.2)))
  ·rw [if_neg hz] at h3
   subst h3
   rw [if_neg (by simpa using hz)]
   exact hK _ _ ⟨hi.inv.skip (fun d hd=>(hdst d hd).1),Iv hi.pin fun d hd=>(hdst d hd).2⟩
theorem Rd.runK_tr {α R:Type} (m:Rd α) (s:Ab) (K:α->List Nat->Option R):∀(tr:List Nat) (r:R),m.runK s tr K=some r -> ∃a tr',K a tr'=some r/\(∀l∈tr,l∈tr') /\ ∀s',(∀l∈tr',s' l=s l)->m.out s'=some a:=by
 induction m with
 | ret a=>intro tr r h;exact ⟨a,tr,h,fun _ h=>h,fun _ _=>rfl⟩
 | rd l k ih=>
  intro tr r h
  obtain ⟨a,tr',h1,h2,h3⟩:=ih _ _ r h
  refine ⟨a,tr',h1,fun x hx=>h2 x (by simp [hx]),fun s' hs' => ?_⟩
  simp only [Rd.out]
  rw [hs' l (h2 l (by simp))]
  exact h3 s' hs'
 | ite c a b iha ihb=>
  intro tr r h
  simp only [Rd.runK] at h
  simp only [Rd.out]
  split at h
  ·rename_i hc;simp only [hc,if_true];exact iha tr r h
  ·rename_i hc;simp only [hc];exact ihb tr r h
 | call o k ih=>
  intro tr r h
  simp only [Rd.runK,ACq] at h
  obtain ⟨b,h1,h2⟩:=h
  obtain ⟨a,tr',h3,h4,h5⟩:=ih b tr r h2
  exact ⟨a,tr',h3,h4,fun s' hs'=>by simp only [Rd.out,h1,Option.bind_some];exact h5 s' hs'⟩
 | fail=>intro tr r h;simp [Rd.runK] at h
theorem LS (s:Ab) (l:Nat) (c:Cell) (h:s l=c):s.set l c=s:=by
 funext x
 by_cases e:x=l
 ·subst e;rw [Ab.set_same,h]
 ·rw [Ab.set_other _ _ e]
theorem TG {R:Type} {ops:Array Oper} {draw:Bool} {clk j:Nat} {o:Oper} {rest:List Oper} {bs:List Nat} {log:Log} {K:Ab->Option R} {r:R} (h:FW Γ ops.toList draw clk (o::rest) j bs s log K=some r) :
  ∃tr ws,(∀s',(∀l∈tr,s' l=s l)->RQ Γ ops clk o ws s') /\
   ((draw=false/\FW Γ ops.toList draw clk rest (j+1) [] (s.put ws) [] K=some r) \/
    (draw=true/\FP j o=true /\ ∃log',VV (Bz bs o) j log tr ws=some log'/\FW Γ ops.toList draw clk rest (j+1) (bs++[Bz bs o]) (s.put ws) log' K=some r)):=by
 have hnext:∀(tr:List Nat) (ws:AA),(bif draw then
    bif FP j o then
    match VV (bif draw then Bz bs o else 0) j log tr ws with
    | some log'=>FW Γ ops.toList draw clk rest (j+1) (bs++[bif draw then Bz bs o else 0]) (s.put ws) log' K
    | none=>none
    else none
   else FW Γ ops.toList draw clk rest (j+1) [] (s.put ws) [] K)=some r ->
   ((draw=false/\FW Γ ops.toList draw clk rest (j+1) [] (s.put ws) [] K=some r) \/
    (draw=true/\FP j o=true /\ ∃log',VV (Bz bs o) j log tr ws=some log'/\FW Γ ops.toList draw clk rest (j+1) (bs++[Bz bs o]) (s.put ws) log' K=some r)):=by
  intro tr ws h
  cases draw with
  | false=>exact .inl ⟨rfl,h⟩
  | true=>
   simp only [cond_true] at h
   rcases Ae h with ⟨h1,h2⟩ | ⟨_,h2⟩
   ·split at h2
    ·rename_i log' hl
     exact .inr ⟨rfl,h1,log',hl,h2⟩
    ·cases h2
   ·cases h2
 unfold FW at h
 simp only at h
 cases hg:o.guard with
 | none=>
  rw [hg] at h
  simp only at h
  obtain ⟨ws,tr,h1,_,h2⟩:=Rd.runK_tr _ _ _ _ _ h
  rcases Ae h1 with ⟨h3,h4⟩ | ⟨_,h4⟩
  ·exact ⟨tr,ws,fun s' hs'=>by unfold RQ;rw [hg];exact ⟨h2 s' hs',h3⟩,hnext tr ws h4⟩
  ·cases h4
 | some gw=>
  obtain ⟨gd,want⟩:=gw
  rw [hg] at h
  simp only [Array.getElem?_toList] at h
  split at h
  ·cases h
  ·rename_i t ht
   split at h
   ·rename_i z hz
    have run:(∃tr',(opD Γ (clk*4096+XA o) o).runK s [sl t] (fun ws tr=>bif Bv o ws then
      (bif draw then
       bif FP j o then
       match VV (bif draw then Bz bs o else 0) j log tr ws with
       | some log'=>FW Γ ops.toList draw clk rest (j+1) (bs++[bif draw then Bz bs o else 0]) (s.put ws) log' K
       | none=>none
       else none
      else FW Γ ops.toList draw clk rest (j+1) [] (s.put ws) [] K) else none)=some r/\tr'=z/\z=want) ->
      ∃tr ws,(∀s',(∀l∈tr,s' l=s l)->RQ Γ ops clk o ws s') /\
       ((draw=false/\FW Γ ops.toList draw clk rest (j+1) [] (s.put ws) [] K=some r) \/
        (draw=true/\FP j o=true /\ ∃log',VV (Bz bs o) j log tr ws=some log'/\FW Γ ops.toList draw clk rest (j+1) (bs++[Bz bs o]) (s.put ws) log' K=some r)):=by
     rintro ⟨_,h,_,hzw⟩
     obtain ⟨ws,tr,h1,hin,h2⟩:=Rd.runK_tr _ _ _ _ _ h
     rcases Ae h1 with ⟨h3,h4⟩ | ⟨_,h4⟩
     ·refine ⟨tr,ws,fun s' hs' => ?_,hnext tr ws h4⟩
      unfold RQ
      rw [hg]
      exact ⟨t,ht,.inr ⟨z,(hs' (sl t) (hin _ (by simp))).trans hz,by rw [if_pos hzw];exact ⟨h2 s' hs',h3⟩⟩⟩
     ·cases h4
    have skip:z≠want->(bif draw then
       bif FP j o then
       match VV (bif draw then Bz bs o else 0) j log [sl t] (KZ o) with
       | some log'=>FW Γ ops.toList draw clk rest (j+1) (bs++[bif draw then Bz bs o else 0]) (s.put (KZ o)) log' K
       | none=>none
       else none
      else FW Γ ops.toList draw clk rest (j+1) [] (s.put (KZ o)) [] K)=some r ->
      ∃tr ws,(∀s',(∀l∈tr,s' l=s l)->RQ Γ ops clk o ws s') /\
       ((draw=false/\FW Γ ops.toList draw clk rest (j+1) [] (s.put ws) [] K=some r) \/
        (draw=true/\FP j o=true /\ ∃log',VV (Bz bs o) j log tr ws=some log'/\FW Γ ops.toList draw clk rest (j+1) (bs++[Bz bs o]) (s.put ws) log' K=some r)):=by
     intro hzw h
     refine ⟨[sl t],KZ o,fun s' hs' => ?_,hnext _ _ h⟩
     unfold RQ
     rw [hg]
     exact ⟨t,ht,.inr ⟨z,(hs' (sl t) (by simp)).trans hz,by rw [if_neg hzw]⟩⟩
    cases z with
    | true=>
     rw [LS _ _ _ hz] at h
     simp only [if_true] at h
     cases want with
     | true=>exact run ⟨true,h,rfl,rfl⟩
     | false=>exact skip (by simp) h
    | false=>
     rw [LS _ _ _ hz] at h
     simp only [ACn,if_false] at h
     cases want with
     | true=>exact skip (by simp) h
     | false=>exact run ⟨false,h,rfl,rfl⟩
   ·rename_i hz
    refine ⟨[sl t],KZ o,fun s' hs' => ?_,hnext _ _ h⟩
    unfold RQ
    rw [hg]
    exact ⟨t,ht,.inl ⟨(hs' (sl t) (by simp)).trans hz,rfl⟩⟩
   ·cases h
theorem Ao7 (E:Env P Γ) {A:Nat->Option Value} {ops:Array Oper} {clk:Nat} (hdst:∀o∈ops.toList,∀d,o.dst=some d->d<n/\A d=none) {R:Type} {K:Ab->Option R} {r:R}:∀(rest:List Oper) (pre:List Oper) {s:Ab} {a:Act} {w:World} {bs:List Nat} {log:Log},
  ops.toList=pre++rest->InvP P Kp B0 n A s a w->FW Γ ops.toList false clk rest pre.length bs s log K=some r ->
  (∀s' a' w',InvP P Kp B0 n A s' a' w'->K s'=some r->Q .normal a' w')->wpOps P ops Q (List.range' pre.length rest.length) a w:=by
 intro rest
 induction rest with
 | nil=>
  intro pre s a w bs log _ hi h hK
  simp only [FW] at h
  exact hK s a w hi h
 | cons o rest ih=>
  intro pre s a w bs log hops hi h hK
  obtain ⟨tr,ws,h1,h2⟩:=TG h
  rcases h2 with ⟨_,h2⟩ | ⟨hd,_⟩
  ·simp only [List.length_cons,List.range'_succ]
   rw [wpOps_cons]
   have ho:ops[pre.length]? = some o:=by
    rw [<- Array.getElem?_toList,hops]
    simp
   refine Aei E hi (hdst o (by rw [hops];simp)) ho (h1 s fun _ _=>rfl) fun a' w' hi' => ?_
   have:=ih (pre++[o]) (s:=s.put ws) (a:=a') (w:=w') (bs:=[]) (log:=[]) (by simp [hops]) hi' (by simpa using h2) hK
   simpa using this
  ·cases hd
end
end Go.V
namespace Go.V
structure Foot where
 R:List Nat
 ws:AA
 b:Nat
def Foot.dom (f:Foot) (l:Nat):Prop := ∃c,(l,c)∈f.ws
def stL:Nat->List Foot->(Nat->Bool)->Ab->Ab
 | _,[],_,s=>s
 | j,f::r,L,s=>stL (j+1) r L (if L j then s.put f.ws else s)
theorem D8 {l:Nat}:∀{ws:AA} {s:Ab},(∀c,(l,c)∉ws)->(s.put ws) l=s l:=by
 intro ws
 induction ws with
 | nil=>intro s _;rfl
 | cons x ws ih=>
  intro s h
  simp only [Ab.put]
  rw [ih fun c hc=>h c (by simp [hc])]
  exact Ab.set_other _ _ fun e=>h x.2 (by simp [e])
theorem Arf {l:Nat}:∀{ws:AA} {s s':Ab},(∃c,(l,c)∈ws)->(s.put ws) l=(s'.put ws) l:=by
 intro ws
 induction ws with
 | nil=>intro s s' h;obtain ⟨c,h⟩:=h;simp at h
 | cons x ws ih=>
  intro s s' h
  simp only [Ab.put]
  by_cases hw:∃c,(l,c)∈ws
  ·exact ih hw
  ·have hn:∀c,(l,c)∉ws:=fun c hc=>hw ⟨c,hc⟩
   rw [D8 hn,D8 hn]
   obtain ⟨c,hc⟩:=h
   rcases List.mem_cons.1 hc with hc | hc
   ·subst hc;rw [Ab.set_same,Ab.set_same]
   ·exact absurd hc (hn c)
theorem HF {l:Nat}:∀{F:List Foot} {j:Nat} {L L':Nat->Bool} {s s':Ab},s l=s' l->(∀i f,F[i]? = some f->f.dom l->L (j+i)=L' (j+i))->stL j F L s l=stL j F L' s' l:=by
 intro F
 induction F with
 | nil=>intro j L L' s s' h _;exact h
 | cons f F ih=>
  intro j L L' s s' h H
  simp only [stL]
  refine ih ?_ fun i g hg hd=>by have:=H (i+1) g (by simpa using hg) hd;rw [show j+1+i=j+(i+1) by omega];exact this
  by_cases hd:f.dom l
  ·have e:=H 0 f rfl hd
   simp only [Nat.add_zero] at e
   rw [<- e]
   split
   ·exact Arf hd
   ·exact h
  ·have hn:∀c,(l,c)∉f.ws:=fun c hc=>hd ⟨c,hc⟩
   have e1:(if L j=true then s.put f.ws else s) l=s l:=by split;exact D8 hn;rfl
   have e2:(if L' j=true then s'.put f.ws else s') l=s' l:=by split;exact D8 hn;rfl
   rw [e1,e2,h]
theorem Ao6 {l:Nat}:∀{F:List Foot} {j i:Nat} {f:Foot} {L:Nat->Bool} {s s':Ab},F[i]? = some f->f.dom l->L (j+i)=true->(∀i' f',F[i']? = some f'->i<i'->f'.dom l->L (j+i')=false)->stL j F L s l=(s'.put f.ws) l:=by
 intro F
 induction F with
 | nil=>intro j i f L s s' h;simp at h
 | cons g F ih=>
  intro j i f L s s' h hd hL H
  simp only [stL]
  cases i with
  | zero=>
   simp only [List.getElem?_cons_zero,ACp] at h
   subst h
   simp only [Nat.add_zero] at hL
   rw [hL]
   simp only [if_true]
   have:stL (j+1) F L (s.put g.ws) l=stL (j+1) F (fun _=>false) (s.put g.ws) l:=HF rfl fun i' f' hf hd'=>by
    have:=H (i'+1) f' (by simpa using hf) (by omega) hd'
    rw [show j+1+i'=j+(i'+1) by omega]
    exact this
   rw [this]
   have hall:∀(F:List Foot) (j:Nat) (s:Ab),stL j F (fun _=>false) s=s:=by
    intro F
    induction F with
    | nil=>intro j s;rfl
    | cons f F ih=>intro j s;simp only [stL];exact ih _ _
   rw [hall]
   exact Arf hd
  | succ i=>
   exact ih (by simpa using h) hd (by rw [show j+1+i=j+(i+1) by omega];exact hL) fun i' f' hf hlt hd'=>by
    have:=H (i'+1) f' (by simpa using hf) (by omega) hd'
    rw [show j+1+i'=j+(i'+1) by omega]
    exact this
def Foot.meets (f g:Foot):Prop := ∃l,(f.dom l/\(l∈g.R\/g.dom l))\/(l∈f.R/\g.dom l)
structure Trace (Γ:Ctx) (ops:Array Oper) (clk:Nat) (s0:Ab) (F:List Foot):Prop where
 len:F.length=ops.size
 does:∀(j:Nat) f o,F[j]? = some f->ops[j]? = some o -> ∀s,(∀l∈f.R,s l=stL 0 F (fun i=>decide (i<j)) s0 l)->RQ Γ ops clk o f.ws s
 meet:∀(i j:Nat) f g,i<j->F[i]? = some f->F[j]? = some g->f.meets g->Nat.testBit g.b i=true
 bit:∀(i j:Nat) g o,F[j]? = some g->ops[j]? = some o->Nat.testBit g.b i=true -> ∃e∈o.after,Region.binds .any e=true/\(e.on=i \/ ∃g',F[e.on]? = some g'/\Nat.testBit g'.b i=true)
 back:∀(j:Nat) o,ops[j]? = some o -> ∀e∈o.after,Region.binds .any e=true->e.on<j
section
variable {P:Program} {Γ:Ctx} {Kp:Keep} {B0:World} {n:Nat} {G:Gh} {s:Ab} {a:Act} {w w':World} {id:Nat} {o:Oper} {Q:Exit->Act->World->Prop} {ws:AA}
def JP (ops:Array Oper) (L:Nat->Bool):Prop := ∀(j:Nat) o,ops[j]? = some o->L j=true -> ∀e∈o.after,Region.binds .any e=true->L e.on=true
theorem Trace.pred {ops:Array Oper} {clk:Nat} {s0:Ab} {F:List Foot} (T:Trace Γ ops clk s0 F) {L:Nat->Bool} (hL:JP ops L):∀(m j:Nat),j<=m -> ∀g o i,F[j]? = some g->ops[j]? = some o->(∀e∈o.after,Region.binds .any e=true->L e.on=true)->Nat.testBit g.b i=true->L i=true:=by
 intro m
 induction m with
 | zero=>
  intro j hj g o i hg ho he hb
  obtain ⟨e,e1,e2,_⟩:=T.bit i j g o hg ho hb
  have:=T.back j o ho e e1 e2
  omega
 | succ m ih=>
  intro j hj g o i hg ho he hb
  obtain ⟨e,e1,e2,e3⟩:=T.bit i j g o hg ho hb
  rcases e3 with e3 | ⟨g',e3,e4⟩
  ·rw [<- e3];exact he e e1 e2
  ·have hlt:=T.back j o ho e e1 e2
   have hle:e.on<ops.size:=by
    have:=(List.getElem?_eq_some_iff.1 e3).1
    rw [T.len] at this
    exact this
   have ho':ops[e.on]? = some ops[e.on]:=by simp [hle]
   exact ih e.on (by omega) g' _ i e3 ho' (fun e' h1 h2=>hL e.on _ ho' (he e e1 e2) e' h1 h2) e4
theorem Trace.reads {ops:Array Oper} {clk:Nat} {s0:Ab} {F:List Foot} (T:Trace Γ ops clk s0 F) {L:Nat->Bool} (hL:JP ops L) {j:Nat} {o:Oper} {f:Foot} (hf:F[j]? = some f) (ho:ops[j]? = some o)
  (hj:L j=false) (hr:∀e∈o.after,Region.binds .any e=true->L e.on=true):∀l∈f.R,stL 0 F L s0 l=stL 0 F (fun i=>decide (i<j)) s0 l:=by
 intro l hl
 refine HF rfl fun i g hg hd => ?_
 simp only [Nat.zero_add]
 by_cases hij:i<j
 ·simp only [hij,decide_true]
  exact T.pred hL j j (ACr _) f o i hf ho hr (T.meet i j g f hij hg hf ⟨l,.inl ⟨hd,.inl hl⟩⟩)
 ·simp only [hij,decide_false]
  by_cases e:i=j
  ·subst e;exact hj
  ·cases hLi:L i with
   | false=>rfl
   | true=>
    have hlt:j<i:=by omega
    have hi:i<ops.size:=by have:=(List.getElem?_eq_some_iff.1 hg).1;rw [T.len] at this;exact this
    have ho':ops[i]? = some ops[i]:=by simp [hi]
    have:=T.pred hL i i (ACr _) g _ j hg ho' (fun e h1 h2=>hL i _ ho' hLi e h1 h2) (T.meet j i f g hlt hf hg ⟨l,.inr ⟨hl,hd⟩⟩)
    rw [hj] at this
    cases this
theorem Trace.step {ops:Array Oper} {clk:Nat} {s0:Ab} {F:List Foot} (T:Trace Γ ops clk s0 F) {L:Nat->Bool} (hL:JP ops L) {j:Nat} {f:Foot} (hf:F[j]? = some f) (hj:L j=false) {L':Nat->Bool} (hL':∀i,L' i=(L i||decide (i=j))) :
  stL 0 F L' s0=(stL 0 F L s0).put f.ws:=by
 funext l
 by_cases hd:f.dom l
 ·rw [Ao6 (s':=stL 0 F L s0) hf hd (by rw [hL'];simp) fun i g hg hlt hdg => ?_]
  rw [Nat.zero_add,hL']
  have hne:¬i=j:=by omega
  simp only [hne,decide_false,Bool.or_false]
  cases hLi:L i with
  | false=>rfl
  | true=>
   have hi:i<ops.size:=by have:=(List.getElem?_eq_some_iff.1 hg).1;rw [T.len] at this;exact this
   have ho':ops[i]? = some ops[i]:=by simp [hi]
   have:=T.pred hL i i (ACr _) g _ j hg ho' (fun e h1 h2=>hL i _ ho' hLi e h1 h2) (T.meet j i f g hlt hf hg ⟨l,.inl ⟨hd,.inr hdg⟩⟩)
   rw [hj] at this
   cases this
 ·rw [D8 fun c hc=>hd ⟨c,hc⟩]
  refine HF rfl fun i g hg hdg => ?_
  rw [Nat.zero_add,hL']
  by_cases e:i=j
  ·subst e
   rw [hf] at hg
   injection hg with hg
   subst hg
   exact absurd hdg hd
  ·simp [e]
theorem Gp {listed:Array Bool} {i j:Nat} (hj:j<listed.size):(listed.setIfInBounds j true).getD i false=(listed.getD i false||decide (i=j)):=by
 by_cases e:i=j
 ·subst e
  simp [Array.getD_eq_getD_getElem?,hj]
 ·have e':j≠i:=fun h=>e h.symm
  simp [Array.getD_eq_getD_getElem?,Array.getElem?_setIfInBounds_ne e',e]
theorem Ago (E:Env P Γ) {A:Nat->Option Value} {ops:Array Oper} {clk:Nat} (hdst:∀o∈ops.toList,∀d,o.dst=some d->d<n/\A d=none) {s0:Ab} {F:List Foot} (T:Trace Γ ops clk s0 F)
  (hQ:∀a' w',InvP P Kp B0 n A (stL 0 F (fun _=>true) s0) a' w'->Q .normal a' w') :
  ∀(fuel:Nat) (listed:Array Bool) (a:Act) (w:World),listed.size=ops.size->listed.toList.count false=fuel->JP ops (fun i=>listed.getD i false)->InvP P Kp B0 n A (stL 0 F (fun i=>listed.getD i false) s0) a w ->
   wpAny P .any ops Q fuel listed a w:=by
 have hfull:∀(listed:Array Bool) a w,listed.size=ops.size->(∀i,i<ops.size->listed.getD i false=true)->InvP P Kp B0 n A (stL 0 F (fun i=>listed.getD i false) s0) a w->Q .normal a w:=by
  intro listed a w hsz hall hi
  have e:stL 0 F (fun i=>listed.getD i false) s0=stL 0 F (fun _=>true) s0:=by
   funext l
   refine HF rfl fun i f hf _ => ?_
   have:=(List.getElem?_eq_some_iff.1 hf).1
   rw [T.len] at this
   rw [Nat.zero_add]
   exact hall i this
  rw [e] at hi
  exact hQ a w hi
 have hready:∀(listed:Array Bool),listed.size=ops.size->Region.ready .any ops listed=[] -> ∀i,i<ops.size->listed.getD i false=true:=by
  intro listed hsz hr
  -- the least that is not listed would be ready
  have key:∀m i,i<m->i<ops.size->listed.getD i false=true:=by
   intro m
   induction m with
   | zero=>intro i hi;omega
   | succ m ih=>
    intro i hi hlt
    by_cases him:i<m
    ·exact ih i him hlt
    ·have hi':i=m:=by omega
     cases hl:listed.getD i false with
     | true=>rfl
     | false=>
      exfalso
      have ho':ops[i]? = some ops[i]:=by simp [hlt]
      have:i∈Region.ready .any ops listed:=by
       rw [mem_ready]
       have hl2:i<listed.size:=by omega
       refine ⟨?_,_,ho',fun e he hb=>ih e.on ?_ ?_⟩
       ·simp only [Array.getD,hl2,dif_pos] at hl |-;exact hl
       ·have:=T.back i _ ho' e he hb;omega
       ·have:=T.back i _ ho' e he hb;omega
      rw [hr] at this
      simp at this
  exact fun i hi=>key (i+1) i (by omega) hi
 intro fuel
 induction fuel with
 | zero=>
  intro listed a w hsz hc hL hi
  have hall:∀i,i<ops.size->listed.getD i false=true:=by
   intro i hlt
   have hlt':i<listed.size:=by omega
   rw [List.count_eq_zero] at hc
   cases hb:listed.getD i false with
   | true=>rfl
   | false=>
    exfalso
    apply hc
    simp only [Array.getD,hlt',dif_pos] at hb
    rw [<- hb]
    exact Array.getElem_mem_toList hlt'
  refine ⟨?_,hfull listed a w hsz hall hi⟩
  apply List.eq_nil_iff_forall_not_mem.2
  intro i hm
  rw [mem_ready] at hm
  obtain ⟨h1,o,h2,_⟩:=hm
  have hlt:=(Array.getElem?_eq_some_iff.1 h2).1
  have:=hall i hlt
  have hlt':i<listed.size:=by omega
  simp only [Array.getD,hlt',dif_pos] at h1 this
  rw [this] at h1
  cases h1
 | succ fuel ih=>
  intro listed a w hsz hc hL hi
  refine ⟨fun hr=>hfull listed a w hsz (hready listed hsz hr) hi,fun j hj => ?_⟩
  rw [mem_ready] at hj
  obtain ⟨h1,o,ho,hr⟩:=hj
  have hlt:=(Array.getElem?_eq_some_iff.1 ho).1
  have hlt':j<listed.size:=by omega
  have hjf:listed.getD j false=false:=by simp only [Array.getD,hlt',dif_pos] at h1 |-;exact h1
  have hF:j<F.length:=by rw [T.len];exact hlt
  have hf:F[j]? = some F[j]:=by simp [hF]
  have hmem:o∈ops.toList:=by
   have:=Array.mem_of_getElem? ho
   exact Array.mem_toList_iff.2 this
  refine Aei E hi (hdst o hmem) ho (T.does j _ o hf ho _ (T.reads hL hf ho hjf hr)) fun a' w' hi' => ?_
  have hst:=T.step hL hf hjf (L':=fun i=>(listed.setIfInBounds j true).getD i false) (fun i=>Gp hlt')
  rw [<- hst] at hi'
  refine ih (listed.setIfInBounds j true) a' w' (by simpa using hsz) ?_ ?_ hi'
  ·have hlj:listed[j]=false:=by simp only [Array.getD,hlt',dif_pos] at hjf;exact hjf
   rw [Array.toList_setIfInBounds,List.count_set (by simpa using hlt')]
   simp [hlj,hc]
  ·intro i o' ho' hli e he hb
   simp only [Gp hlt',Bool.or_eq_true,decide_eq_true_eq] at hli |-
   rcases hli with hli | hli
   ·exact .inl (hL i o' ho' hli e he hb)
   ·subst hli
    rw [ho] at ho'
    injection ho' with ho'
    subst ho'
    exact .inl (hr e he hb)
theorem Aay {bj l:Nat} {wr:Bool}:∀{log:Log},Aej bj l wr log=false -> ∀i w',(i,l,w')∈log->(w'=true\/wr=true)->Nat.testBit bj i=true:=by
 intro log
 induction log with
 | nil=>intro _ i w' h;simp at h
 | cons x log ih=>
  obtain ⟨i0,l0,w0⟩:=x
  intro h i w' hm hw
  simp only [Aej,Bool.or_eq_false_iff] at h
  obtain ⟨h1,h2⟩:=h
  rcases List.mem_cons.1 hm with hm | hm
  ·simp only [Prod.mk.injEq] at hm
   obtain ⟨rfl,rfl,rfl⟩:=hm
   cases hb:Nat.testBit bj i with
   | true=>rfl
   | false=>
    rw [hb] at h1
    have hor:(w'||wr)=true:=by simpa using hw
    simp [hor] at h1
  ·exact ih h2 i w' hm hw
theorem KX {bj:Nat} {log:Log}:∀{ts:List (Nat×Bool)},L1 bj log ts=false -> ∀l wr i w',(l,wr)∈ts->(i,l,w')∈log->(w'=true\/wr=true)->Nat.testBit bj i=true:=by
 intro ts
 induction ts with
 | nil=>intro _ l wr i w' h;simp at h
 | cons x ts ih=>
  obtain ⟨l0,w0⟩:=x
  intro h l wr i w' hm hl hw
  simp only [L1,Bool.or_eq_false_iff] at h
  rcases List.mem_cons.1 hm with hm | hm
  ·simp only [Prod.mk.injEq] at hm
   obtain ⟨rfl,rfl⟩:=hm
   exact Aay h.1 i w' hl hw
  ·exact ih h.2 l wr i w' hm hl hw
theorem Acw {bs:List Nat} {o:Oper} {i:Nat} (h:Nat.testBit (Bz bs o) i=true):∃e∈o.after,Region.binds .any e=true/\(e.on=i \/ ∃b,bs[e.on]? = some b/\Nat.testBit b i=true):=by
 have key:∀(l:List Edge) (x:Nat),Nat.testBit (l.foldl (fun s e=>bif Region.binds .any e then s|||2 ^ e.on|||bs.getD e.on 0 else s) x) i=true ->
   Nat.testBit x i=true \/ ∃e∈l,Region.binds .any e=true/\(e.on=i \/ ∃b,bs[e.on]? = some b/\Nat.testBit b i=true):=by
  intro l
  induction l with
  | nil=>intro x h;exact .inl h
  | cons e l ih=>
   intro x h
   rw [List.foldl_cons] at h
   rcases ih _ h with h1 | ⟨e',h1,h2⟩
   ·cases hb:Region.binds .any e with
    | false=>rw [hb] at h1;exact .inl h1
    | true=>
     rw [hb] at h1
     simp only [cond_true,Nat.testBit_or,Bool.or_eq_true] at h1
     rcases h1 with (h1 | h1) | h1
     ·exact .inl h1
     ·refine .inr ⟨e,by simp,hb,.inl ?_⟩
      rw [Nat.testBit_two_pow] at h1
      exact of_decide_eq_true h1
     ·refine .inr ⟨e,by simp,hb,.inr ?_⟩
      rw [ACy] at h1
      cases hg:bs[e.on]? with
      | none=>rw [hg] at h1;simp at h1
      | some b=>rw [hg] at h1;exact ⟨b,rfl,h1⟩
   ·exact .inr ⟨e',by simp [h1],h2⟩
 have:=key o.after.toList 0 h
 rcases this with h | ⟨e,h1,h2⟩
 ·simp at h
 ·exact ⟨e,Array.mem_toList_iff.1 h1,h2⟩
theorem Ug:∀{F:List Foot} {j:Nat} {L:Nat->Bool} {s:Ab},stL (j+1) F L s=stL j F (fun i=>L (i+1)) s:=by
 intro F
 induction F with
 | nil=>intro j L s;rfl
 | cons f F ih=>intro j L s;simp only [stL];exact ih
theorem Agp {R:Type} {ops:Array Oper} {clk:Nat} {K:Ab->Option R} {r:R}:∀(rest:List Oper) (j:Nat) {bs:List Nat} {s:Ab} {log:Log},bs.length=j->FW Γ ops.toList true clk rest j bs s log K=some r ->
  ∃Fr:List Foot,Fr.length=rest.length /\
   (∀(i:Nat) f o,Fr[i]? = some f->rest[i]? = some o -> ∀s',(∀l∈f.R,s' l=stL 0 Fr (fun x=>decide (x<i)) s l)->RQ Γ ops clk o f.ws s') /\
   (∀(i i':Nat) f g,i<i'->Fr[i]? = some f->Fr[i']? = some g->f.meets g->Nat.testBit g.b (j+i)=true) /\
   (∀(i0:Nat) l w,(i0,l,w)∈log -> ∀f∈Fr,(f.dom l\/(w=true/\l∈f.R))->Nat.testBit f.b i0=true) /\
   (∀(i x:Nat) g o,Fr[i]? = some g->rest[i]? = some o->Nat.testBit g.b x=true -> ∃e∈o.after,Region.binds .any e=true/\(e.on=x \/ ∃b,(bs++Fr.map Foot.b)[e.on]? = some b/\Nat.testBit b x=true)) /\
   (∀(i:Nat) o,rest[i]? = some o -> ∀e∈o.after,Region.binds .any e=true->e.on<j+i) /\
   K (stL 0 Fr (fun _=>true) s)=some r:=by
 intro rest
 induction rest with
 | nil=>
  intro j bs s log _ h
  simp only [FW] at h
  exact ⟨[],rfl,fun i f o h=>by simp at h,fun i i' f g _ h=>by simp at h,fun _ _ _ _ f h=>by simp at h,fun i x g o h=>by simp at h,fun i o h=>by simp at h,h⟩
 | cons o rest ih=>
  intro j bs s log hbs h
  obtain ⟨tr,ws,h1,h2⟩:=TG h
  rcases h2 with ⟨hd,_⟩ | ⟨_,hedge,log',hfit,h2⟩
  ·cases hd
  ·obtain ⟨Fr,f1,f2,f3,f4,f5,f6,f7⟩:=ih (j+1) (by simp [hbs]) h2
   unfold VV at hfit
   simp only at hfit
   rcases Ae hfit with ⟨_,hfit⟩ | ⟨hcl,hfit⟩
   ·cases hfit
   have hfit:=ACs hfit
   subst hfit
   have hlog:∀x,x∈log->x∈((tr.map (fun l=>(l,false))++ws.map (fun x=>(x.1,true))).map (fun x=>(j,x.1,x.2))++log):=fun x hx=>by simp [hx]
   refine ⟨⟨tr,ws,Bz bs o⟩::Fr,by simp [f1],?_,?_,?_,?_,?_,?_⟩
   ·intro i f o' hf ho' s' hs'
    cases i with
    | zero=>
     simp only [List.getElem?_cons_zero,ACp] at hf ho'
     subst hf ho'
     refine h1 s' fun l hl => ?_
     rw [hs' l hl]
     have:stL 0 (⟨tr,ws,Bz bs o⟩::Fr) (fun x=>decide (x<0)) s l=stL 0 (⟨tr,ws,Bz bs o⟩::Fr) (fun _=>false) s l:=HF rfl fun _ _ _ _=>by simp
     rw [this]
     have hall:∀(F:List Foot) (j:Nat) (s:Ab),stL j F (fun _=>false) s=s:=by
      intro F
      induction F with
      | nil=>intro j s;rfl
      | cons f F ih=>intro j s;simp only [stL];exact ih _ _
     rw [hall]
    | succ i=>
     refine f2 i f o' (by simpa using hf) (by simpa using ho') s' fun l hl => ?_
     rw [hs' l hl]
     simp only [stL]
     rw [Ug]
     simp
   ·intro i i' f g hlt hf hg hm
    cases i' with
    | zero=>omega
    | succ i'=>
     simp only [List.getElem?_cons_succ] at hg
     cases i with
     | zero=>
      simp only [List.getElem?_cons_zero,ACp] at hf
      subst hf
      have hgm:g∈Fr:=List.mem_of_getElem? hg
      obtain ⟨l,hl⟩:=hm
      simp only [Nat.add_zero]
      rcases hl with ⟨⟨c,hc⟩,hl⟩ | ⟨hl,hd⟩
      ·refine f4 j l true ?_ g hgm ?_
       ·simp only [List.map_append,List.map_map,List.mem_append,List.mem_map]
        exact .inl (.inr ⟨(l,c),hc,rfl⟩)
       ·rcases hl with hl | hl
        ·exact .inr ⟨rfl,hl⟩
        ·exact .inl hl
      ·refine f4 j l false ?_ g hgm (.inl hd)
       simp only [List.map_append,List.map_map,List.mem_append,List.mem_map]
       exact .inl (.inl ⟨l,hl,rfl⟩)
     | succ i=>
      have:=f3 i i' f g (by omega) (by simpa using hf) hg hm
      rw [show j+(i+1)=j+1+i by omega]
      exact this
   ·intro i0 l w hm f hf hw
    rcases List.mem_cons.1 hf with rfl | hf
    ·simp only at hw |-
     rcases hw with ⟨c,hc⟩ | ⟨hw,hl⟩
     ·exact KX hcl l true i0 w (by simp only [List.mem_append,List.mem_map];exact .inr ⟨(l,c),hc,rfl⟩) hm (.inr rfl)
     ·exact KX hcl l false i0 w (by simp only [List.mem_append,List.mem_map];exact .inl ⟨l,hl,rfl⟩) hm (.inl hw)
    ·exact f4 i0 l w (hlog _ hm) f hf hw
   ·intro i x g o' hg ho' hb
    cases i with
    | zero=>
     simp only [List.getElem?_cons_zero,ACp] at hg ho'
     subst hg ho'
     obtain ⟨e,e1,e2,e3⟩:=Acw hb
     refine ⟨e,e1,e2,?_⟩
     rcases e3 with e3 | ⟨b,e3,e4⟩
     ·exact .inl e3
     ·refine .inr ⟨b,?_,e4⟩
      rw [List.getElem?_append_left (List.getElem?_eq_some_iff.1 e3).1]
      exact e3
    | succ i=>
     obtain ⟨e,e1,e2,e3⟩:=f5 i x g o' (by simpa using hg) (by simpa using ho') hb
     exact ⟨e,e1,e2,by simpa using e3⟩
   ·intro i o' ho' e he hb
    cases i with
    | zero=>
     simp only [List.getElem?_cons_zero,ACp] at ho'
     subst ho'
     unfold FP at hedge
     rw [List.all_eq_true] at hedge
     have:=hedge e (Array.mem_toList_iff.2 he)
     rw [hb] at this
     simp only [Bool.not_true,Bool.false_or] at this
     rw [Nat.blt_eq] at this
     omega
    | succ i=>
     have:=f6 i o' (by simpa using ho') e he hb
     omega
   ·simp only [stL,if_true]
    rw [Ug]
    exact f7
theorem Asd (E:Env P Γ) (hm:P.follows .mixedOrders=true) {A:Nat->Option Value} {rid:Nat} {ops:Array Oper} {clk:Nat} (hdst:∀o∈ops.toList,∀d,o.dst=some d->d<n/\A d=none) {R:Type} {K:Ab->Option R} {r:R} (hi:InvP P Kp B0 n A s a w)
  (h:FW Γ ops.toList true clk ops.toList 0 [] s [] K=some r) (hQ:∀s' a' w',InvP P Kp B0 n A s' a' w'->K s'=some r->Q .normal a' w'):(Code.region rid ops true).wp P Q a w:=by
 obtain ⟨F,f1,f2,f3,f4,f5,f6,f7⟩:=Agp ops.toList 0 rfl h
 have T:Trace Γ ops clk s F:=by
  refine ⟨by simpa using f1,fun j f o hf ho=>f2 j f o hf (by simpa using ho),fun i j f g hlt hf hg hm=>by simpa using f3 i j f g hlt hf hg hm,fun i j g o hg ho hb => ?_,fun j o ho e he hb=>by simpa using f6 j o (by simpa using ho) e he hb⟩
  obtain ⟨e,e1,e2,e3⟩:=f5 j i g o hg (by simpa using ho) hb
  refine ⟨e,e1,e2,?_⟩
  rcases e3 with e3 | ⟨b,e3,e4⟩
  ·exact .inl e3
  ·simp only [List.nil_append,List.getElem?_map,Option.map_eq_some_iff] at e3
   obtain ⟨g',e5,rfl⟩:=e3
   exact .inr ⟨g',e5,e4⟩
 refine wp_region_any hm ?_
 have hi':InvP P Kp B0 n A s a { w with drawn:=w.drawn+1 }:=by
  obtain ⟨G,g⟩:=hi.inv.ghost
  exact ⟨⟨hi.inv.defers,hi.inv.size,hi.inv.base.drew,G,g.drew⟩,hi.pin⟩
 refine Ago E hdst T (fun a' w' hi2=>hQ _ a' w' hi2 f7) ops.size _ a _ (by simp) (by simp) (fun j o ho hl => ?_) ?_
 ·exfalso
  simp only [Array.getD_eq_getD_getElem?] at hl
  by_cases hj:j<ops.size
  ·simp [hj] at hl
  ·simp [hj] at hl
 ·have e:stL 0 F (fun i=>(Array.replicate ops.size false).getD i false) s=s:=by
   have e2:(fun i=>(Array.replicate ops.size false).getD i false)=fun _=>false:=by
    funext i
    simp only [Array.getD_eq_getD_getElem?]
    by_cases hj:i<ops.size
    ·simp [hj]
    ·simp [hj]
   rw [e2]
   have hall:∀(F:List Foot) (j:Nat) (s:Ab),stL j F (fun _=>false) s=s:=by
    intro F
    induction F with
    | nil=>intro j s;rfl
    | cons f F ih=>intro j s;simp only [stL];exact ih _ _
   exact hall _ _ _
  rw [e]
  exact hi'
end
end Go.V
namespace Go.V
inductive Ent (s s':Ab) (U:List (Nat×Nat)):Nat->Slot->Prop
 | val {i:Nat} {k:Kd} {d:k.den}:s (sl i)=.val k d->s' (sl i)=.val k d->Ent s s' U i (.v k)
 | cst {i:Nat} {k:Kd} {d:k.den}:s (sl i)=.cst k d->s' (sl i)=.val k d->Ent s s' U i (.v k)
 | al {i r:Nat} {p:Ah} {ver:Nat} {k k':Kd} {d:k.den} {d':k'.den} {box frz:Bool} {ver':Nat}:s (sl i)=.al r p ver->s (rt r)=.root k' d' 0 box frz ver'->LV ver ver' box p=true ->
   Al p k' d'=some ⟨k,d⟩->s' (sl i)=.val k d->Ent s s' U i (.v k)
 | own {i r:Nat} {ver:Nat} {k:Kd} {d:k.den} {dep dep':Nat} {frz:Bool} {ver':Nat}:s (sl i)=.al r [] ver->s (rt r)=.root k d dep' false frz ver'->dep<=dep'->(i,r)∈U->s' (sl i)=.al i [] 0->s' (rt i)=.root k d dep false false 0->Ent s s' U i (.own k dep)
 | ownc {i:Nat} {k:Kd} {d:k.den} {dep:Nat}:s (sl i)=.cst k d->s' (sl i)=.al i [] 0->s' (rt i)=.root k d dep false false 0->Ent s s' U i (.own k dep)
 | box {i r:Nat} {ver:Nat} {k:Kd} {d:k.den} {dep dep':Nat} {ver':Nat}:s (sl i)=.ptr r [] ver->s (rt r)=.root k d dep' true false ver'->dep<=dep'->(i,r)∈U->s' (sl i)=.ptr i [] 0->s' (rt i)=.root k d dep true false 0->Ent s s' U i (.box k dep)
 | sp {i:Nat} {k:Kd} {d:k.den}:s (sl i)=.sptr k d->s' (sl i)=.sptr k d->Ent s s' U i (.sp k)
 | spf {i r:Nat} {ver:Nat} {k:Kd} {d:k.den} {dep ver':Nat}:s (sl i)=.ptr r [] ver->s (rt r)=.root k d dep true true ver'->(k.flat=true\/dep=0)->s' (sl i)=.sptr k d->Ent s s' U i (.sp k)
 | same {i j r:Nat} {p:Ah} {ver:Nat} {k:Kd} {d:k.den} {dep:Nat} {box frz:Bool} {ver':Nat}:s (sl i)=.al r p ver->s (rt r)=.root k d dep box frz ver'->LV ver ver' box p=true->(j,r)∈U->s' (sl i)=.al j p 0->Ent s s' U i (.same j p)
 | ald {i r:Nat} {p:Ah} {ver:Nat} {k k':Kd} {d:k.den} {d':k'.den} {dep:Nat} {box frz:Bool} {ver':Nat}:s (sl i)=.al r p ver->s (rt r)=.root k' d' dep box frz ver'->LV ver ver' box p=true ->
   Al p k' d'=some ⟨k,d⟩->(∀j,(j,r)∉U)->s' (sl i)=.val k d->Ent s s' U i (.v k)
 | spd {i r:Nat} {ver:Nat} {k:Kd} {d:k.den} {dep:Nat} {frz:Bool} {ver':Nat}:s (sl i)=.ptr r [] ver->s (rt r)=.root k d dep true frz ver'->(∀j,(j,r)∉U)->s' (sl i)=.sptr k d->Ent s s' U i (.sp k)
 | hole {i j r:Nat} {q p p2:Ah} {ver:Nat} {k:Kd} {d:k.den} {dep:Nat} {box frz:Bool} {ver':Nat}:s (sl i)=.al r q ver->s (rt r)=.root k d dep box frz ver'->LV ver ver' box q=true->(j,r)∈U->s' (sl i)=.al j q 0->Ent s s' U i (.hole j p p2)
theorem At8:∀{p p2 q:Ah} {n:Nat},VK p p2 q=some n->q=p++.i n::p2:=by
 intro p
 induction p with
 | nil=>
  intro p2 q n h
  cases q with
  | nil=>simp [VK] at h
  | cons x q=>
   cases x with
   | i m=>
    simp only [VK] at h
    rcases Ae h with ⟨h1,h2⟩ | ⟨_,h2⟩
    ·have h1:=of_decide_eq_true h1
     have h2:=ACs h2
     subst h1 h2
     rfl
    ·cases h2
   | _=>simp [VK] at h
 | cons s p ih=>
  intro p2 q n h
  cases q with
  | nil=>cases s<;>simp [VK] at h
  | cons x q=>cases s<;>cases x<;>simp only [VK,reduceCtorEq] at h<;>simp [ih h]
theorem Ent.mono {s s' s'':Ab} {U U':List (Nat×Nat)} {i:Nat} {x:Slot} (h:Ent s s' U i x) (h1:s'' (sl i)=s' (sl i)) (h2:s'' (rt i)=s' (rt i)) (hU:∀y∈U,y∈U') (hU2:∀y∈U',y∈U):Ent s s'' U' i x:=by
 cases h with
 | val a b=>exact .val a (h1.trans b)
 | cst a b=>exact .cst a (h1.trans b)
 | al a b c d e=>exact .al a b c d (h1.trans e)
 | own a b c d e f=>exact .own a b c (hU _ d) (h1.trans e) (h2.trans f)
 | ownc a b c=>exact .ownc a (h1.trans b) (h2.trans c)
 | box a b c d e f=>exact .box a b c (hU _ d) (h1.trans e) (h2.trans f)
 | sp a b=>exact .sp a (h1.trans b)
 | spf a b c e=>exact .spf a b c (h1.trans e)
 | same a b c d e=>exact .same a b c (hU _ d) (h1.trans e)
 | hole a b c d e=>exact .hole a b c (hU _ d) (h1.trans e)
 | ald a b c d e f=>exact .ald a b c d (fun j hj=>e j (hU2 _ hj)) (h1.trans f)
 | spd a b c e=>exact .spd a b (fun j hj=>c j (hU2 _ hj)) (h1.trans e)
theorem Ob:∀{f:AU} {d:f.den} {s0:Ab},(∀t,t∉f.map (·.1)->(s0.put (build f d)) (sl t)=s0 (sl t)/\(s0.put (build f d)) (rt t)=s0 (rt t)) /\
  (∀t,(∀x,(t,x)∈f->x.rooted=false)->(s0.put (build f d)) (rt t)=s0 (rt t)):=by
 intro f
 induction f with
 | nil=>intro d s0;exact ⟨fun _ _=>⟨rfl,rfl⟩,fun _ _=>rfl⟩
 | cons x f ih=>
  intro d s0
  obtain ⟨i,x⟩:=x
  have one:∀(W:AA),(∀y∈W,y.1=sl i\/(y.1=rt i/\x.rooted=true)) -> ∀(d':AU.den f),build ((i,x)::f) d=W++build f d' ->
    (∀t,t∉((i,x)::f).map (·.1)->(s0.put (build ((i,x)::f) d)) (sl t)=s0 (sl t)/\(s0.put (build ((i,x)::f) d)) (rt t)=s0 (rt t)) /\
    (∀t,(∀y,(t,y)∈(i,x)::f->y.rooted=false)->(s0.put (build ((i,x)::f) d)) (rt t)=s0 (rt t)):=by
   intro W hW d' hb
   rw [hb]
   refine ⟨fun t ht => ?_,fun t ht => ?_⟩
   ·simp only [List.map_cons,List.mem_cons,not_or] at ht
    rw [Ab.put_append]
    obtain ⟨h1,h2⟩:=(ih (d:=d') (s0:=s0.put W)).1 t ht.2
    rw [h1,h2]
    refine ⟨D8 fun c hc => ?_,D8 fun c hc => ?_⟩
    ·rcases hW _ hc with h | ⟨h,_⟩
     ·exact ht.1 (Em h)
     ·exact A8 t i h
    ·rcases hW _ hc with h | ⟨h,_⟩
     ·exact A8 i t h.symm
     ·exact ht.1 (Bi h)
   ·rw [Ab.put_append,(ih (d:=d') (s0:=s0.put W)).2 t fun y hy=>ht y (by simp [hy])]
    refine D8 fun c hc => ?_
    rcases hW _ hc with h | ⟨h,hx⟩
    ·exact A8 i t h.symm
    ·have:=ht x (by simp [Bi h])
     rw [hx] at this
     cases this
  cases x with
  | v k=>exact one [(sl i,.val k d.1)] (by simp) d.2 rfl
  | own k dep=>exact one [(rt i,.root k d.1 dep false false 0),(sl i,.al i [] 0)] (by simp [Slot.rooted]) d.2 rfl
  | box k dep=>exact one [(rt i,.root k d.1 dep true false 0),(sl i,.ptr i [] 0)] (by simp [Slot.rooted]) d.2 rfl
  | sp k=>exact one [(sl i,.sptr k d.1)] (by simp) d.2 rfl
  | same j p=>exact one [(sl i,.al j p 0)] (by simp) d.2 rfl
  | hole j p p2=>exact one [(sl i,.al j (p++.i (Int.toNat d.1)::p2) 0)] (by simp) d.2 rfl
theorem IP {u:List (Nat×Nat)} {r:Nat} (h:(u.map (·.2)).contains r=false):∀i,(i,r)∉u:=by
 intro i hi
 have:(u.map (·.2)).contains r=true:=by
  rw [List.contains_iff_mem]
  exact List.mem_map.2 ⟨(i,r),hi,rfl⟩
 rw [h] at this
 cases this
theorem Ahv {s:Ab}:∀{f:AU} {u:List (Nat×Nat)} {d:f.den} {s0:Ab},Fm s f u=some d->(f.map (·.1)).Nodup->(∀x∈u,x.1∉f.map (·.1))->(u.Pairwise fun x y=>x.2≠y.2/\x.1≠y.1) ->
  ∃U,(∀x∈u,x∈U)/\(U.Pairwise fun x y=>x.2≠y.2/\x.1≠y.1)/\(∀x∈U,x∈u \/ ∃y,(x.1,y)∈f/\y.rooted=true /\ ∃p ver,s (sl x.1)=.al x.2 p ver\/s (sl x.1)=.ptr x.2 p ver) /\ ∀i x,(i,x)∈f->Ent s (s0.put (build f d)) U i x:=by
 intro f
 induction f with
 | nil=>intro u d s0 _ _ _ hp;exact ⟨u,fun _ h=>h,hp,fun x h=>.inl h,fun i x h=>by simp at h⟩
 | cons z f ih=>
  intro u d s0 h hn hu hp
  obtain ⟨i,x⟩:=z
  simp only [List.map_cons,List.nodup_cons] at hn
  -- an entry without a root
  have plain2:∀(W:AA) (d':AU.den f),Fm s f u=some d'->build ((i,x)::f) d=W++build f d'->(∀(U:List (Nat×Nat)) (s1:Ab),(∀y∈u,y∈U)->(∀z∈U,z∈u \/ ∃y,(z.1,y)∈f/\y.rooted=true)->Ent s (s1.put W) U i x) ->
    ∃U,(∀x∈u,x∈U)/\(U.Pairwise fun x y=>x.2≠y.2/\x.1≠y.1)/\(∀z∈U,z∈u \/ ∃y,(z.1,y)∈(i,x)::f/\y.rooted=true /\ ∃p ver,s (sl z.1)=.al z.2 p ver\/s (sl z.1)=.ptr z.2 p ver) /\ ∀j y,(j,y)∈(i,x)::f->Ent s (s0.put (build ((i,x)::f) d)) U j y:=by
   intro W d' h1 h2 h3
   obtain ⟨U,a1,a2,a3,a4⟩:=ih (s0:=s0.put W) h1 hn.2 (fun y hy=>by have:=hu y hy;simp at this;simp;exact this.2) hp
   refine ⟨U,a1,a2,fun z hz=>(a3 z hz).imp _root_.id fun ⟨y,h1,h2⟩=>⟨y,by simp [h1],h2⟩,fun j y hy => ?_⟩
   rw [h2,Ab.put_append]
   rcases List.mem_cons.1 hy with hy | hy
   ·simp only [Prod.mk.injEq] at hy
    obtain ⟨rfl,rfl⟩:=hy
    have ho:=(Ob (d:=d') (s0:=s0.put W)).1 j hn.1
    exact (h3 U s0 a1 fun z hz=>(a3 z hz).imp _root_.id fun ⟨y,h1,h2,_⟩=>⟨y,h1,h2⟩).mono ho.1 ho.2 (fun _ h=>h) fun _ h=>h
   ·exact a4 j y hy
  have plain:∀(W:AA) (d':AU.den f),Fm s f u=some d'->build ((i,x)::f) d=W++build f d'->(∀(U:List (Nat×Nat)) (s1:Ab),(∀y∈u,y∈U)->Ent s (s1.put W) U i x) ->
    ∃U,(∀x∈u,x∈U)/\(U.Pairwise fun x y=>x.2≠y.2/\x.1≠y.1)/\(∀z∈U,z∈u \/ ∃y,(z.1,y)∈(i,x)::f/\y.rooted=true /\ ∃p ver,s (sl z.1)=.al z.2 p ver\/s (sl z.1)=.ptr z.2 p ver) /\ ∀j y,(j,y)∈(i,x)::f->Ent s (s0.put (build ((i,x)::f) d)) U j y:=
   fun W d' h1 h2 h3=>plain2 W d' h1 h2 fun U s1 h _=>h3 U s1 h
  have free:∀r,Adx f u r=true -> ∀U:List (Nat×Nat),(∀z∈U,z∈u \/ ∃y,(z.1,y)∈f/\y.rooted=true) -> ∀j,(j,r)∉U:=by
   intro r hf U hU j hj
   simp only [Adx,ACo,Bool.not_eq_true',List.all_eq_true] at hf
   rcases hU _ hj with h | ⟨y,h1,h2⟩
   ·exact IP hf.2 j h
   ·have:=hf.1 _ h1
    rw [h2] at this
    cases this
  have rooted:∀(W:AA) (d':AU.den f) (r:Nat),x.rooted=true->(∃p ver,s (sl i)=.al r p ver\/s (sl i)=.ptr r p ver)->(∀j,(j,r)∉u)->Fm s f ((i,r)::u)=some d'->build ((i,x)::f) d=W++build f d'->(∀(U:List (Nat×Nat)) (s1:Ab),(i,r)∈U->Ent s (s1.put W) U i x) ->
    ∃U,(∀x∈u,x∈U)/\(U.Pairwise fun x y=>x.2≠y.2/\x.1≠y.1)/\(∀z∈U,z∈u \/ ∃y,(z.1,y)∈(i,x)::f/\y.rooted=true /\ ∃p ver,s (sl z.1)=.al z.2 p ver\/s (sl z.1)=.ptr z.2 p ver) /\ ∀j y,(j,y)∈(i,x)::f->Ent s (s0.put (build ((i,x)::f) d)) U j y:=by
   intro W d' r hxr hsr hr h1 h2 h3
   obtain ⟨U,a1,a2,a3,a4⟩:=ih (u:=(i,r)::u) (s0:=s0.put W) h1 hn.2
    (fun y hy=>by
     rcases List.mem_cons.1 hy with rfl | hy
     ·exact hn.1
     ·have:=hu y hy;simp at this;simp;exact this.2)
    (by
     rw [List.pairwise_cons]
     refine ⟨fun y hy=>⟨fun e=>hr y.1 (by have e:r=y.2:=e;rw [e];exact hy),fun e => ?_⟩,hp⟩
     have:=hu y hy
     rw [<- e] at this
     simp at this)
   refine ⟨U,fun y hy=>a1 y (by simp [hy]),a2,fun z hz => ?_,fun j y hy => ?_⟩
   ·rcases a3 z hz with h | ⟨y,h1,h2⟩
    ·rcases List.mem_cons.1 h with rfl | h
     ·exact .inr ⟨x,by simp,hxr,hsr⟩
     ·exact .inl h
    ·exact .inr ⟨y,by simp [h1],h2⟩
   ·rw [h2,Ab.put_append]
    rcases List.mem_cons.1 hy with hy | hy
    ·simp only [Prod.mk.injEq] at hy
     obtain ⟨rfl,rfl⟩:=hy
     have ho:=(Ob (d:=d') (s0:=s0.put W)).1 j hn.1
     exact (h3 U s0 (a1 _ (by simp))).mono ho.1 ho.2 (fun _ h=>h) fun _ h=>h
    ·exact a4 j y hy
  cases x with
  | v k=>
   simp only [Fm] at h
   split at h
   ·rename_i k' d' hs
    split at h
    ·rename_i y z h1 h2
     injection h with h
     subst h
     have:=AX h1
     injection this with e1 e2
     subst e1
     have e2:=eq_of_heq e2
     subst e2
     exact plain [(sl i,.val k' d')] z h2 rfl fun U s1 _=>.val hs (by simp only [Ab.put];exact Ab.set_same _ _ _)
    ·cases h
   ·rename_i k' d' hs
    split at h
    ·rename_i y z h1 h2
     injection h with h
     subst h
     have:=AX h1
     injection this with e1 e2
     subst e1
     have e2:=eq_of_heq e2
     subst e2
     exact plain [(sl i,.val k' d')] z h2 rfl fun U s1 _=>.cst hs (by simp only [Ab.put];exact Ab.set_same _ _ _)
    ·cases h
   ·rename_i r p ver hs
    split at h
    ·rename_i k' d' dep box frz ver' hs'
     rcases Ae h with ⟨hv,h1⟩ | ⟨_,h1⟩
     ·rw [ACo] at hv
      obtain ⟨hv,hz⟩:=hv
      split at h1
      ·rename_i v hg
       split at h1
       ·rename_i y z h2 h3
        injection h1 with h1
        subst h1
        have:=AX h2
        subst this
        rw [Bool.or_eq_true] at hz
        rcases hz with hz | hz
        ·have hz:=ACt hz
         subst hz
         exact plain [(sl i,.val k y)] z h3 rfl fun U s1 _=>.al hs hs' hv hg (by simp only [Ab.put];exact Ab.set_same _ _ _)
        ·exact plain2 [(sl i,.val k y)] z h3 rfl fun U s1 _ hU=>.ald hs hs' hv hg (free r hz U hU) (by simp only [Ab.put];exact Ab.set_same _ _ _)
       ·cases h1
      ·cases h1
     ·cases h1
    ·cases h
   ·cases h
  | own k dep=>
   simp only [Fm] at h
   split at h
   ·rename_i r p ver hs
    split at h
    ·rename_i k' d' dep' box frz ver' hs'
     rcases Ae h with ⟨hv,h1⟩ | ⟨_,h1⟩
     ·simp only [ACo,List.isEmpty_iff,Bool.not_eq_true',decide_eq_true_eq] at hv
      obtain ⟨⟨⟨rfl,rfl⟩,hd⟩,hc⟩:=hv
      split at h1
      ·rename_i y z h2 h3
       injection h1 with h1
       subst h1
       have:=AX h2
       injection this with e1 e2
       subst e1
       have e2:=eq_of_heq e2
       subst e2
       exact rooted [(rt i,.root k' d' dep false false 0),(sl i,.al i [] 0)] z r rfl ⟨_,_,.inl hs⟩ (IP hc) h3 rfl fun U s1 hU=>.own hs hs' hd hU (by simp only [Ab.put];exact Ab.set_same _ _ _) (by simp only [Ab.put];rw [Ab.set_other _ _ (A8 i i).symm,Ab.set_same])
      ·cases h1
     ·cases h1
    ·cases h
   ·rename_i k' d' hs
    split at h
    ·rename_i y z h1 h2
     injection h with h
     subst h
     have:=AX h1
     injection this with e1 e2
     subst e1
     have e2:=eq_of_heq e2
     subst e2
     exact plain [(rt i,.root k' d' dep false false 0),(sl i,.al i [] 0)] z h2 rfl fun U s1 _=>.ownc hs (by simp only [Ab.put];exact Ab.set_same _ _ _) (by simp only [Ab.put];rw [Ab.set_other _ _ (A8 i i).symm,Ab.set_same])
    ·cases h
   ·cases h
  | box k dep=>
   simp only [Fm] at h
   split at h
   ·rename_i r p ver hs
    split at h
    ·rename_i k' d' dep' ver' hs'
     rcases Ae h with ⟨hv,h1⟩ | ⟨_,h1⟩
     ·simp only [ACo,List.isEmpty_iff,Bool.not_eq_true',decide_eq_true_eq] at hv
      obtain ⟨⟨rfl,hd⟩,hc⟩:=hv
      split at h1
      ·rename_i y z h2 h3
       injection h1 with h1
       subst h1
       have:=AX h2
       injection this with e1 e2
       subst e1
       have e2:=eq_of_heq e2
       subst e2
       exact rooted [(rt i,.root k' d' dep true false 0),(sl i,.ptr i [] 0)] z r rfl ⟨_,_,.inr hs⟩ (IP hc) h3 rfl fun U s1 hU=>.box hs hs' hd hU (by simp only [Ab.put];exact Ab.set_same _ _ _) (by simp only [Ab.put];rw [Ab.set_other _ _ (A8 i i).symm,Ab.set_same])
      ·cases h1
     ·cases h1
    ·cases h
   ·cases h
  | sp k=>
   simp only [Fm] at h
   split at h
   ·rename_i k' d' hs
    split at h
    ·rename_i y z h1 h2
     injection h with h
     subst h
     have:=AX h1
     injection this with e1 e2
     subst e1
     have e2:=eq_of_heq e2
     subst e2
     exact plain [(sl i,.sptr k' d')] z h2 rfl fun U s1 _=>.sp hs (by simp only [Ab.put];exact Ab.set_same _ _ _)
    ·cases h
   ·rename_i r p ver hs
    split at h
    ·rename_i k' d' dep' frz' ver' hs'
     rcases Ae h with ⟨hv,h1⟩ | ⟨_,h1⟩
     ·rw [ACo,Bool.or_eq_true,List.isEmpty_iff] at hv
      obtain ⟨rfl,hk0⟩:=hv
      split at h1
      ·rename_i y z h2 h3
       injection h1 with h1
       subst h1
       have:=AX h2
       injection this with e1 e2
       subst e1
       have e2:=eq_of_heq e2
       subst e2
       rcases hk0 with hk0 | hk0
       ·simp only [ACo,Bool.or_eq_true] at hk0
        obtain ⟨rfl,hk0⟩:=hk0
        exact plain [(sl i,.sptr k' d')] z h3 rfl fun U s1 _=>.spf hs hs' (hk0.imp _root_.id fun h=>ACt h) (by simp only [Ab.put];exact Ab.set_same _ _ _)
       ·exact plain2 [(sl i,.sptr k' d')] z h3 rfl fun U s1 _ hU=>.spd hs hs' (free r hk0 U hU) (by simp only [Ab.put];exact Ab.set_same _ _ _)
      ·cases h1
     ·cases h1
    ·cases h
   ·cases h
  | same j p=>
   simp only [Fm] at h
   split at h
   ·rename_i r q ver hs
    split at h
    ·rename_i k' d' dep' box frz ver' hs'
     rcases Ae h with ⟨hv,h1⟩ | ⟨_,h1⟩
     ·simp only [ACo,decide_eq_true_eq] at hv
      obtain ⟨⟨hc,rfl⟩,hver⟩:=hv
      have hc:(j,r)∈u:=by rwa [List.contains_iff_mem] at hc
      split at h1
      ·rename_i z h3
       injection h1 with h1
       subst h1
       exact plain [(sl i,.al j p 0)] z h3 rfl fun U s1 hU=>.same hs hs' hver (hU _ hc) (by simp only [Ab.put];exact Ab.set_same _ _ _)
      ·cases h1
     ·cases h1
    ·cases h
   ·cases h
  | hole j p p2=>
   simp only [Fm] at h
   split at h
   ·rename_i r q ver hs
    split at h
    ·rename_i k' d' dep' box frz ver' hs'
     rcases Ae h with ⟨hv,h1⟩ | ⟨_,h1⟩
     ·simp only [ACo] at hv
      obtain ⟨hc,hver⟩:=hv
      have hc:(j,r)∈u:=by rwa [List.contains_iff_mem] at hc
      split at h1
      ·rename_i n hcut
       split at h1
       ·rename_i z h3
        injection h1 with h1
        subst h1
        have hq:=At8 hcut
        exact plain [(sl i,.al j (p++.i (Int.toNat (n:Int))::p2) 0)] z h3 rfl fun U s1 hU=>.hole hs hs' (by unfold LV;rw [hver];rfl) (hU _ hc) (by simp only [Ab.put];rw [Ab.set_same,Int.toNat_natCast,<- hq])
       ·cases h1
      ·cases h1
     ·cases h1
    ·cases h
   ·cases h
def Gj (φ:Nat->Option (Bool×Nat×Ah)) (U:List (Nat×Nat)) (s':Ab):Nat->Option (Bool×Nat×Ah):=fun b=>
 open Classical in
 match φ b with
 | none=>none
 | some x=>if x=far then some far else
  match U.find? (fun y=>Nat.beq y.2 x.2.1) with
  | none=>none
  | some y=>if x.1=true then some (true,y.1,x.2.2) else
   match s' (rt y.1) with
   | .root _ _ dep _ _ _=>if lev x.2.2<dep then some (false,y.1,x.2.2) else none
   | _=>none
theorem X0:∀{U:List (Nat×Nat)},(U.Pairwise fun x y=>x.2≠y.2/\x.1≠y.1) -> ∀x∈U,U.find? (fun y=>Nat.beq y.2 x.2)=some x:=by
 intro U
 induction U with
 | nil=>intro _ x h;simp at h
 | cons y U ih=>
  intro hp x hx
  rw [List.pairwise_cons] at hp
  rcases List.mem_cons.1 hx with rfl | hx
  ·simp
  ·have:Nat.beq y.2 x.2=false:=by
    cases hb:Nat.beq y.2 x.2 with
    | false=>rfl
    | true=>exact absurd (ACt hb) (hp.1 x hx).1
   rw [List.find?_cons,this]
   exact ih hp.2 x hx
section
variable {P:Program} {Γ:Ctx} {Kp:Keep} {B0:World} {n:Nat} {G:Gh} {s:Ab} {a:Act} {w w':World} {id:Nat} {o:Oper} {Q:Exit->Act->World->Prop} {ws:AA}
theorem BG {φ:Nat->Option (Bool×Nat×Ah)} {U:List (Nat×Nat)} {s':Ab} {b:Nat} (h:φ b=none):Gj φ U s' b=none:=by unfold Gj;rw [h]
theorem Lo {φ:Nat->Option (Bool×Nat×Ah)} {U:List (Nat×Nat)} {s':Ab} {b r:Nat} {f:Bool} {q:Ah} (hU:∀j,(j,r)∉U) (h:φ b=some (f,r,q)) (hf:(f,r,q)≠far):Gj φ U s' b=none:=by
 have hfd:U.find? (fun y=>Nat.beq y.2 r)=none:=by
  rw [List.find?_eq_none]
  intro x hx hb
  have:=ACt hb
  exact hU x.1 (by rw [<- this];exact hx)
 unfold Gj
 rw [h]
 simp only [hf,if_false,hfd]
theorem Ry {φ:Nat->Option (Bool×Nat×Ah)} {U:List (Nat×Nat)} (hp:U.Pairwise fun x y=>x.2≠y.2/\x.1≠y.1) {s':Ab} {b i r:Nat} {q:Ah} {k:Kd} {d:k.den} {dep:Nat} {box frz:Bool} {ver:Nat} (hU:(i,r)∈U) (h:φ b=some (false,r,q)) (hs:s' (rt i)=.root k d dep box frz ver) :
  Gj φ U s' b=if lev q<dep then some (false,i,q) else none:=by
 have hf:((false,r,q):Bool×Nat×Ah)≠far:=by simp [far]
 have hfd:=X0 hp _ hU
 simp only at hfd
 unfold Gj
 rw [h]
 simp only [hf,if_false,hfd,ACn,hs]
theorem Ach {φ:Nat->Option (Bool×Nat×Ah)} {U:List (Nat×Nat)} (hp:U.Pairwise fun x y=>x.2≠y.2/\x.1≠y.1) {s':Ab} {b i r:Nat} (hU:(i,r)∈U) (h:φ b=some (true,r,[])):Gj φ U s' b=some (true,i,[]):=by
 have hf:((true,r,[]):Bool×Nat×Ah)≠far:=by simp [far]
 have hfd:=X0 hp _ hU
 simp only at hfd
 unfold Gj
 rw [h]
 simp only [hf,if_false,hfd,if_true]
theorem As8 {f:AU} {d:f.den} (hn:(f.map (·.1)).Nodup) (h:Fm s f []=some d) (hi:Inv P Kp B0 n s a w):Inv P Kp B0 n (f.state d) a w:=by
 obtain ⟨G,g⟩:=hi.ghost
 obtain ⟨U,_,hp,hUf,hE⟩:=Ahv (s0:=Ab.empty) h hn (by simp) List.Pairwise.nil
 have hUf:∀x∈U,∃y,(x.1,y)∈f/\y.rooted=true /\ ∃p ver,s (sl x.1)=.al x.2 p ver\/s (sl x.1)=.ptr x.2 p ver:=fun x hx=>(hUf x hx).resolve_left (by simp)
 refine ⟨hi.defers,hi.size,hi.base,?_⟩
 let s':=f.state d
 have hs':∀i x,(i,x)∈f->Ent s s' U i x:=hE
 have hout:=Ob (f:=f) (d:=d) (s0:=Ab.empty)
 let C':Nat->List Value:=fun i=>match s (sl i) with
  | .al r _ _=>G.C r
  | .ptr r _ _=>G.C r
  | _=>(a.tmps.getD i undef).cells.toList
 let β':Nat->Nat:=fun i=>match s (sl i) with
  | .ptr r _ _=>G.β r
  | _=>0
 -- a root is one entry's
 have huniq:∀i x y,(i,x)∈f->(i,y)∈f->x=y:=by
  intro i x y hx hy
  have key:∀(f:AU),(f.map (·.1)).Nodup->(i,x)∈f->(i,y)∈f->x=y:=by
   intro f
   induction f with
   | nil=>intro _ h;simp at h
   | cons z f ih=>
    intro hn hx hy
    simp only [List.map_cons,List.nodup_cons] at hn
    rcases List.mem_cons.1 hx with hx | hx<;>rcases List.mem_cons.1 hy with hy | hy
    ·rw [<- hx] at hy;injection hy with _ hy;exact hy.symm
    ·exfalso;apply hn.1;rw [<- hx];exact List.mem_map.2 ⟨(i,y),hy,rfl⟩
    ·exfalso;apply hn.1;rw [<- hy];exact List.mem_map.2 ⟨(i,x),hx,rfl⟩
    ·exact ih hn.2 hx hy
  exact key f hn hx hy
 -- what stands at a slot whose root is carried on
 have hUroot:∀i r,(i,r)∈U -> ∃k d dep box frz ver dep',s (rt r)=.root k d dep' box frz ver/\dep<=dep'/\s' (rt i)=.root k d dep box false 0/\C' i=G.C r/\(box=true->β' i=G.β r/\frz=false):=by
  intro i r hU
  obtain ⟨y,hy,hyr,p,ver,hsl⟩:=hUf _ hU
  have hone:∀r',(i,r')∈U->r'=r:=by
   intro r' h'
   have key:∀(U:List (Nat×Nat)),(U.Pairwise fun x y=>x.2≠y.2/\x.1≠y.1)->(i,r)∈U->(i,r')∈U->r'=r:=by
    intro U
    induction U with
    | nil=>intro _ h;simp at h
    | cons z U ih=>
     intro hp h1 h2
     rw [List.pairwise_cons] at hp
     rcases List.mem_cons.1 h1 with h1 | h1<;>rcases List.mem_cons.1 h2 with h2 | h2
     ·rw [<- h1] at h2;injection h2
     ·exact absurd (by rw [<- h1]) (hp.1 _ h2).2
     ·exact absurd (by rw [<- h2]) (hp.1 _ h1).2
     ·exact ih hp.2 h1 h2
   exact key U hp hU h'
  cases hs' i y hy with
  | val=>simp [Slot.rooted] at hyr
  | cst=>simp [Slot.rooted] at hyr
  | al=>simp [Slot.rooted] at hyr
  | sp=>simp [Slot.rooted] at hyr
  | spf=>simp [Slot.rooted] at hyr
  | same=>simp [Slot.rooted] at hyr
  | ald=>simp [Slot.rooted] at hyr
  | spd=>simp [Slot.rooted] at hyr
  | hole=>simp [Slot.rooted] at hyr
  | ownc a1 a2 a3=>rw [a1] at hsl;rcases hsl with h | h<;>cases h
  | own a1 a2 a3 a4 a5 a6=>
   have:=hone _ a4
   subst this
   exact ⟨_,_,_,_,_,_,_,a2,a3,a6,by simp only [C',a1],fun h=>by cases h⟩
  | box a1 a2 a3 a4 a5 a6=>
   have:=hone _ a4
   subst this
   exact ⟨_,_,_,_,_,_,_,a2,a3,a6,by simp only [C',a1],fun _=>⟨by simp only [β',a1],rfl⟩⟩
 let φ':=Gj G.φ U s'
 have hcell:∀i r k d dep frz ver dep',(i,r)∈U->s (rt r)=.root k d dep' false frz ver->dep<=dep'->s' (rt i)=.root k d dep false false 0->Rep w (Az φ' i dep) k [] (G.C r) d:=by
  intro i r k d dep frz ver dep' hU h1 h2 h3
  have hro:=g.roots r
  rw [h1] at hro
  refine hro.1.frame fun q b _ hb _=>⟨rfl,?_⟩
  rcases AG hb with ⟨hl,hb⟩ | ⟨hl,hb⟩
  ·have:=Ry hp hU hb h3
   by_cases hlt:lev q<dep
   ·simp only [Az,hlt,if_true];rw [if_pos hlt] at this;exact this
   ·simp only [Az,hlt,if_false];rw [if_neg hlt] at this;exact this
  ·have hlt:¬lev q<dep:=by omega
   simp only [Az,hlt,if_false]
   exact BG hb
 have hcellb:∀i r k d dep ver dep',(i,r)∈U->s (rt r)=.root k d dep' true false ver->dep<=dep'->s' (rt i)=.root k d dep true false 0->Cy ⟨φ',C',β'⟩ w i (.root k d dep true false 0):=by
  intro i r k d dep ver dep' hU h1 h2 h3
  obtain ⟨_,_,_,_,_,_,_,e1,e2,e3,e4,e5⟩:=hUroot i r hU
  rw [h1] at e1
  simp only [Cell.root.injEq] at e1
  obtain ⟨rfl,_,_,rfl,_,_⟩:=e1
  have hro:=g.roots r
  rw [h1] at hro
  refine ⟨?_,fun _ => ?_⟩
  ·simp only
   rw [e4]
   refine hro.1.frame fun q b _ hb _=>⟨rfl,?_⟩
   rcases AG hb with ⟨hl,hb⟩ | ⟨hl,hb⟩
   ·have:=Ry hp hU hb h3
    by_cases hlt:lev q<dep
    ·simp only [Az,hlt,if_true];rw [if_pos hlt] at this;exact this
    ·simp only [Az,hlt,if_false];rw [if_neg hlt] at this;exact this
   ·have hlt:¬lev q<dep:=by omega
    simp only [Az,hlt,if_false]
    exact BG hb
  ·obtain ⟨f1,f2⟩:=hro.2 rfl
   simp only [ACn,if_false] at f2 |-
   rw [(e5 rfl).1,e4]
   exact ⟨f1,Ach hp hU f2⟩
 refine ⟨⟨φ',C',β'⟩,fun t => ?_,fun t => ?_,?_⟩
 ·show At ⟨φ',C',β'⟩ w s' (a.tmps.getD t undef) (s' (sl t))
  by_cases ht:t∈f.map (·.1)
  ·obtain ⟨⟨t',x⟩,hx,rfl⟩:=List.mem_map.1 ht
   simp only
   have hv:=g.slots t'
   cases hs' t' x hx with
   | val a1 a2=>
    rw [a2]
    rw [a1] at hv
    obtain ⟨c,c1,c2⟩:=hv
    exact ⟨c,c1,c2.frame fun q b _ hb _=>⟨rfl,BG hb⟩⟩
   | cst a1 a2=>
    rw [a2]
    rw [a1] at hv
    obtain ⟨c,c1,c2⟩:=hv
    exact ⟨c,c1,c2.frame fun q b _ hb _=>hb.elim⟩
   | al a1 a2 a3 a4 a5=>
    rename_i r p ver k k' d d' box frz ver'
    rw [a5]
    rw [a1] at hv
    simp only [At] at hv
    rw [a2] at hv
    obtain ⟨z,e1,e2,e3⟩:=hv.2 (I3 a3)
    rw [a4] at e1
    have e1:=ACs e1
    subst e1
    have hro:=g.roots r
    rw [a2] at hro
    have hrep:=BD hro.1 e2 a4
    exact ⟨_,e3,hrep.move fun q b hb _=>BG (by simpa [Az] using hb)⟩
   | own a1 a2 a3 a4 a5 a6=>
    rename_i r ver k d dep dep' frz ver'
    rw [a5]
    rw [a1] at hv
    simp only [At] at hv |-
    rw [a2] at hv
    rw [a6]
    obtain ⟨z,e1,e2,e3⟩:=hv.2 (.inr (by simp [BX]))
    simp only [Al,ACp] at e1
    subst e1
    refine ⟨ACr _,fun _=>⟨_,rfl,trivial,?_⟩⟩
    have:C' t'=G.C r:=by simp only [C',a1]
    simp only [A2] at e3 |-
    rw [this]
    exact e3
   | ownc a1 a2 a3=>
    rename_i k d dep
    rw [a2]
    rw [a1] at hv
    simp only [At]
    rw [a3]
    obtain ⟨c,c1,c2⟩:=hv
    refine ⟨ACr _,fun _=>⟨_,rfl,trivial,?_⟩⟩
    have:C' t'=c:=by simp only [C',a1];rw [c1];exact BW c2
    simp only [A2]
    rw [this]
    exact c1
   | box a1 a2 a3 a4 a5 a6=>
    rename_i r ver k d dep dep' ver'
    rw [a5]
    rw [a1] at hv
    simp only [At] at hv |-
    rw [a2] at hv
    rw [a6]
    obtain ⟨z,e1,e2,B,O,e3,e4⟩:=hv.2 (.inr (by simp [BX]))
    simp only [By,home,cond_true,ACp,Prod.mk.injEq] at e3
    obtain ⟨rfl,rfl⟩:=e3
    have:β' t'=G.β r:=by simp only [β',a1]
    exact ⟨ACr _,fun _=>⟨_,rfl,trivial,_,_,by simp only [By,home,cond_true];rw [this],e4⟩⟩
   | sp a1 a2=>
    rw [a2]
    rw [a1] at hv
    obtain ⟨B,O,e1,e2,e3,e4⟩:=hv
    exact ⟨B,O,e1,BG e2,e3,e4.frame fun q b _ hb _=>⟨rfl,BG hb⟩⟩
   | spf a1 a2 a3 a4=>
    rw [a4]
    rw [a1] at hv
    obtain ⟨B,e1,e2,e3,e4⟩:=Ya g hv a2 a3
    exact ⟨B,0,e1,BG e2,e3,e4.frame fun q b _ hb _=>⟨rfl,BG hb⟩⟩
   | ald a1 a2 a3 a4 a5 a6=>
    rename_i r p ver k k' d d' dep box frz ver'
    rw [a6]
    rw [a1] at hv
    simp only [At] at hv
    rw [a2] at hv
    have hro:=g.roots r
    rw [a2] at hro
    obtain ⟨z,e1,e2,e3⟩:=hv.2 (I3 a3)
    rw [a4] at e1
    have e1:=ACs e1
    subst e1
    refine ⟨_,e3,(BD hro.1 e2 a4).move fun q b hb _ => ?_⟩
    rcases AG hb with ⟨_,hb⟩ | ⟨_,hb⟩
    ·exact Lo a5 hb (by simp [far])
    ·exact BG hb
   | spd a1 a2 a3 a4=>
    rename_i r ver k d dep frz ver'
    rw [a4]
    rw [a1] at hv
    have hro:=g.roots r
    rw [a2] at hro
    obtain ⟨⟨cs,ty,g1,g2⟩,g3⟩:=hro.2 rfl
    have hlen:=hro.1.length
    have hsz:cs.size=k.size:=by rw [<- hlen,<- g2];simp
    have hcells:Ai w (G.β r) 0 k.size=G.C r:=by
     unfold Ai
     rw [g1]
     simp only [List.drop_zero,g2]
     exact List.take_of_length_le (by omega)
    refine ⟨G.β r,0,Gb g hv a2,?_,⟨cs,ty,_,g1,by omega⟩,?_⟩
    ·cases frz with
     | true=>simp only [if_true] at g3;exact BG g3
     | false=>simp only [ACn,if_false] at g3;exact Lo a3 g3 (by simp [far])
    ·rw [hcells]
     refine hro.1.move fun q b hb _ => ?_
     rcases AG hb with ⟨_,hb⟩ | ⟨_,hb⟩
     ·exact Lo a3 hb (by simp [far])
     ·exact BG hb
   | same a1 a2 a3 a4 a5=>
    rename_i j r p ver k d dep box frz ver'
    rw [a5]
    rw [a1] at hv
    simp only [At] at hv |-
    rw [a2] at hv
    obtain ⟨k2,d2,dep2,box2,frz2,ver2,dep3,f1,f2,f3,f4,f5⟩:=hUroot j r a4
    rw [a2] at f1
    simp only [Cell.root.injEq] at f1
    obtain ⟨rfl,f1,rfl,rfl,rfl,rfl⟩:=f1
    have f1:=eq_of_heq f1
    subst f1
    rw [f3]
    obtain ⟨z,e1,e2,e3⟩:=hv.2 (I3 a3)
    refine ⟨ACr _,fun _=>⟨z,e1,e2,?_⟩⟩
    rw [f4]
    exact e3
   | hole a1 a2 a3 a4 a5=>
    rename_i j r p p1 p2 ver k d dep box frz ver'
    rw [a5]
    rw [a1] at hv
    simp only [At] at hv |-
    rw [a2] at hv
    obtain ⟨k2,d2,dep2,box2,frz2,ver2,dep3,f1,f2,f3,f4,f5⟩:=hUroot j r a4
    rw [a2] at f1
    simp only [Cell.root.injEq] at f1
    obtain ⟨rfl,f1,rfl,rfl,rfl,rfl⟩:=f1
    have f1:=eq_of_heq f1
    subst f1
    rw [f3]
    obtain ⟨z,e1,e2,e3⟩:=hv.2 (I3 a3)
    refine ⟨ACr _,fun _=>⟨z,e1,e2,?_⟩⟩
    rw [f4]
    exact e3
  ·have e:s' (sl t)=.none:=(hout.1 t ht).1
   rw [e]
   trivial
 ·show Cy ⟨φ',C',β'⟩ w t (s' (rt t))
  by_cases ht:∃x,(t,x)∈f/\x.rooted=true
  ·obtain ⟨x,hx,hxr⟩:=ht
   cases hs' t x hx with
   | val=>simp [Slot.rooted] at hxr
   | cst=>simp [Slot.rooted] at hxr
   | al=>simp [Slot.rooted] at hxr
   | sp=>simp [Slot.rooted] at hxr
   | spf=>simp [Slot.rooted] at hxr
   | same=>simp [Slot.rooted] at hxr
   | ald=>simp [Slot.rooted] at hxr
   | spd=>simp [Slot.rooted] at hxr
   | hole=>simp [Slot.rooted] at hxr
   | own a1 a2 a3 a4 a5 a6=>
    rename_i r ver k d dep dep' frz ver'
    rw [a6]
    refine ⟨?_,fun h=>by cases h⟩
    have:C' t=G.C r:=by simp only [C',a1]
    simp only
    rw [this]
    exact hcell t r k d dep frz ver' dep' a4 a2 a3 a6
   | ownc a1 a2 a3=>
    rename_i k d dep
    rw [a3]
    have hv:=g.slots t
    rw [a1] at hv
    obtain ⟨c,c1,c2⟩:=hv
    refine ⟨?_,fun h=>by cases h⟩
    have:C' t=c:=by simp only [C',a1];rw [c1];exact BW c2
    simp only
    rw [this]
    exact c2.frame fun q b _ hb _=>hb.elim
   | box a1 a2 a3 a4 a5 a6=>
    rw [a6]
    exact hcellb _ _ _ _ _ _ _ a4 a2 a3 a6
  ·have e:s' (rt t)=.none:=hout.2 t fun x hx=>by
    cases hb:x.rooted with
    | false=>rfl
    | true=>exact absurd ⟨x,hx,hb⟩ ht
   rw [e]
   trivial
 ·have key:∀b x,φ' b=some x -> ∃y,G.φ b=some y/\(y=far->x=far):=by
   intro b x hx
   cases hb:G.φ b with
   | none=>simp only [φ',BG hb] at hx;cases hx
   | some y=>
    refine ⟨y,rfl,fun e => ?_⟩
    subst e
    simp only [φ',Gj,hb,if_true,ACp] at hx
    exact hx.symm
  refine ⟨fun b x hx => ?_,fun b x hx => ?_,fun b hx => ?_⟩
  ·obtain ⟨y,hy,hf⟩:=key b x hx
   rcases g.col.col b y hy with e | e
   ·exact .inl (hf e)
   ·exact .inr e
  ·obtain ⟨y,hy,_⟩:=key b x hx
   exact g.col.lt b y hy
  ·have hb:=g.col.out b hx
   simp only [φ',Gj,hb,if_true]
theorem ST {A:Nat->Option Value} {f:AU} {d:f.den} (hn:(f.map (·.1)).Nodup) (h:Fm s f []=some d) (hi:InvP P Kp B0 n A s a w):InvP P Kp B0 n A (f.state d) a w:=⟨As8 hn h hi.inv,hi.pin⟩
end
end Go.V
namespace Go.V
def Ex.to:Ex->Exit
 | .normal=>.normal
 | .exit id=>.exit id
 | .goto l=>.goto l
 | .ret=>.ret
def AJ.at:(o:AJ)->o.den->Ex×Ab
 | [],x=>nomatch x
 | (e,f)::r,x=>match x with
  | .inl d=>(e,f.state d)
  | .inr d=>AJ.at r d
theorem AJ.give_at {R:Type} {K:Ex->Ab->Option R}:∀{o:AJ} {x:o.den},AJ.give K o x=K (AJ.at o x).1 (AJ.at o x).2:=by
 intro o
 induction o with
 | nil=>intro x;exact nomatch x
 | cons p o ih=>
  intro x
  obtain ⟨e,f⟩:=p
  cases x with
  | inl d=>rfl
  | inr d=>exact ih
def AJ.ok (o:AJ):Prop := ∀x∈o,(x.2.map (·.1)).Nodup
structure Piece.ok (p:Piece):Prop where
 head:(p.head.map (·.1)).Nodup
 outs:AJ.ok p.outs
section
variable {P:Program} {Γ:Ctx} {Kp:Keep} {B0:World} {n:Nat} {G:Gh} {s:Ab} {a:Act} {w w':World} {id:Nat} {o:Oper} {Q:Exit->Act->World->Prop} {ws:AA} {A:Nat->Option Value}
theorem QY {e:Ex}:∀{o:AJ} {x:o.den},AJ.ok o->AJ.take s e o=some x->InvP P Kp B0 n A s a w->(AJ.at o x).1=e/\InvP P Kp B0 n A (AJ.at o x).2 a w:=by
 intro o
 induction o with
 | nil=>intro x;exact nomatch x
 | cons p o ih=>
  intro x ho h hi
  obtain ⟨e',f⟩:=p
  simp only [AJ.take] at h
  rcases Ae h with ⟨he,h1⟩ | ⟨_,h1⟩
  ·rw [Option.map_eq_some_iff] at h1
   obtain ⟨d,h2,rfl⟩:=h1
   exact ⟨(of_decide_eq_true he).symm,ST (ho (e',f) (by simp)) h2 hi⟩
  ·rw [Option.map_eq_some_iff] at h1
   obtain ⟨d,h2,rfl⟩:=h1
   exact ih (fun y hy=>ho y (by simp [hy])) h2 hi
def IG (P:Program) (n:Nat) (A:Nat->Option Value) (c:Code) (p:Piece):Prop:=
 ∀(Kp:Keep) (B0:World) (d:p.head.den) (x:p.outs.den) (a:Act) (w:World),p.run d=some x->InvP P Kp B0 n A (p.head.state d) a w ->
  c.wp P (fun e a' w'=>e=(AJ.at p.outs x).1.to/\InvP P Kp B0 n A (AJ.at p.outs x).2 a' w') a w
def BL:Code->List (Nat×Code)
 | .seq a b | .cond _ a b=>BL a++BL b
 | .block j b=>(j,b)::BL b
 | .scope b | .loop b=>BL b
 | _=>[]
def EO (q:Nat->Bool):Code->Bool
 | .seq a b | .cond _ a b=>EO q a&&EO q b
 | .block _ b | .scope b | .loop b=>EO q b
 | .region _ ops _=>ops.toList.all fun o=>match o.dst with | some d=>q d | none=>true
 | _=>true
theorem Ak3 {R:Type} {x y:Option R} {r:R} (h:An5 x y=some r):x=some r/\y=some r:=by
 unfold An5 at h
 split at h
 ·rename_i e
  subst e
  exact ⟨h,h⟩
 ·cases h
theorem GOk.reslot {Kp:Keep} {G:Gh} {s:Ab} {a:Act} {w:World} (h:GOk Kp G s a w) {d:Nat} {c:Cell} (hc:At G w s (a.tmps.getD d undef) c) :
  GOk Kp G (s.put [(sl d,c)]) a w:=by
 have hr:∀r,(s.put [(sl d,c)]) (rt r)=s (rt r):=fun r=>by simp only [Ab.put];exact Ab.set_other _ _ (A8 d r).symm
 refine ⟨fun t => ?_,fun r => ?_,h.col⟩
 ·by_cases e:t=d
  ·subst e
   simp only [Ab.put,Ab.set_same]
   exact hc.roots (fun r=>by have:=hr r;simpa only [Ab.put] using this) (fun r=>by simp only [Ab.set_other _ _ (Fd r t)])
  ·have e2:(s.put [(sl d,c)]) (sl t)=s (sl t):=by simp only [Ab.put];exact Ab.set_other _ _ (fun e3=>e (Em e3))
   rw [e2]
   exact (h.slots t).roots hr (fun r=>by simp only [Ab.put];exact Ab.set_other _ _ (Fd r d))
 ·rw [hr]
  exact h.roots r
theorem As1 {R:Type} {A:Nat->Option Value} {ops:List Oper} {K:Ab->Option R} {r:R} {C:Prop} (hi:InvP P Kp B0 n A s a w) (h:Ay8 Γ ops s K=some r) (hK:∀s',InvP P Kp B0 n A s' a w->K s'=some r->C):C:=by
 unfold Ay8 at h
 split at h
 ·exact hK _ hi h
 ·split at h
  ·exact hK _ hi h
  ·rename_i t _
   obtain ⟨y,tr,h1,_,h2⟩:=Rd.runK_tr _ _ _ _ _ h
   have h2:=h2 s (fun _ _=>rfl)
   obtain ⟨G,g⟩:=hi.inv.ghost
   obtain ⟨G1,cs,g1,e1,hh,_⟩:=DH g (IK g (g.slots t) h2) false
   have e0:BP false y=none:=rfl
   rw [e0] at hh
   refine hK _ ⟨⟨hi.inv.defers,hi.inv.size,hi.inv.base,G1,?_⟩,hi.pin⟩ h1
   rw [Ab.put_append]
   refine g1.reslot ⟨cs,e1,?_⟩
   cases hh with
   | free _ h=>exact h.move fun _ _ hb _=>hb.elim
   | shared h=>exact h
theorem Awt (E:Env P Γ) (hm:P.follows .mixedOrders=true) {Pc:Nat->Option Piece} {q:Nat->Bool} (hq:∀d,q d=true->d<n/\A d=none):∀(c:Code) {R:Type} {clk:Nat} {s:Ab} {a:Act} {w:World} {K:Ex->Nat->Ab->Option R} {r:R} {Q:Exit->Act->World->Prop},
  EO q c=true->(∀id b o,(id,b)∈BL c->Pc id=some o->o.ok/\IG P n A (.block id b) o)->InvP P Kp B0 n A s a w->pi Γ Pc c clk s K=some r ->
  (∀e clk' s' a' w',InvP P Kp B0 n A s' a' w'->K e clk' s'=some r->Q e.to a' w')->c.wp P Q a w:=by
 intro c
 induction c with
 | skip=>
  intro R clk s a w K r Q _ _ hi h hK
  exact wp_skip (hK .normal clk s a w hi (by simpa [pi] using h))
 | region rid ops draw=>
  intro R clk s a w K r Q hd _ hi h hK
  have hdst:∀o∈ops.toList,∀d,o.dst=some d->d<n/\A d=none:=by
   intro o ho d hod
   simp only [EO,List.all_eq_true] at hd
   have:=hd o ho
   rw [hod] at this
   exact hq d this
  simp only [pi] at h
  refine As1 hi h fun s hi h => ?_
  cases draw with
  | false=>
   have:=Ao7 (P:=P) (Q:=Q) E hdst ops.toList [] (by simp) hi (by simpa using h) (fun s' a' w' hi' hk=>hK .normal _ s' a' w' hi' hk)
   exact wp_region (by simpa [List.range_eq_range'] using this)
  | true=>exact Asd E hm hdst hi h fun s' a' w' hi' hk=>hK .normal _ s' a' w' hi' hk
 | seq x y ihx ihy=>
  intro R clk s a w K r Q hd hP hi h hK
  simp only [pi] at h
  simp only [EO,ACo] at hd
  refine wp_seq (ihx hd.1 (fun id b o hb=>hP id b o (by simp [BL,hb])) hi h fun e clk' s' a' w' hi' hk => ?_)
  cases e with
  | normal=>exact ihy hd.2 (fun id b o hb=>hP id b o (by simp [BL,hb])) hi' hk hK
  | exit id=>exact hK _ _ _ _ _ hi' hk
  | goto l=>exact hK _ _ _ _ _ hi' hk
  | ret=>exact hK _ _ _ _ _ hi' hk
 | cond c x y ihx ihy=>
  intro R clk s a w K r Q hd hP hi h hK
  simp only [EO,ACo] at hd
  have hx:=fun {clk:Nat} (hh:pi Γ Pc x clk s K=some r)=>ihx (Q:=Q) hd.1 (fun id b o hb=>hP id b o (by simp [BL,hb])) hi hh hK
  have hy:=fun {clk:Nat} (hh:pi Γ Pc y clk s K=some r)=>ihy (Q:=Q) hd.2 (fun id b o hb=>hP id b o (by simp [BL,hb])) hi hh hK
  cases c with
  | tmp t=>
   simp only [pi] at h
   split at h
   ·rename_i z hz
    obtain ⟨G,g⟩:=hi.inv.ghost
    have hv:=g.slots t
    rw [hz] at hv
    obtain ⟨c,e1,e2⟩:=hv
    simp only [Rep] at e2
    subst e2
    have hev:a.eval (.tmp t)=.bool z:=by
     have e1:a.tmps.getD t undef=.bool z:=e1
     simpa [Act.eval,Array.getD_eq_getD_getElem?] using e1
    cases z with
    | true=>
     rw [LS _ _ _ hz] at h
     simp only [if_true] at h
     exact wp_cond_true hev (hx h)
    | false=>
     rw [LS _ _ _ hz] at h
     simp only [ACn,if_false] at h
     exact wp_cond_false hev (hy h)
   ·rename_i z hz
    obtain ⟨G,g⟩:=hi.inv.ghost
    have hv:=g.slots t
    rw [hz] at hv
    obtain ⟨z',e1,e2⟩:=hv
    have hev:a.eval (.tmp t)=.bool z':=by
     simpa [Act.eval,Array.getD_eq_getD_getElem?] using e1
    cases z with
    | true=>
     simp only [if_true] at h
     obtain ⟨h1,h2⟩:=Ak3 h
     cases z' with
     | true=>exact wp_cond_true hev (hx h1)
     | false=>exact wp_cond_false hev (hy h2)
    | false=>
     simp only [ACn,if_false] at h
     cases z' with
     | true=>exact absurd (e2 rfl) (by simp)
     | false=>exact wp_cond_false hev (hy h)
   ·cases h
  | const v=>
   cases v with
   | bool z=>
    simp only [pi] at h
    cases z with
    | true=>exact wp_cond_true rfl (hx h)
    | false=>exact wp_cond_false rfl (hy h)
   | _=>simp [pi] at h
  | _=>simp [pi] at h
 | block id b ih=>
  intro R clk s a w K r Q hd hP hi h hK
  simp only [pi] at h
  cases hp:Pc id with
  | some o=>
   rw [hp] at h
   simp only at h
   split at h
   ·rename_i d hn
    rw [ACq] at h
    obtain ⟨x,h1,h2⟩:=h
    obtain ⟨k1,k2⟩:=hP id b o (by simp [BL]) hp
    have hi':=ST k1.head hn hi
    refine wp_mono (k2 Kp B0 d x a w h1 hi') fun e a' w' hh => ?_
    obtain ⟨rfl,hi2⟩:=hh
    rw [AJ.give_at] at h2
    exact hK _ _ _ _ _ hi2 h2
   ·cases h
  | none=>
   rw [hp] at h
   simp only at h
   refine wp_block (ih hd (fun id' b' o hb=>hP id' b' o (by simp [BL,hb])) hi h fun e clk' s' a' w' hi' hk => ?_)
   cases e with
   | exit j=>
    simp only [Ex.to,Exit.inBlock]
    rcases Ae hk with ⟨e1,hk⟩ | ⟨e1,hk⟩
    ·rw [if_pos (ACt e1)]
     exact hK _ _ _ _ _ hi' hk
    ·rw [if_neg (fun e=>by subst e;rw [Nat.beq_refl] at e1;cases e1)]
     exact hK _ _ _ _ _ hi' hk
   | normal=>exact hK _ _ _ _ _ hi' hk
   | goto l=>exact hK _ _ _ _ _ hi' hk
   | ret=>exact hK _ _ _ _ _ hi' hk
 | exit id=>
  intro R clk s a w K r Q _ _ hi h hK
  exact wp_exit (hK (.exit id) clk s a w hi (by simpa [pi] using h))
 | label l=>
  intro R clk s a w K r Q _ _ hi h hK
  exact wp_label (hK .normal clk s a w hi (by simpa [pi] using h))
 | goto l=>
  intro R clk s a w K r Q _ _ hi h hK
  exact wp_goto (hK (.goto l) clk s a w hi (by simpa [pi] using h))
 | ret=>
  intro R clk s a w K r Q _ _ hi h hK
  exact wp_ret (hK .ret clk s a w hi (by simpa [pi] using h))
 | _=>intro R clk s a w K r Q _ _ _ h _;simp [pi] at h
theorem Au9 (E:Env P Γ) (hm:P.follows .mixedOrders=true) {Pc:Nat->Option Piece} {q:Nat->Bool} (hq:∀d,q d=true->d<n/\A d=none) {id:Nat} {head:AU} {outs:AJ} {body:Code} (hok:(head.map (·.1)).Nodup/\AJ.ok outs) (hd:EO q body=true)
  (hP:∀id b o,(id,b)∈BL body->Pc id=some o->o.ok/\IG P n A (.block id b) o) {L:Nat->head.den->Option outs.den} (h0:∀d,L 0 d=none) (hL:∀m d,L (m+1) d=SO Γ Pc id head outs body (L m) d) :
  ∀m,IG P n A (.block id (.loop body)) ⟨head,outs,L m⟩:=by
 intro m Kp B0 d x a w hrun hi
 refine wp_block (wp_loop_rounds m ?_)
 simp only at hrun hi x d
 revert hrun hi
 generalize hQ:Exit.inBlock id (fun e a' w'=>e=(AJ.at outs x).1.to/\InvP P Kp B0 n A (AJ.at outs x).2 a' w')=Q
 have hfin:∀(e:Ex) (s:Ab) (a':Act) (w':World),InvP P Kp B0 n A s a' w'->(match e with
   | .normal=>none
   | .exit j=>bif Nat.beq j id then AJ.take s .normal outs else AJ.take s (.exit j) outs
   | e=>AJ.take s e outs)=some x->Q e.to a' w':=by
  intro e s a' w' hi' hk
  rw [<- hQ]
  cases e with
  | normal=>cases hk
  | exit j=>
   simp only [Ex.to,Exit.inBlock]
   rcases Ae hk with ⟨e1,hk⟩ | ⟨e1,hk⟩
   ·rw [if_pos (ACt e1)]
    obtain ⟨k1,k2⟩:=QY hok.2 hk hi'
    exact ⟨by simp [k1,Ex.to],k2⟩
   ·rw [if_neg (fun e=>by subst e;rw [Nat.beq_refl] at e1;cases e1)]
    obtain ⟨k1,k2⟩:=QY hok.2 hk hi'
    exact ⟨by simp [k1,Ex.to],k2⟩
  | goto l=>
   obtain ⟨k1,k2⟩:=QY hok.2 hk hi'
   exact ⟨by rw [k1],k2⟩
  | ret=>
   obtain ⟨k1,k2⟩:=QY hok.2 hk hi'
   exact ⟨by rw [k1],k2⟩
 clear hQ
 induction m generalizing d a w with
 | zero=>intro h;rw [h0] at h;cases h
 | succ m ih=>
  intro hrun hi
  rw [hL] at hrun
  rw [rounds_succ]
  refine Awt E hm hq body hd hP hi hrun fun e clk' s' a' w' hi' hk => ?_
  cases e with
  | normal=>
   simp only [ACq] at hk
   obtain ⟨d',k1,k2⟩:=hk
   exact ih d' a' w' k2 (ST hok.1 k1 hi')
  | exit j=>exact hfin (.exit j) s' a' w' hi' hk
  | goto l=>exact hfin (.goto l) s' a' w' hi' hk
  | ret=>exact hfin .ret s' a' w' hi' hk
end
end Go.V
namespace Go.V
section
variable {P:Program} {Γ:Ctx} {Kp:Keep} {B0:World} {n:Nat} {G:Gh} {s:Ab} {a:Act} {w w':World} {id:Nat} {o:Oper} {Q:Exit->Act->World->Prop} {ws:AA} {A:Nat->Option Value}
theorem GD.length {m:Md} {ψ:Nat->Option (Nat×Ah)} {U:Nat->Prop}:∀{ps:List (Kd×Bool)} {i:Nat} {vs:List Value} {d:(Kd.tuple (ps.map (·.1))).den},GD m w ψ U i ps vs d->vs.length=ps.length:=by
 intro ps
 induction ps with
 | nil=>intro i vs d h;rw [show vs=[] from h];rfl
 | cons p ps ih=>
  intro i vs d h
  obtain ⟨k,io⟩:=p
  obtain ⟨c,r,h1,_,h2⟩:=h
  subst h1
  simp [ih h2]
theorem KT {i:Nat} {dp:Bool} {k:Kd} {d:k.den} (h:k.isBx=false):QJ i dp k d=[(rt i,.root k d k.lev false false 0),(sl i,.al i [] 0)]:=by
 cases k<;>first | rfl | simp [Kd.isBx] at h
theorem Aae {m:Md} {ψ:Nat->Option (Nat×Ah)} {U:Nat->Prop}:∀{ps:List (Kd×Bool)} {i:Nat} {vs:List Value} {d:(Kd.tuple (ps.map (·.1))).den} {s1:Ab},GD m w ψ U i ps vs d ->
  (∀t,(t<i\/i+ps.length<=t)->(s1.put (start m i ps d)) (sl t)=s1 (sl t)/\(s1.put (start m i ps d)) (rt t)=s1 (rt t)) /\
  ∀j,j<ps.length -> ∃v,vs[j]? = some v /\
   ((∃k c,∃dd:k.den,v=Am k c/\(s1.put (start m i ps d)) (sl (i+j))=.val k dd/\(s1.put (start m i ps d)) (rt (i+j))=s1 (rt (i+j))/\Rep w (fun _ b=>U b) k [] c dd) \/
    (∃k c,∃dd:k.den,v=Am k c/\ps[j]? = some (k,true)/\k.isBx=false/\(s1.put (start m i ps d)) (sl (i+j))=.al (i+j) [] 0/\(s1.put (start m i ps d)) (rt (i+j))=.root k dd k.lev false false 0/\Rep w (fun q b=>ψ b=some (i+j,q)) k [] c dd) \/
    (∃k b cs ty,∃dd:k.den,v=.pointer (some ⟨b,0,none⟩)/\ps[j]? = some (.bx k,true)/\(s1.put (start m i ps d)) (sl (i+j))=.ptr (i+j) [] 0/\(s1.put (start m i ps d)) (rt (i+j))=.root k dd (bif m.d (i+j) then k.lev else 0) true false 0 /\
     w.heap[b]? = some (.cells cs ty (0,0))/\ψ b=some (i+j,[])/\Rep w (bif m.d (i+j) then lvS k.lev (fun q b=>ψ b=some (i+j,.i 0::q)) U else fun _ b=>U b) k [] cs.toList dd)):=by
 intro ps
 induction ps with
 | nil=>intro i vs d s1 h;exact ⟨fun _ _=>⟨rfl,rfl⟩,fun j hj=>by simp at hj⟩
 | cons p ps ih=>
  intro i vs d s1 h
  obtain ⟨k,io⟩:=p
  obtain ⟨c,r,h1,h2,h3⟩:=h
  subst h1
  cases io with
  | false=>
   obtain ⟨e1,e2⟩:=ih (s1:=s1.set (sl i) (.val k d.1)) h3
   have eq:s1.put (start m i ((k,false)::ps) d)=(s1.set (sl i) (.val k d.1)).put (start m (i+1) ps d.2):=rfl
   rw [eq]
   refine ⟨fun t ht => ?_,fun j hj => ?_⟩
   ·simp only [List.length_cons] at ht
    obtain ⟨f1,f2⟩:=e1 t (by omega)
    rw [f1,f2,Ab.set_other _ _ (fun e=>by have:=Em e;omega),Ab.set_other _ _ (A8 i t).symm]
    exact ⟨rfl,rfl⟩
   ·cases j with
    | zero=>
     obtain ⟨f1,f2⟩:=e1 i (by omega)
     refine ⟨_,rfl,.inl ⟨k,c,d.1,rfl,?_,?_,h2⟩⟩
     ·exact f1.trans (Ab.set_same _ _ _)
     ·exact f2.trans (Ab.set_other _ _ (A8 i i).symm)
    | succ j=>
     obtain ⟨v,g1,g2⟩:=e2 j (by simpa using hj)
     refine ⟨v,by simpa using g1,?_⟩
     rw [show i+(j+1)=i+1+j by omega]
     rw [Ab.set_other _ _ (A8 i (i+1+j)).symm] at g2
     simpa using g2
  | true=>
   have hio:∃cR cS,QJ i (m.d i) k d.1=[(rt i,cR),(sl i,cS)]:=by
    cases hb:k.isBx with
    | false=>exact ⟨_,_,KT hb⟩
    | true=>obtain ⟨k',rfl⟩:=Wy hb;exact ⟨_,_,rfl⟩
   obtain ⟨cR,cS,hio⟩:=hio
   obtain ⟨e1,e2⟩:=ih (s1:=(s1.set (rt i) cR).set (sl i) cS) h3
   have eq:s1.put (start m i ((k,true)::ps) d)=((s1.set (rt i) cR).set (sl i) cS).put (start m (i+1) ps d.2):=by
    show s1.put (QJ i (m.d i) k d.1++start m (i+1) ps d.2)=_
    rw [hio]
    rfl
   rw [eq]
   refine ⟨fun t ht => ?_,fun j hj => ?_⟩
   ·simp only [List.length_cons] at ht
    obtain ⟨f1,f2⟩:=e1 t (by omega)
    rw [f1,f2,Ab.set_other _ _ (fun e=>by have:=Em e;omega),Ab.set_other _ _ (A8 t i),Ab.set_other _ _ (A8 i t).symm,Ab.set_other _ _ (fun e=>by have:=Bi e;omega)]
    exact ⟨rfl,rfl⟩
   ·cases j with
    | zero=>
     obtain ⟨f1,f2⟩:=e1 i (by omega)
     have f1:=f1.trans (Ab.set_same _ _ _)
     have f2:=f2.trans ((Ab.set_other _ _ (A8 i i).symm).trans (Ab.set_same _ _ _))
     refine ⟨_,rfl,.inr ?_⟩
     simp only [cond_true] at h2
     cases hb:k.isBx with
     | false=>
      rw [KT hb] at hio
      simp only [List.cons.injEq,Prod.mk.injEq,true_and,and_true] at hio
      obtain ⟨rfl,rfl⟩:=hio
      rw [IO.of hb] at h2
      exact .inl ⟨k,c,d.1,rfl,rfl,hb,f1,f2,h2⟩
     | true=>
      obtain ⟨k',rfl⟩:=Wy hb
      have hio':[(rt i,Cell.root k' d.1 (bif m.d i then k'.lev else 0) true false 0),(sl i,.ptr i [] 0)]=[(rt i,cR),(sl i,cS)]:=hio
      simp only [List.cons.injEq,Prod.mk.injEq,true_and,and_true] at hio'
      obtain ⟨rfl,rfl⟩:=hio'
      obtain ⟨b,cs,ty,g1,g2,g3,g4⟩:=h2
      exact .inr ⟨k',b,cs,ty,d.1,by rw [g1];rfl,rfl,f1,f2,g2,g3,g4⟩
    | succ j=>
     obtain ⟨v,g1,g2⟩:=e2 j (by simpa using hj)
     refine ⟨v,by simpa using g1,?_⟩
     rw [show i+(j+1)=i+1+j by omega]
     have:((s1.set (rt i) cR).set (sl i) cS) (rt (i+1+j))=s1 (rt (i+1+j)):=by
      rw [Ab.set_other _ _ (A8 i (i+1+j)).symm,Ab.set_other _ _ (fun e=>by have:=Bi e;omega)]
     rw [this] at g2
     simpa using g2
def X3 (ps:List (Kd×Bool)) (i:Nat):Bool:=match ps[i]? with
 | some (k,true)=>k.isBx
 | _=>false
def JA:Value->Nat
 | .pointer (some a)=>a.block
 | _=>0
def La (w:World) (b:Nat):List Value:=match w.heap[b]? with
 | some (.cells cs _ _)=>cs.toList
 | _=>[]
def Ae8 (bx:Bool) (i:Nat) (q:Ah):Option (Bool×Nat×Ah):=
 bif bx then match q with
  | []=>some (true,i,[])
  | .i 0::q=>some (false,i,q)
  | _=>none
 else some (false,i,q)
def Vb (ps:List (Kd×Bool)) (ψ:Nat->Option (Nat×Ah)) (U:Nat->Prop) (size:Nat):Nat->Option (Bool×Nat×Ah):=fun b=>
 open Classical in
 match ψ b with
 | some (i,q)=>Ae8 (X3 ps i) i q
 | none=>if b<size /\ ¬U b then some far else none
def inK (ψ:Nat->Option (Nat×Ah)) (U:Nat->Prop) (size:Nat):Keep:=⟨fun b=>b<size/\ψ b=none,fun b=>b<size/\ψ b=none /\ ¬U b⟩
def Rr (ps:List (Kd×Bool)) (d:Nat):Bool:=match ps[d]? with
 | some p=>p.2
 | none=>false
def inA (ps:List (Kd×Bool)) (vs:List Value):Nat->Option Value:=fun t=>bif Rr ps t then vs[t]? else none
theorem Apf {m:Md} {ψ:Nat->Option (Nat×Ah)} {U:Nat->Prop} {ps:List (Kd×Bool)} {vs:List Value} {d:(Kd.tuple (ps.map (·.1))).den} (h:GD m w ψ U 0 ps vs d) (hU:∀b,U b->ψ b=none)
  (hψ:∀b z,ψ b=some z->C6 w (b)) (hgl:Gl P w ψ) (hn:ps.length<=n) :
  InvP P (inK ψ U w.heap.size) w n (inA ps vs) (Ab.empty.put (start m 0 ps d)) { tmps:=vs.toArray++Array.replicate (n-vs.toArray.size) undef,defers:=[] } w:=by
 have hlen:=h.length
 obtain ⟨e1,e2⟩:=Aae (s1:=Ab.empty) h
 have htmp:∀t v,vs[t]? = some v->(vs.toArray++Array.replicate (n-vs.toArray.size) undef).getD t undef=v:=by
  intro t v hv
  have hlt:=(List.getElem?_eq_some_iff.1 hv).1
  rw [Array.getD_eq_getD_getElem?,Array.getElem?_append_left (by simpa using hlt)]
  simp [hv]
 have hUn:∀b,U b->Vb ps ψ U w.heap.size b=none:=fun b hb=>by simp only [Vb,hU b hb,hb,not_true_eq_false,and_false,if_false]
 refine ⟨⟨rfl,by simp;omega,⟨rfl,rfl,rfl,ACr _,fun _ _=>rfl,fun b hb=>hb.1,fun b hb=>⟨⟨(hgl b hb).2.lt hb,(hgl b hb).1⟩,(hgl b hb).2⟩⟩,⟨Vb ps ψ U w.heap.size,fun t=>bif X3 ps t then La w (JA (vs.getD t undef)) else (vs.getD t undef).cells.toList,fun t=>JA (vs.getD t undef)⟩,?_,?_,?_⟩,fun t v hv=>by
  unfold inA at hv
  rcases Ae hv with ⟨_,hv⟩ | ⟨_,hv⟩
  ·exact htmp t v hv
  ·cases hv⟩
 ·intro t
  by_cases ht:t<ps.length
  ·obtain ⟨v,f1,f2⟩:=e2 t ht
   rw [Nat.zero_add] at f2
   simp only
   rw [htmp t _ f1]
   rcases f2 with ⟨k,c,dd,rfl,f2,_,f3⟩ | ⟨k,c,dd,rfl,fp,fb,f2,f4,f3⟩ | ⟨k,b,cs,ty,dd,rfl,fp,f2,f4,f5,f6,f7⟩
   ·rw [f2]
    exact ⟨c,rfl,f3.frame fun q b _ hb _=>⟨rfl,hUn b hb⟩⟩
   ·rw [f2]
    simp only [At]
    rw [f4]
    have hbx:X3 ps t=false:=by unfold X3;rw [fp];exact fb
    refine ⟨ACr _,fun _=>⟨⟨k,dd⟩,rfl,trivial,?_⟩⟩
    simp only [A2,ACy,f1,Option.getD_some,hbx,cond_false]
    rw [BW f3]
   ·rw [f2]
    simp only [At]
    rw [f4]
    exact ⟨ACr _,fun _=>⟨⟨k,dd⟩,rfl,trivial,b,0,by simp [By,home,ACy,f1,JA],rfl⟩⟩
  ·have:=(e1 t (by omega)).1
   rw [this]
   trivial
 ·intro t
  by_cases ht:t<ps.length
  ·obtain ⟨v,f1,f2⟩:=e2 t ht
   rw [Nat.zero_add] at f2
   rcases f2 with ⟨k,c,dd,rfl,f2,f4,f3⟩ | ⟨k,c,dd,rfl,fp,fb,f2,f4,f3⟩ | ⟨k,b,cs,ty,dd,rfl,fp,f2,f4,f5,f6,f7⟩
   ·rw [f4]
    trivial
   ·rw [f4]
    have hbx:X3 ps t=false:=by unfold X3;rw [fp];exact fb
    refine ⟨?_,fun h=>by cases h⟩
    simp only [ACy,f1,Option.getD_some,hbx,cond_false]
    rw [BW f3]
    refine f3.lmove (fun q b g2 g1 _ => ?_) (.inr fun q b hs _=>(Aq4 (f:=fun q=>(t,q)) (fun p q h=>by injection h) hs).elim)
    simp only [List.nil_append] at g1 |-
    simp only [Az,g2,if_true,Vb,g1,hbx,Ae8,cond_false]
   ·rw [f4]
    have hbx:X3 ps t=true:=by unfold X3;rw [fp];rfl
    have hp:JA (vs.getD t undef)=b:=by simp [ACy,f1,JA]
    have hcells:La w b=cs.toList:=by unfold La;rw [f5]
    refine ⟨?_,fun _=>⟨⟨cs,ty,?_,?_⟩,?_⟩⟩
    ·simp only [hbx,cond_true,hp,hcells]
     cases hd:m.d t with
     | false=>
      rw [hd] at f7
      simp only [cond_false] at f7 |-
      exact f7.frame fun q b _ hb _=>⟨rfl,by simp only [Az,Nat.not_lt_zero,if_false];exact hUn b hb⟩
     | true=>
      rw [hd] at f7
      simp only [cond_true] at f7 |-
      refine f7.lmove (fun q b g2 g1 _ => ?_) (.inr fun q b hs _=>B6.2 (hUn b (Ej.1 hs)))
      simp only [List.nil_append,lvS,g2,if_true] at g1 |-
      simp only [Az,g2,if_true,Vb,g1,hbx,Ae8,cond_true]
    ·simp only [hp];exact f5
    ·simp only [hbx,cond_true,hp,hcells]
    ·simp only [hp,ACn,if_false,Vb,f6,hbx,Ae8,cond_true]
  ·have:=(e1 t (by omega)).2
   rw [this]
   trivial
 ·have key:∀b x,Vb ps ψ U w.heap.size b=some x->(∃z,ψ b=some z)\/(ψ b=none/\b<w.heap.size /\ ¬U b/\x=far):=by
   intro b x hx
   unfold Vb at hx
   split at hx
   ·rename_i i q hb
    exact .inl ⟨_,hb⟩
   ·rename_i hb
    split at hx
    ·rename_i hc
     exact .inr ⟨hb,hc.1,hc.2,(ACs hx).symm⟩
    ·cases hx
  refine ⟨fun b x hx => ?_,fun b x hx => ?_,fun b hb => ?_⟩
  ·rcases key b x hx with ⟨z,h1⟩ | ⟨_,_,_,h2⟩
   ·refine .inr ⟨fun hk => ?_,hψ b _ h1⟩
    rw [hk.2] at h1
    cases h1
   ·exact .inl h2
  ·rcases key b x hx with ⟨z,h1⟩ | ⟨_,h1,_,h2⟩
   ·exact (hψ b _ h1).lt
   ·exact h1
  ·simp only [Vb,hb.2.1]
   rw [if_pos ⟨hb.1,hb.2.2⟩]
end
end Go.V
namespace Go.V
section
variable {P:Program} {Γ:Ctx} {Kp:Keep} {B0:World} {n:Nat} {G:Gh} {s:Ab} {a:Act} {w w':World} {id:Nat} {o:Oper} {Q:Exit->Act->World->Prop} {ws:AA} {A:Nat->Option Value}
theorem ft {p:Prop} (h:false=true):p:=Bool.noConfusion h
theorem tf {p:Prop} (h:true=false):p:=Bool.noConfusion h
theorem ns {α:Type} {x:α} {p:Prop} (h:none=some x):p:=by cases h
theorem sn {α:Type} {x:α} {p:Prop} (h:some x=none):p:=by cases h
theorem Rh {u:List Nat} {r:Nat} (h:u.any (Nat.beq r)=false):r∉u:=by
 intro hm
 rw [List.any_eq_false] at h
 exact h r hm (Nat.beq_refl r)
def Ym (φ:Nat->Option (Bool×Nat×Ah)) (r:Nat) (bx:Bool):BM:=fun q b=>
 match bx,q with
 | false,q=>φ b=some (false,r,q)
 | true,[]=>φ b=some (true,r,[])
 | true,.i 0::q=>φ b=some (false,r,q)
 | true,_=>False
theorem Ays (g:GOk Kp G s a w) {m:Md}:∀{ps:List (Kd×Bool)} {i:Nat} {u:List Nat} {y:(Kd.tuple ((ps.filter (·.2)).map (·.1))).den} {u':List Nat},ioV m s i ps u=some (y,u') ->
  ∃L:List ((Nat×Bool)×Nat),(∀x∈L,i<=x.1.1)/\(L.Pairwise fun x y=>x.2≠y.2)/\(∀x∈L,x.2∉u)/\(∀r,r∈u'↔r∈u \/ ∃x∈L,x.2=r) /\
   ∀vs:List Value,vs.length=ps.length->(∀j v,Rr ps j=true->vs[j]? = some v->a.tmps.getD (i+j) undef=v) -> ∀(χ:Nat->Option Lab) (sh:Nat->Prop),(∀x∈L,∀q b,Ym G.φ x.2 x.1.2 q b->χ b=some (.io x.1.1 q))->(∀b,G.φ b=none->sh b)->S5 m w χ sh i ps vs y:=by
 intro ps
 induction ps with
 | nil=>
  intro i u y u' h
  simp only [ioV,ACp,Prod.mk.injEq] at h
  obtain ⟨_,rfl⟩:=h
  exact ⟨[],fun _ h=>by simp at h,List.Pairwise.nil,fun _ h=>by simp at h,fun r=>by simp,fun _ _ _ _ _ _ _=>trivial⟩
 | cons p ps ih=>
  intro i u y u' h
  obtain ⟨k,io⟩:=p
  cases io with
  | false=>
   have h:ioV m s (i+1) ps u=some (y,u'):=h
   obtain ⟨L,l1,l2,l3,l4,l5⟩:=ih h
   refine ⟨L,fun x hx=>by have:=l1 x hx;omega,l2,l3,l4,fun vs hlen hv χ sh hχ hsh => ?_⟩
   cases vs with
   | nil=>simp at hlen
   | cons v vs=>
    exact l5 vs (by simpa using hlen) (fun j v' hio hj=>by have:=hv (j+1) v' (by simpa [Rr] using hio) (by simpa using hj);rw [show i+1+j=i+(j+1) by omega];exact this) χ sh hχ hsh
  | true=>
   simp only [ioV] at h
   rcases Ae h with ⟨hgn,h⟩ | ⟨hgn,h⟩
   ·split at h
    ·rename_i z hz
     have h:=ACs h
     injection h with h0 h1
     subst h1
     obtain ⟨L,l1,l2,l3,l4,l5⟩:=ih (y:=z.1) (u':=z.2) hz
     refine ⟨L,fun x hx=>by have:=l1 x hx;omega,l2,l3,l4,fun vs hlen hv χ sh hχ hsh => ?_⟩
     cases vs with
     | nil=>simp at hlen
     | cons v vs=>
      have hrest:=l5 vs (by simpa using hlen) (fun j v' hio hj=>by have:=hv (j+1) v' (by simpa [Rr] using hio) (by simpa using hj);rw [show i+1+j=i+(j+1) by omega];exact this) χ sh hχ hsh
      show (m.g i=false -> ∃c,some v=some (Am k c)/\c.length=k.size/\IO w (fun q b=>χ b=some (.io i q)) sh (m.d i) k c y.1)/\S5 m w χ sh (i+1) ps vs y.2
      exact ⟨fun h=>(by rw [hgn] at h;cases h),by rw [<- h0];exact hrest⟩
    ·cases h
   split at h
   ·rename_i r p ver hs
    split at h
    ·rename_i k' d dep box frz ver' hr
     rcases Ae h with ⟨hc,h1⟩ | ⟨_,h1⟩
     ·simp only [ACo,List.isEmpty_iff,Bool.not_eq_true',decide_eq_true_eq] at hc
      obtain ⟨⟨⟨⟨⟨rfl,rfl⟩,hd⟩,hu⟩,hnb⟩,hns⟩:=hc
      have hu:=Rh hu
      split at h1
      ·rename_i x z hx hz
       have h2:=ACs h1
       have hk:=AX hx
       injection hk with e1 e2
       subst e1
       have e2:=eq_of_heq e2
       subst e2
       obtain ⟨L,l1,l2,l3,l4,l5⟩:=ih (y:=z.1) (u':=z.2) hz
       refine ⟨((i,false),r)::L,fun x hx => ?_,?_,fun x hx => ?_,fun r' => ?_,fun vs hlen hv χ sh hχ hsh => ?_⟩
       ·rcases List.mem_cons.1 hx with rfl | hx
        ·exact ACr _
        ·have:=l1 x hx;omega
       ·rw [List.pairwise_cons]
        exact ⟨fun x hx e=>l3 x hx (by rw [<- e];simp),l2⟩
       ·rcases List.mem_cons.1 hx with rfl | hx
        ·exact hu
        ·exact fun hm=>l3 x hx (by simp [hm])
       ·injection h2 with _ h2
        rw [<- h2,l4]
        simp only [List.mem_cons,exists_eq_or_imp]
        constructor
        ·rintro ((rfl | h) | h)
         ·exact .inr (.inl rfl)
         ·exact .inl h
         ·exact .inr (.inr h)
        ·rintro (h | rfl | h)
         ·exact .inl (.inr h)
         ·exact .inl (.inl rfl)
         ·exact .inr h
       ·cases vs with
        | nil=>simp at hlen
        | cons v vs=>
         have h3:y=(d,z.1):=by injection h2 with h2 _;exact h2.symm
         have hrest:=l5 vs (by simpa using hlen) (fun j v' hio hj=>by have:=hv (j+1) v' (by simpa [Rr] using hio) (by simpa using hj);rw [show i+1+j=i+(j+1) by omega];exact this) χ sh (fun x hx=>hχ x (by simp [hx])) hsh
         have hcell:=g.slots i
         rw [hs] at hcell
         simp only [At] at hcell
         rw [hr] at hcell
         obtain ⟨z',f1,f2,f3⟩:=hcell.2 (.inr (by simp [BX]))
         simp only [Al,ACp] at f1
         subst f1
         have hv0:=hv 0 v rfl rfl
         rw [Nat.add_zero] at hv0
         rw [hv0] at f3
         simp only [A2] at f3
         have hro:=g.roots r
         rw [hr] at hro
         show (m.g i=false -> ∃c,some v=some (Am k' c)/\c.length=k'.size/\IO w (fun q b=>χ b=some (.io i q)) sh (m.d i) k' c y.1)/\S5 m w χ sh (i+1) ps vs y.2
         refine ⟨fun _=>⟨G.C r,by rw [f3],hro.1.length,?_⟩,?_⟩
         ·rw [h3,IO.of hnb]
          refine hro.1.lmove (fun q b g2 g1 _ => ?_) (.inl hns)
          have:lev q<dep:=by omega
          simp only [List.nil_append,Az,this,if_true] at g1
          exact hχ ((i,false),r) (by simp) q b g1
         ·rw [h3];exact hrest
      ·cases h1
     ·cases h1
    ·cases h
   ·rename_i r hs
    split at h
    ·rename_i k' d dep ver' hr
     rcases Ae h with ⟨hc,h1⟩ | ⟨_,h1⟩
     ·simp only [ACo,Bool.not_eq_true',decide_eq_true_eq] at hc
      obtain ⟨⟨⟨hd,hu⟩,hnb⟩,hns⟩:=hc
      have hu:=Rh hu
      split at h1
      ·rename_i x z hx hz
       have h2:=ACs h1
       have hk:=AX hx
       injection hk with e1 e2
       subst e1
       have e2:=eq_of_heq e2
       subst e2
       obtain ⟨L,l1,l2,l3,l4,l5⟩:=ih (y:=z.1) (u':=z.2) hz
       refine ⟨((i,false),r)::L,fun x hx => ?_,?_,fun x hx => ?_,fun r' => ?_,fun vs hlen hv χ sh hχ hsh => ?_⟩
       ·rcases List.mem_cons.1 hx with rfl | hx
        ·exact ACr _
        ·have:=l1 x hx;omega
       ·rw [List.pairwise_cons]
        exact ⟨fun x hx e=>l3 x hx (by rw [<- e];simp),l2⟩
       ·rcases List.mem_cons.1 hx with rfl | hx
        ·exact hu
        ·exact fun hm=>l3 x hx (by simp [hm])
       ·injection h2 with _ h2
        rw [<- h2,l4]
        simp only [List.mem_cons,exists_eq_or_imp]
        constructor
        ·rintro ((rfl | h) | h)
         ·exact .inr (.inl rfl)
         ·exact .inl h
         ·exact .inr (.inr h)
        ·rintro (h | rfl | h)
         ·exact .inl (.inr h)
         ·exact .inl (.inl rfl)
         ·exact .inr h
       ·cases vs with
        | nil=>simp at hlen
        | cons v vs=>
         have h3:y=(d,z.1):=by injection h2 with h2 _;exact h2.symm
         have hrest:=l5 vs (by simpa using hlen) (fun j v' hio hj=>by have:=hv (j+1) v' (by simpa [Rr] using hio) (by simpa using hj);rw [show i+1+j=i+(j+1) by omega];exact this) χ sh (fun x hx=>hχ x (by simp [hx])) hsh
         have hcell:=g.slots i
         rw [hs] at hcell
         simp only [At] at hcell
         rw [hr] at hcell
         obtain ⟨_,_,f3⟩:=hcell
         have hv0:=hv 0 v rfl rfl
         rw [Nat.add_zero] at hv0
         rw [hv0] at f3
         have hro:=g.roots r
         rw [hr] at hro
         show (m.g i=false -> ∃c,some v=some (Am k' c)/\c.length=k'.size/\IO w (fun q b=>χ b=some (.io i q)) sh (m.d i) k' c y.1)/\S5 m w χ sh (i+1) ps vs y.2
         refine ⟨fun _=>⟨G.C r,by rw [f3],hro.1.length,?_⟩,?_⟩
         ·rw [h3,IO.of hnb]
          refine hro.1.lmove (fun q b g2 g1 _ => ?_) (.inl hns)
          have:lev q<dep:=by omega
          simp only [List.nil_append,Az,this,if_true] at g1
          exact hχ ((i,false),r) (by simp) q b g1
         ·rw [h3];exact hrest
      ·cases h1
     ·cases h1
    ·cases h
   ·rename_i r p ver hs
    split at h
    ·rename_i k' d dep ver' hr
     rcases Ae h with ⟨hc,h1⟩ | ⟨_,h1⟩
     ·simp only [ACo,List.isEmpty_iff,Bool.not_eq_true'] at hc
      obtain ⟨⟨rfl,hk0⟩,hu⟩:=hc
      have hu:=Rh hu
      split at h1
      ·rename_i x z hx hz
       have h2:=ACs h1
       have hk:=AX hx
       injection hk with e1 e2
       subst e1
       have e2:=eq_of_heq e2
       subst e2
       obtain ⟨L,l1,l2,l3,l4,l5⟩:=ih (y:=z.1) (u':=z.2) hz
       refine ⟨((i,true),r)::L,fun x hx => ?_,?_,fun x hx => ?_,fun r' => ?_,fun vs hlen hv χ sh hχ hsh => ?_⟩
       ·rcases List.mem_cons.1 hx with rfl | hx
        ·exact ACr _
        ·have:=l1 x hx;omega
       ·rw [List.pairwise_cons]
        exact ⟨fun x hx e=>l3 x hx (by rw [<- e];simp),l2⟩
       ·rcases List.mem_cons.1 hx with rfl | hx
        ·exact hu
        ·exact fun hm=>l3 x hx (by simp [hm])
       ·injection h2 with _ h2
        rw [<- h2,l4]
        simp only [List.mem_cons,exists_eq_or_imp]
        constructor
        ·rintro ((rfl | h) | h)
         ·exact .inr (.inl rfl)
         ·exact .inl h
         ·exact .inr (.inr h)
        ·rintro (h | rfl | h)
         ·exact .inl (.inr h)
         ·exact .inl (.inl rfl)
         ·exact .inr h
       ·cases vs with
        | nil=>simp at hlen
        | cons v vs=>
         have h3:y=(d,z.1):=by injection h2 with h2 _;exact h2.symm
         have hrest:=l5 vs (by simpa using hlen) (fun j v' hio hj=>by have:=hv (j+1) v' (by simpa [Rr] using hio) (by simpa using hj);rw [show i+1+j=i+(j+1) by omega];exact this) χ sh (fun x hx=>hχ x (by simp [hx])) hsh
         have hcell:=g.slots i
         rw [hs] at hcell
         have f3:=Gb g hcell hr
         have hv0:=hv 0 v rfl rfl
         rw [Nat.add_zero] at hv0
         rw [hv0] at f3
         have hro:=g.roots r
         rw [hr] at hro
         obtain ⟨⟨cs,ty,g1,g2⟩,g3⟩:=hro.2 rfl
         simp only [ACn,if_false] at g3
         show (m.g i=false -> ∃c,some v=some (Am (.bx k') c)/\c.length=(Kd.bx k').size/\IO w (fun q b=>χ b=some (.io i q)) sh (m.d i) (.bx k') c y.1)/\S5 m w χ sh (i+1) ps vs y.2
         refine ⟨fun _=>⟨[v],rfl,rfl,⟨G.β r,cs,ty,by rw [f3],g1,hχ ((i,true),r) (by simp) [] _ g3,?_⟩⟩,by rw [h3];exact hrest⟩
         rw [h3,g2]
         cases hdm:m.d i with
         | false=>
          rw [hdm] at hk0
          simp only [cond_false,Bool.or_eq_true] at hk0 |-
          rcases hk0 with hf | hd
          ·exact hro.1.flat w _ _ hf
          ·have hd:=ACt hd
           subst hd
           exact hro.1.frame fun q b _ hb _=>⟨rfl,hsh b (by simpa only [Az,Nat.not_lt_zero,if_false] using hb)⟩
         | true=>
          rw [hdm] at hk0
          simp only [cond_true,decide_eq_true_eq] at hk0 |-
          refine hro.1.lmove (fun q b j2 j1 _ => ?_) (.inr fun q b hs _=>Ej.2 (hsh b (B6.1 hs)))
          have:lev q<dep:=by omega
          simp only [List.nil_append,Az,this,if_true] at j1
          simp only [List.nil_append,lvS,j2,if_true]
          exact hχ ((i,true),r) (by simp) (.i 0::q) b j1
      ·cases h1
     ·cases h1
    ·cases h
   ·cases h
def PO (tmps:Array Value):ResultVar->Sem Value
 | .tmp t=>pure (tmps.getD t undef)
 | .cell a t=>do loadVar t (<- asAddr (tmps.getD a undef))
theorem Auq (hT:BZ P Γ.tk Γ.ar) (g:GOk Kp G s a w) {v:ResultVar} {x:V} {ro:Option (Nat×Nat×Bool)} {free:Bool} (h:Agx Γ s v=some (x,ro,free)) :
  ∃c,(PO a.tmps v).run P w=.ok (Am x.k c) w/\(free=true->Rep w noS x.k [] c x.d)/\(free=false->ro=none->Rep w (shS G.φ) x.k [] c x.d) /\
   (free=false -> ∀r dep bx,ro=some (r,dep,bx)->(∃T q,Rep w T x.k q c x.d /\ ∀q' b,T q' b->G.φ b=none\/(∃q,G.φ b=some (false,r,q))\/G.φ b=some (true,r,[]))/\(x.k.lev<=dep->Rep w (lvS x.k.lev (Ym G.φ r bx) fun b=>G.φ b=none) x.k [] c x.d)):=by
 cases v with
 | tmp t=>
  simp only [Agx] at h
  have hv:=g.slots t
  have hrd:∀v,a.tmps.getD t undef=v->(PO a.tmps (.tmp t)).run P w=.ok v w:=fun v h=>by subst h;rfl
  split at h
  ·rename_i k d hs
   simp only [ACp,Prod.mk.injEq] at h
   obtain ⟨rfl,rfl,rfl⟩:=h
   rw [hs] at hv
   obtain ⟨c,e1,e2⟩:=hv
   exact ⟨c,hrd _ e1,ft,fun _ _=>e2,fun _ r dep bx=>ns⟩
  ·rename_i k d hs
   simp only [ACp,Prod.mk.injEq] at h
   obtain ⟨rfl,rfl,rfl⟩:=h
   rw [hs] at hv
   obtain ⟨c,e1,e2⟩:=hv
   exact ⟨c,hrd _ e1,fun _=>e2,tf,tf⟩
  ·rename_i r p ver hs
   split at h
   ·rename_i k d dep box frz ver' hr
    rcases Ae h with ⟨hver,h1⟩ | ⟨_,h1⟩
    ·split at h1
     ·rename_i x' hg
      rcases Ae h1 with ⟨_,h1⟩ | ⟨_,h1⟩
      ·cases h1
      simp only [ACp,Prod.mk.injEq] at h1
      obtain ⟨rfl,rfl,rfl⟩:=h1
      rw [hs] at hv
      simp only [At] at hv
      rw [hr] at hv
      obtain ⟨z,e1,e2,e3⟩:=hv.2 (I3 hver)
      rw [hg] at e1
      have e1:=ACs e1
      subst e1
      have hro:=g.roots r
      rw [hr] at hro
      have hrep:=BD hro.1 e2 hg
      refine ⟨_,hrd _ e3,ft,fun _=>sn,fun _ r' dep' bx' he => ?_⟩
      simp only [ACp,Prod.mk.injEq] at he
      obtain ⟨rfl,rfl,rfl⟩:=he
      refine ⟨⟨_,_,hrep,fun q' b hb => ?_⟩,fun hl => ?_⟩
      ·rcases AG hb with ⟨_,hb⟩ | ⟨_,hb⟩
       ·exact .inr (.inl ⟨q',hb⟩)
       ·exact .inl hb
      ·rw [List.nil_append] at hrep
       refine hrep.lmove (fun q b f2 f1 _ => ?_) (.inr fun q b hs _=>Ej.2 (B6.1 hs))
       simp only [List.nil_append,lvS,f2,if_true]
       cases p with
       | nil=>
        simp only [List.isEmpty_nil,cond_true] at hl
        simp only [List.nil_append] at f1
        have:lev q<dep:=by omega
        simp only [Az,this,if_true] at f1
        exact f1
       | cons x' p=>
        simp only [List.isEmpty_cons,cond_false] at hl
        omega
     ·cases h1
    ·cases h1
   ·cases h
  ·rename_i r p ver hs
   split at h
   ·rename_i k d dep frz ver' hr
    rcases Ae h with ⟨hp,h1⟩ | ⟨_,h1⟩
    ·have hp:p=[]:=by simpa using hp
     subst hp
     simp only [ACp,Prod.mk.injEq] at h1
     obtain ⟨rfl,rfl,rfl⟩:=h1
     rw [hs] at hv
     have e3:=Gb g hv hr
     have hro:=g.roots r
     rw [hr] at hro
     obtain ⟨⟨cs,ty,g1,g2⟩,g3⟩:=hro.2 rfl
     have hlen:=hro.1.length
     have hsz:cs.size=k.size:=by rw [<- hlen,<- g2];simp
     have hcells:Ai w (G.β r) 0 k.size=G.C r:=by
      unfold Ai
      rw [g1]
      simp only [List.drop_zero,g2]
      exact List.take_of_length_le (by omega)
     have hbase:∀(S:BM),S [] (G.β r)->(∀q b,Az G.φ r dep q b->lev q<k.lev->S (.i 0::q) b)->(∀q b,G.φ b=none->CU S q b)->Rep w S (.bx k) [] [.pointer (some ⟨G.β r,0,none⟩)] d:=fun S s1 s2 s3=>by
      simp only [Rep]
      refine ⟨G.β r,0,rfl,s1,⟨cs,ty,_,g1,by omega⟩,?_⟩
      rw [hcells]
      exact hro.1.lmove (fun q b f2 f1 _=>s2 q b f1 f2) (.inr fun q b hs _=>s3 _ b (B6.1 hs))
     refine ⟨[.pointer (some ⟨G.β r,0,none⟩)],hrd _ e3,ft,fun _=>sn,fun _ r' dep' bx' he => ?_⟩
     simp only [ACp,Prod.mk.injEq] at he
     obtain ⟨rfl,rfl,rfl⟩:=he
     refine ⟨⟨fun _ b=>G.φ b=none\/(∃q,G.φ b=some (false,r,q))\/G.φ b=some (true,r,[]),[],hbase _ ?_ (fun q b hb _ => ?_) (fun q b h=>CU.flat_.2 (.inl h)),fun _ _ h=>h⟩,fun hl=>hbase _ ?_ (fun q b hb hq => ?_) (fun q b h=>Ej.2 h)⟩
     ·cases frz with
      | true=>simp only [if_true] at g3;exact .inl g3
      | false=>simp only [ACn,if_false] at g3;exact .inr (.inr g3)
     ·rcases AG hb with ⟨_,hb⟩ | ⟨_,hb⟩
      ·exact .inr (.inl ⟨q,hb⟩)
      ·exact .inl hb
     ·have h0:lev []<(Kd.bx k).lev:=by simp only [lev,Kd.lev];omega
      simp only [lvS,h0,if_true]
      cases frz with
      | true=>simp only [cond_true,Kd.lev] at hl;omega
      | false=>simp only [ACn,if_false] at g3;exact g3
     ·have h0:lev (.i 0::q)<(Kd.bx k).lev:=by simp only [lev,Kd.lev];omega
      simp only [lvS,h0,if_true]
      cases frz with
      | true=>simp only [cond_true,Kd.lev] at hl;omega
      | false=>
       simp only [cond_false,Kd.lev] at hl
       have:lev q<dep:=by omega
       simp only [Az,this,if_true] at hb
       exact hb
    ·cases h1
   ·cases h
  ·rename_i k d hs
   simp only [ACp,Prod.mk.injEq] at h
   obtain ⟨rfl,rfl,rfl⟩:=h
   rw [hs] at hv
   obtain ⟨B,O,e1,e2,e3,e4⟩:=hv
   exact ⟨[.pointer (some ⟨B,O,none⟩)],hrd _ e1,ft,fun _ _=>⟨B,O,rfl,e2,e3,e4.move fun p b hb _=>hb⟩,fun _ r dep bx=>ns⟩
  ·cases h
 | cell a0 t=>
  simp only [Agx] at h
  have hv:=g.slots a0
  split at h
  ·rename_i r p ver hs
   split at h
   ·rename_i k d dep frz ver' hr
    rcases Ae h with ⟨hver,h1⟩ | ⟨_,h1⟩
    ·simp only [ACo,List.isEmpty_iff,decide_eq_true_eq] at hver
     obtain ⟨⟨rfl,ht⟩,_⟩:=hver
     simp only [ACp,Prod.mk.injEq] at h1
     obtain ⟨rfl,rfl,rfl⟩:=h1
     rw [hs] at hv
     obtain ⟨y,B,O,e1,e2,e3,e4,e5,e6,e7,hro⟩:=Gi g hv hr (by simp [BX])
     simp only [Al,ACp] at e1
     subst e1
     refine ⟨Ai w B O k.size,?_,ft,fun _=>sn,fun _ r' dep' bx' he => ?_⟩
     ·simp [PO,e4,asAddr,PD hT ht e6]
     ·simp only [ACp,Prod.mk.injEq] at he
      obtain ⟨rfl,rfl,rfl⟩:=he
      refine ⟨⟨_,_,e7,fun q' b hb => ?_⟩,fun hl => ?_⟩
      ·rcases AG hb with ⟨_,hb⟩ | ⟨_,hb⟩
       ·exact .inr (.inl ⟨q',hb⟩)
       ·exact .inl hb
      ·refine e7.lmove (fun q b f2 f1 _ => ?_) (.inr fun q b hs _=>Ej.2 (B6.1 hs))
       simp only [List.nil_append,lvS,f2,if_true]
       have:lev q<dep:=by simp only at hl f2;omega
       simp only [List.nil_append,Az,this,if_true] at f1
       exact f1
    ·cases h1
   ·cases h
  ·cases h
theorem Auc (hT:BZ P Γ.tk Γ.ar) (g:GOk Kp G s a w) {own:Bool}:∀{rs:List Kd} {vs:List ResultVar} {u:List Nat} {x:(Kd.tuple rs).den},Sb Γ own s rs vs u=some x -> ∀pre:Ah,
  ∃(L:List ((Ah×Bool)×Nat)) (vals:List Value) (c:List Value),(L.Pairwise fun x y=>x.2≠y.2)/\(∀x∈L,x.2∉u)/\(vs.mapM (PO a.tmps)).run P w=.ok vals w/\vals=K3 rs c/\vals.length=rs.length/\c.length=(Kd.tuple rs).size /\
   ∀S:BM,(own=true->(∀x∈L,∀q b,lev (x.1.1++q)<lev pre+(Kd.tuple rs).lev->Ym G.φ x.2 x.1.2 q b->S (x.1.1++q) b) /\ ∀q b,G.φ b=none->CU S q b)->(own=false -> ∀q b,(G.φ b=none \/ ∃r,r∉u/\((∃q,G.φ b=some (false,r,q))\/G.φ b=some (true,r,[])))->S q b)->Rep w S (Kd.tuple rs) pre c x:=by
 intro rs
 induction rs with
 | nil=>
  intro vs u x h pre
  cases vs with
  | nil=>exact ⟨[],[],[],List.Pairwise.nil,fun _ h=>by simp at h,by simp,rfl,rfl,rfl,fun S _ _=>rfl⟩
  | cons _ _=>simp [Sb] at h
 | cons k ks ih=>
  intro vs u x h pre
  cases vs with
  | nil=>simp [Sb] at h
  | cons v vs=>
   simp only [Sb] at h
   split at h
   ·cases h
   ·rename_i y hy
    split at h
    ·cases h
    ·rename_i u' ht
     split at h
     ·rename_i y1 z hc hz
      have h:=ACs h
      subst h
      have hk:=AX hc
      obtain ⟨y0,ro,free⟩:=y
      simp only at hk ht hc
      subst hk
      obtain ⟨c1,r1,r2,r3,r4⟩:=Auq hT g hy
      simp only at r1 r2 r3 r4
      obtain ⟨L,vals,c,l1,l2,l3,l4,l5,l6,l7⟩:=ih hz (pre++[.r])
      have hlen:c1.length=k.size:=by
       cases free with
       | true=>exact (r2 rfl).length
       | false=>
        cases ro with
        | none=>exact (r3 rfl rfl).length
        | some z=>exact ((r4 rfl z.1 z.2.1 z.2.2 rfl).1).elim fun T hh=>hh.elim fun q hh=>hh.1.length
      -- the first one by its new owners
      have hhead:∃L0:List ((Ah×Bool)×Nat),(∀x∈L0,x.2∉u/\x.2∈u')/\L0.length<=1/\(∀r,r∉u'->r∉u) /\
        ∀S:BM,(own=true->(∀x∈L0,∀q b,lev (x.1.1++q)<lev pre+(Kd.tuple (k::ks)).lev->Ym G.φ x.2 x.1.2 q b->S (x.1.1++q) b) /\ ∀q b,G.φ b=none->CU S q b)->(own=false -> ∀q b,(G.φ b=none \/ ∃r,r∉u/\((∃q,G.φ b=some (false,r,q))\/G.φ b=some (true,r,[])))->S q b)->Rep w S k (pre++[.l]) c1 y1:=by
       have flatc:k.flat=true -> ∃T q,Rep w T k q c1 y1->True:=fun _=>⟨noS,[],fun _=>trivial⟩
       have anyRep:∃T q,Rep w T k q c1 y1:=by
        cases free with
        | true=>exact ⟨_,_,r2 rfl⟩
        | false=>
         cases ro with
         | none=>exact ⟨_,_,r3 rfl rfl⟩
         | some z=>obtain ⟨T,q,hh,_⟩:=(r4 rfl z.1 z.2.1 z.2.2 rfl).1;exact ⟨T,q,hh⟩
       unfold Ad8 at ht
       rcases Ae ht with ⟨hf,hu⟩ | ⟨hf,hu⟩
       ·have hu:=ACs hu
        subst hu
        refine ⟨[],fun _ h=>by simp at h,by simp,fun _ h=>h,fun S _ _ => ?_⟩
        simp only [Bool.or_eq_true] at hf
        rcases hf with hf | hf
        ·obtain ⟨T,q,hh⟩:=anyRep
         exact hh.flat w _ _ hf
        ·subst hf
         exact (r2 rfl).move fun p b hb _=>hb.elim
       ·simp only [Bool.or_eq_false_iff] at hf
        obtain ⟨_,rfl⟩:=hf
        cases ro with
        | none=>
         simp only at hu
         rcases Ae hu with ⟨_,hu⟩ | ⟨ho,hu⟩
         ·cases hu
         ·have hu:=ACs hu
          subst hu
          exact ⟨[],fun _ h=>by simp at h,by simp,fun _ h=>h,fun S _ hS=>(r3 rfl rfl).move fun p b hb _=>hS ho _ b (.inl hb)⟩
        | some z=>
         obtain ⟨r,dep,bx⟩:=z
         simp only at hu
         rcases Ae hu with ⟨_,hu⟩ | ⟨hnu,hu⟩
         ·cases hu
         ·have hnu:=Rh hnu
          rcases Ae hu with ⟨ho,hu⟩ | ⟨ho,hu⟩
          ·rcases Ae hu with ⟨hl,hu⟩ | ⟨_,hu⟩
           ·have hu:=ACs hu
            subst hu
            have hl:=of_decide_eq_true hl
            refine ⟨[((pre++[.l],bx),r)],fun x hx => ?_,by simp,fun r' h=>fun hm=>h (by simp [hm]),fun S hS _ => ?_⟩
            ·simp only [List.mem_singleton] at hx
             subst hx
             exact ⟨hnu,by simp⟩
            ·refine ((r4 rfl r dep bx rfl).2 hl).lmove (fun p b f2 hb _ => ?_) (.inr fun p b hs _=>(hS ho).2 _ b (Ej.1 hs))
             simp only [List.nil_append,lvS,f2,if_true] at hb
             exact (hS ho).1 ((pre++[St.l],bx),r) (by simp) p b (by rw [A3,A3];simp only [lev,Kd.tuple,Kd.lev];omega) hb
           ·cases hu
          ·have hu:=ACs hu
           subst hu
           refine ⟨[],fun _ h=>by simp at h,by simp,fun _ h=>h,fun S _ hS => ?_⟩
           obtain ⟨T,q,hh,hT'⟩:=(r4 rfl r dep bx rfl).1
           refine hh.move fun p b hb _=>hS ho _ b ?_
           rcases hT' _ b hb with h | h
           ·exact .inl h
           ·exact .inr ⟨r,hnu,h⟩
      obtain ⟨L0,m1,m2,m3,m4⟩:=hhead
      refine ⟨L0++L,Am k c1::vals,c1++c,?_,fun x hx => ?_,?_,?_,by simp [l5],by simp [Kd.tuple,Kd.size,hlen,l6],fun S hS1 hS2 => ?_⟩
      ·rw [List.pairwise_append]
       refine ⟨?_,l1,fun x hx y hy e=>l2 y hy (e▸(m1 x hx).2)⟩
       match L0,m2 with
       | [],_=>exact List.Pairwise.nil
       | [x],_=>exact List.pairwise_singleton _ _
      ·rcases List.mem_append.1 hx with hx | hx
       ·exact (m1 x hx).1
       ·exact m3 _ (l2 x hx)
      ·rw [List.mapM_cons]
       simp [r1,l3]
      ·simp only [K3,l4]
       rw [List.take_append_of_le_length (by omega),List.take_of_length_le (by omega),List.drop_append_of_le_length (by omega),ACu (by omega)]
       rfl
      ·simp only [Kd.tuple,Rep]
       rw [List.take_append_of_le_length (by omega),List.take_of_length_le (by omega),List.drop_append_of_le_length (by omega),ACu (by omega)]
       refine ⟨m4 S (fun ho=>⟨fun x hx=>(hS1 ho).1 x (by simp [hx]),(hS1 ho).2⟩) hS2,?_⟩
       exact l7 S (fun ho=>⟨fun x hx q b hq=>(hS1 ho).1 x (by simp [hx]) q b (by have e:lev (pre++[St.r])=lev pre:=by { rw [A3];rfl };rw [e] at hq;simp only [Kd.tuple,Kd.lev];omega),(hS1 ho).2⟩) (fun ho q b hb=>hS2 ho q b (hb.imp _root_.id fun ⟨r,h1,h2⟩=>⟨r,m3 r h1,h2⟩))
     ·cases h
theorem Adi (g:GOk Kp G s a w) {k:Kd} {vs:List ResultVar} {u:List Nat} {x:(Kd.tuple [.bx k]).den} (h:Sb Γ true s [.bx k] vs u=some x) :
  ∃t b cs ty,vs=[.tmp t]/\a.tmps.getD t undef=.pointer (some ⟨b,0,none⟩)/\w.heap[b]? = some (.cells cs ty (0,0))/\cs.size=k.size:=by
 cases vs with
 | nil=>simp [Sb] at h
 | cons v vs=>
  simp only [Sb] at h
  split at h
  ·cases h
  ·rename_i y hy
   split at h
   ·cases h
   ·rename_i u' ht
    split at h
    ·rename_i y1 z hc hz
     have hvs:vs=[]:=by cases vs<;>simp [Sb] at hz;rfl
     subst hvs
     have hk:=AX hc
     obtain ⟨y0,ro,free⟩:=y
     simp only at hk ht
     subst hk
     cases v with
     | cell a0 t=>
      simp only [Agx] at hy
      split at hy
      ·split at hy
       ·rcases Ae hy with ⟨hver,h1⟩ | ⟨_,h1⟩
        ·simp only [ACp,Prod.mk.injEq] at h1
         obtain ⟨h1,_⟩:=h1
         injection h1 with h1 _
         rw [h1] at hver
         simp [Kd.isBx] at hver
        ·cases h1
       ·cases hy
      ·cases hy
     | tmp t=>
      simp only [Agx] at hy
      have hv:=g.slots t
      split at hy
      ·simp only [ACp,Prod.mk.injEq] at hy
       obtain ⟨_,rfl,rfl⟩:=hy
       simp [Ad8,Kd.flat] at ht
      ·rename_i k' d hs
       simp only [ACp,Prod.mk.injEq] at hy
       obtain ⟨h1,_⟩:=hy
       injection h1 with h1 _
       rw [hs] at hv
       subst h1
       obtain ⟨c,_,b,off,_,hb,_⟩:=hv
       exact hb.elim
      ·split at hy
       ·rcases Ae hy with ⟨_,h1⟩ | ⟨_,h1⟩
        ·split at h1
         ·rename_i x' hx'
          rcases Ae h1 with ⟨_,h1⟩ | ⟨hb,h1⟩
          ·cases h1
          ·simp only [ACp,Prod.mk.injEq] at h1
           obtain ⟨h1,_⟩:=h1
           rw [h1] at hb
           simp [Kd.isBx] at hb
         ·cases h1
        ·cases h1
       ·cases hy
      ·rename_i r p ver hs
       split at hy
       ·rename_i k' d dep frz ver' hr
        rcases Ae hy with ⟨hp,h1⟩ | ⟨_,h1⟩
        ·have hp:p=[]:=by simpa using hp
         subst hp
         simp only [ACp,Prod.mk.injEq] at h1
         obtain ⟨h1,_,_⟩:=h1
         injection h1 with h1 _
         injection h1 with h1
         subst h1
         rw [hs] at hv
         have hro:=g.roots r
         rw [hr] at hro
         obtain ⟨⟨cs,ty,g1,g2⟩,_⟩:=hro.2 rfl
         exact ⟨t,G.β r,cs,ty,rfl,Gb g hv hr,g1,by rw [<- hro.1.length,<- g2];simp⟩
        ·cases h1
       ·cases hy
      ·simp only [ACp,Prod.mk.injEq] at hy
       obtain ⟨_,rfl,rfl⟩:=hy
       simp [Ad8,Kd.flat] at ht
      ·cases hy
    ·cases h
end
end Go.V
namespace Go.V
theorem Yi:∀{a b:List Kd} (x:(Kd.tuple a).den) (y:(Kd.tuple b).den),EV a b (Ta a b x y)=(x,y):=by
 intro a
 induction a with
 | nil=>intro b x y;rfl
 | cons k a ih=>
  intro b x y
  have h:=ih x.2 y
  have e:EV (k::a) b (Ta (k::a) b x y)=((x.1,(EV a b (Ta a b x.2 y)).1),(EV a b (Ta a b x.2 y)).2):=rfl
  rw [e,h]
  rfl
def HQ (φ:Nat->Option (Bool×Nat×Ah)) (Li:List ((Nat×Bool)×Nat)) (Lr:List ((Ah×Bool)×Nat)) (own:Bool):Nat->Option Lab:=fun b=>
 match φ b with
 | some (f,r,q)=>
  bif !f||q.isEmpty then
  match Li.find? (fun x=>Nat.beq x.2 r) with
  | some x=>match x.1.2,f with
   | false,false=>some (.io x.1.1 q)
   | true,true=>some (.io x.1.1 [])
   | true,false=>some (.io x.1.1 (.i 0::q))
   | false,true=>none
  | none=>if own=true then match Lr.find? (fun x=>Nat.beq x.2 r) with
   | some x=>match x.1.2,f with
    | false,false=>some (.res (x.1.1++q))
    | true,true=>some (.res x.1.1)
    | true,false=>some (.res (x.1.1++.i 0::q))
    | false,true=>none
   | none=>none
   else none
  else none
 | none=>none
theorem Ad2 {α:Type}:∀{L:List (α×Nat)},(L.Pairwise fun x y=>x.2≠y.2) -> ∀x∈L,L.find? (fun y=>Nat.beq y.2 x.2)=some x:=by
 intro L
 induction L with
 | nil=>intro _ x h;simp at h
 | cons y L ih=>
  intro hp x hx
  rw [List.pairwise_cons] at hp
  rcases List.mem_cons.1 hx with rfl | hx
  ·simp
  ·have:Nat.beq y.2 x.2=false:=by
    cases hb:Nat.beq y.2 x.2 with
    | false=>rfl
    | true=>exact absurd (ACt hb) (hp.1 x hx)
   rw [List.find?_cons,this]
   exact ih hp.2 x hx
theorem XX {α:Type} {L:List (α×Nat)} {r:Nat} (h:∀x∈L,x.2≠r):L.find? (fun y=>Nat.beq y.2 r)=none:=by
 rw [List.find?_eq_none]
 intro x hx hb
 exact h x hx (ACt hb)
section
variable {P:Program} {Γ:Ctx} {Kp:Keep} {B0:World} {n:Nat} {G:Gh} {s:Ab} {a:Act} {w w':World} {id:Nat} {o:Oper} {Q:Exit->Act->World->Prop} {ws:AA} {A:Nat->Option Value}
theorem RR {fn:Func} {tmps:Array Value} {vals:List Value} (h:(fn.results.toList.mapM (PO tmps)).run P w=.ok vals w) :
  (results fn tmps).run P w=.ok (if h:vals.toArray.size=1 then vals.toArray[0] else .tuple vals.toArray) w:=by
 have e:results fn tmps=(do
  let vs<-fn.results.mapM (PO tmps)
  pure (if h:vs.size=1 then vs[0] else .tuple vs)):=by
  unfold results
  congr 1
 rw [e,Array.mapM_eq_mapM_toList]
 simp [h]
theorem Aoq (E : Env P Γ) (hm : P.follows .mixedOrders = true) {f : FuncId} {fn : Func} {body : Code} (hf : P.funcs[f]? = some fn) (hb : fn.body = some body) (hname : (fn.name == "runtime.NumGoroutine") = false)
  {ps:List (Kd×Bool)} {rs:List Kd} {own:Bool} {F:(Kd.tuple (ps.map (·.1))).den->Option (Kd.tuple (rs++(ps.filter (·.2)).map (·.1))).den} (hn:ps.length<=fn.ntmps) {q:Nat->Bool} (hq:∀d,q d=true->Rr ps d=false/\d<fn.ntmps) (hd:EO q body=true)
  {Pc:Nat->Option Piece} (hP:∀A:Nat->Option Value,(∀d,q d=true->d<fn.ntmps/\A d=none) -> ∀id b o,(id,b)∈BL body->Pc id=some o->o.ok/\IG P fn.ntmps A (.block id b) o)
  (hF:∀d r,F d=some r->fnR Γ Pc own ps rs fn.results.toList body d=some r) (hfr:Γ.md.fr=false):AR P f (⟨ps,rs,own,F⟩,Γ.md):=by
 have hfrU:∀U,frU Γ.md U=U:=fun U=>by unfold frU;rw [hfr];rfl
 intro w ψ U vs d out hargs hU hψ hgl hout
 simp only at hargs d out hout
 have hlen:=hargs.length
 have hrun:=hF d out hout
 simp only [hfrU]
 have hcall:(callFunc f vs.toArray).run P w=.ok (.enter f vs.toArray) w:=by
  simp only [beq_eq_false_iff_ne,ne_eq] at hname
  simp [callFunc,hf,hb,hname]
 unfold BJ
 rw [hcall]
 simp only
 have hA:∀d,q d=true->d<fn.ntmps/\inA ps vs d=none:=fun d hd=>⟨(hq d hd).2,by unfold inA;rw [(hq d hd).1];rfl⟩
 refine calls_of_wp hf hb ?_
 have hstart:=Apf (n:=fn.ntmps) hargs hU hψ hgl hn
 unfold fnR at hrun
 refine Awt E hm hA body hd (hP _ hA) hstart hrun fun e clk' s' a' w' hi' hk => ?_
 have hend:∀(hk:(match ioV Γ.md s' 0 ps [] with
   | some y=>match Sb Γ own s' rs fn.results.toList y.2 with
    | some x=>some (Ta rs _ x y.1)
    | none=>none
   | none=>none)=some out),a'.defers=[] /\ ∃v,(results fn a'.tmps).run P w'=.ok v w' /\ ∃χ,PostG Γ.md true ⟨ps,rs,own,F⟩ ψ U vs w out χ v w':=by
  intro hk
  split at hk
  ·rename_i y hy
   split at hk
   ·rename_i x hx
    have hk:=ACs hk
    obtain ⟨G,g⟩:=hi'.inv.ghost
    obtain ⟨Li,i1,i2,i3,i4,i5⟩:=Ays g (y:=y.1) (u':=y.2) hy
    obtain ⟨Lr,vals,c,r1,r2,r3,r4,r5,r6,r7⟩:=Auc E.tab g hx []
    refine ⟨hi'.inv.defers,_,RR r3,HQ G.φ Li Lr own,?_⟩
    have hχio:∀x∈Li,∀q b,Ym G.φ x.2 x.1.2 q b->HQ G.φ Li Lr own b=some (.io x.1.1 q):=fun x hx q b hb=>by
     have key:∀f q',G.φ b=some (f,x.2,q')->(!f||q'.isEmpty)=true->HQ G.φ Li Lr own b=match x.1.2,f with
       | false,false=>some (.io x.1.1 q')
       | true,true=>some (.io x.1.1 [])
       | true,false=>some (.io x.1.1 (.i 0::q'))
       | false,true=>none:=fun f q' hb e=>by
      unfold HQ
      rw [hb]
      simp only [e,cond_true,Ad2 i2 x hx]
     unfold Ym at hb
     split at hb
     ·rename_i hbx
      rw [key _ _ hb rfl,hbx]
     ·rename_i hbx
      rw [key _ _ hb rfl,hbx]
     ·rename_i hbx
      rw [key _ _ hb rfl,hbx]
     ·exact hb.elim
    have hdis:∀x∈Lr,∀z∈Li,z.2≠x.2:=fun x hx z hz e=>r2 x hx ((i4 x.2).2 (.inr ⟨z,hz,e⟩))
    have hχres:own=true -> ∀x∈Lr,∀q b,Ym G.φ x.2 x.1.2 q b->HQ G.φ Li Lr own b=some (.res (x.1.1++q)):=fun ho x hx q b hb=>by
     have key:∀f q',G.φ b=some (f,x.2,q')->(!f||q'.isEmpty)=true->HQ G.φ Li Lr own b=match x.1.2,f with
       | false,false=>some (.res (x.1.1++q'))
       | true,true=>some (.res x.1.1)
       | true,false=>some (.res (x.1.1++.i 0::q'))
       | false,true=>none:=fun f q' hb e=>by
      unfold HQ
      rw [hb]
      simp only [e,cond_true,XX (hdis x hx),ho,if_true,Ad2 r1 x hx]
     unfold Ym at hb
     split at hb
     ·rename_i hbx
      rw [key _ _ hb rfl,hbx]
     ·rename_i hbx
      rw [key _ _ hb rfl,hbx,List.append_nil]
     ·rename_i hbx
      rw [key _ _ hb rfl,hbx]
     ·exact hb.elim
    have hX:∀b,G.φ b≠some far->U b\/w.heap.size<=b\/ψ b≠none:=fun b hne=>by
     by_cases hlt:b<w.heap.size
     ·by_cases hz:ψ b=none
      ·left
       apply Classical.byContradiction
       intro hu
       exact hne (g.col.out b ⟨hlt,hz,hu⟩)
      ·exact .inr (.inr hz)
     ·exact .inr (.inl (by omega))
    have hbase:=hi'.inv.base
    have hsplit:EV rs ((ps.filter (·.2)).map (·.1)) out=(x,y.1):=by rw [<- hk];exact Yi x y.1
    refine ⟨hbase.os,hbase.tape,hbase.output,hbase.size,fun b hlt hz=>hbase.kept b ⟨hlt,hz⟩,fun b z hz => ?_,⟨c,?_,?_⟩,?_,fun _ ho k hk => ?_⟩
    ·have:∃f r q,G.φ b=some (f,r,q)/\(f=false\/q=[]):=by
      unfold HQ at hz
      split at hz
      ·rename_i f r q hb
       rcases Ae hz with ⟨hc,_⟩ | ⟨_,hz⟩
       ·refine ⟨f,r,q,hb,?_⟩
        simpa using hc
       ·cases hz
      ·cases hz
     obtain ⟨f,r,q,hb,hf⟩:=this
     obtain ⟨k1,k2⟩:=g.mine hb hf
     refine ⟨?_,k2⟩
     by_cases hlt:b<w.heap.size
     ·right;intro hz2;exact k1 ⟨hlt,hz2⟩
     ·left;omega
    ·simp only
     match rs,c,r4,r5,r6 with
     | [],_,_,_,_=>trivial
     | [k],c,r4,r5,r6=>
      subst r4
      simp [S9,K3]
     | k::k'::ks,c,r4,r5,r6=>
      subst r4
      simp [S9,K3]
    ·simp only
     rw [hsplit]
     simp only
     refine r7 _ (fun ho=>⟨fun z hz q b hl hb => ?_,fun q b hb => ?_⟩) (fun ho q b hb => ?_)
     ·have:=hχres ho z hz q b hb
      have hl:lev (z.1.1++q)<(Kd.tuple rs).lev:=by simpa [lev] using hl
      simp only [ho,cond_true,lvS,hl,if_true] at this |-
      exact this
     ·simp only [ho,cond_true]
      exact Ej.2 ⟨by unfold HQ;rw [hb],hX b (by rw [hb];simp)⟩
     ·rw [ho]
      simp only [cond_false]
      rcases hb with hb | ⟨r,hr,hb⟩
      ·refine ⟨by unfold HQ;rw [hb],hX b (by rw [hb];simp)⟩
      ·have hno:∀f q,G.φ b=some (f,r,q)->HQ G.φ Li Lr own b=none:=fun f q hb=>by
        unfold HQ
        rw [hb]
        simp only [XX fun z hz e=>hr ((i4 r).2 (.inr ⟨z,hz,e⟩)),ho,ACn,if_false]
        cases (!f||q.isEmpty)<;>rfl
       rcases hb with ⟨q',hb⟩ | hb
       ·have:=hno _ _ hb;rw [ho] at this;exact ⟨this,hX b (by rw [hb];simp [far])⟩
       ·have:=hno _ _ hb;rw [ho] at this;exact ⟨this,hX b (by rw [hb];simp [far])⟩
    ·simp only
     rw [hsplit]
     simp only
     refine i5 vs hlen (fun j v hio hj => ?_) _ _ hχio (fun b hb=>⟨by unfold HQ;rw [hb],hX b (by rw [hb];simp)⟩)
     rw [Nat.zero_add]
     exact hi'.pin j v (by unfold inA;rw [hio];exact hj)
    ·simp only at ho hk
     subst hk ho
     obtain ⟨t,b,cs,ty,e1,e2,e3,e4⟩:=Adi g hx
     rw [e1] at r3
     have e5:vals=[a'.tmps.getD t undef]:=by
      have:(([ResultVar.tmp t]).mapM (PO a'.tmps)).run P w'=.ok [a'.tmps.getD t undef] w':=by simp [PO]
      rw [this] at r3
      injection r3 with r3 _
      exact r3.symm
     refine ⟨b,cs,ty,?_,e3,e4⟩
     subst e5
     simp [e2]
   ·cases hk
  ·cases hk
 cases e with
 | normal=>
  obtain ⟨h1,v,h2,h3⟩:=hend hk
  exact ⟨h1,v,h2,h3⟩
 | ret=>
  obtain ⟨h1,v,h2,h3⟩:=hend hk
  exact ⟨h1,v,h2,h3⟩
 | exit j=>cases hk
 | goto l=>cases hk
theorem ABl (E : Env P Γ) (hmd : Γ.md = md0) (hm : P.follows .mixedOrders = true) {f : FuncId} {fn : Func} {body : Code} (hf : P.funcs[f]? = some fn) (hb : fn.body = some body) (hname : (fn.name == "runtime.NumGoroutine") = false)
  {ps:List (Kd×Bool)} {rs:List Kd} {own:Bool} {F:(Kd.tuple (ps.map (·.1))).den->Option (Kd.tuple (rs++(ps.filter (·.2)).map (·.1))).den} (hn:ps.length<=fn.ntmps) {q:Nat->Bool} (hq:∀d,q d=true->Rr ps d=false/\d<fn.ntmps) (hd:EO q body=true)
  {Pc:Nat->Option Piece} (hP:∀A:Nat->Option Value,(∀d,q d=true->d<fn.ntmps/\A d=none) -> ∀id b o,(id,b)∈BL body->Pc id=some o->o.ok/\IG P fn.ntmps A (.block id b) o)
  (hF:∀d r,F d=some r->fnR Γ Pc own ps rs fn.results.toList body d=some r):Aa P f ⟨ps,rs,own,F⟩:=AR.plain (by rw [<- hmd];exact Aoq E hm hf hb hname hn hq hd hP hF (by rw [hmd];rfl))
theorem AR.less {f:FuncId} {m:Md} {ps:List (Kd×Bool)} {rs:List Kd} {own:Bool} {F:(Kd.tuple (ps.map (·.1))).den->Option (Kd.tuple (rs++(ps.filter (·.2)).map (·.1))).den} {ι:Type} (Fn:ι->(Kd.tuple (ps.map (·.1))).den->Option (Kd.tuple (rs++(ps.filter (·.2)).map (·.1))).den)
  (h:∀i,AR P f (⟨ps,rs,own,Fn i⟩,m)) (hF:∀d r,F d=some r -> ∃i,Fn i d=some r):AR P f (⟨ps,rs,own,F⟩,m):=by
 intro w ψ U vs d out hargs hU hψ hgl hout
 obtain ⟨i,hi⟩:=hF d out hout
 exact (h i w ψ U vs d out hargs hU hψ hgl hi).mono fun v w' ⟨χ,p⟩=>⟨χ,p.os,p.tape,p.output,p.size,p.kept,p.col,p.res,p.io,p.whole⟩
theorem Aa.less {f:FuncId} {ps:List (Kd×Bool)} {rs:List Kd} {own:Bool} {F:(Kd.tuple (ps.map (·.1))).den->Option (Kd.tuple (rs++(ps.filter (·.2)).map (·.1))).den} {ι:Type} (Fn:ι->(Kd.tuple (ps.map (·.1))).den->Option (Kd.tuple (rs++(ps.filter (·.2)).map (·.1))).den)
  (h:∀i,Aa P f ⟨ps,rs,own,Fn i⟩) (hF:∀d r,F d=some r -> ∃i,Fn i d=some r):Aa P f ⟨ps,rs,own,F⟩:=by
 intro w ψ U vs d out hargs hU hψ hgl hout
 obtain ⟨i,hi⟩:=hF d out hout
 have:=h i w ψ U vs d out hargs hU hψ hgl hi
 unfold BJ at this |-
 cases hr:(callFunc f vs.toArray).run P w with
 | ok x w1=>
  rw [hr] at this
  cases x with
  | value v=>obtain ⟨χ,p⟩:=this;exact ⟨χ,p.os,p.tape,p.output,p.size,p.kept,p.col,p.res,p.io⟩
  | enter f' args'=>
   refine Calls.mono this fun e w'' he => ?_
   cases e with
   | returned v=>obtain ⟨χ,p⟩:=he;exact ⟨χ,p.os,p.tape,p.output,p.size,p.kept,p.col,p.res,p.io⟩
   | panicked chain=>exact he.elim
   | outgrown=>exact he.elim
  | row row args'=>exact Rows.mono this fun v w'' ⟨χ,p⟩=>⟨χ,p.os,p.tape,p.output,p.size,p.kept,p.col,p.res,p.io⟩
  | _=>exact this.elim
 | halt x w1=>rw [hr] at this;exact this.elim
end
end Go.V
namespace Go.V
def Ad {α:Type}:List (Nat×α)->Nat->Option α
 | [],_=>none
 | x::r,n=>bif Nat.beq x.1 n then some x.2 else Ad r n
theorem Afv {α:Type} {n:Nat} {y:α}:∀{l:List (Nat×α)},Ad l n=some y->(n,y)∈l:=by
 intro l
 induction l with
 | nil=>intro h;cases h
 | cons x l ih=>
  intro h
  simp only [Ad] at h
  rcases Ae h with ⟨h1,h2⟩ | ⟨_,h2⟩
  ·have h1:=ACt h1
   have h2:=ACs h2
   subst h1 h2
   simp
  ·exact List.mem_cons_of_mem _ (ih h2)
theorem Azq {P:Program} {l:List (Nat×Kd)} {ar:TypeId->Option TypeId} (h:l.all (fun x=>KS P (Ad l) ar x.1 x.2)=true):BZ P (Ad l) ar:=by
 intro t k hk
 have:=List.all_eq_true.1 h _ (Afv hk)
 exact this
def Arh (P:Program):List (Nat×FSig)->Prop
 | []=>True
 | x::r=>Aa P x.1 x.2/\Arh P r
theorem SB {P:Program} {n:Nat} {y:FSig}:∀{l:List (Nat×FSig)},Arh P l->Ad l n=some y->Aa P n y:=by
 intro l
 induction l with
 | nil=>intro _ h;cases h
 | cons x l ih=>
  intro hA h
  simp only [Ad] at h
  rcases Ae h with ⟨h1,h2⟩ | ⟨_,h2⟩
  ·have h1:=ACt h1
   have h2:=ACs h2
   subst h1 h2
   exact hA.1
  ·exact ih hA.2 h2
theorem Av {P:Program} {l:List (Nat×Kd)} {ar:TypeId->Option TypeId} {ln:Nat->Bool} {fs:List (Nat×FSig)} (h:BZ P (Ad l) ar) (hfs:Arh P fs):Env P { tk:=Ad l,ar:=ar,fs:=Ad fs,lent:=ln }:=
 ⟨h,fun _ _ hg=>SB hfs hg,fun _ _ hg=>(by cases hg),fun _ hg=>(by cases hg),fun _ hg=>(by cases hg),fun _ _ hg=>(by cases hg)⟩
def Av0 (P:Program):List (Nat×FSig)->Prop
 | []=>True
 | x::r=>CH P x.2/\Av0 P r
theorem YI {P:Program} {n:Nat} {y:FSig}:∀{l:List (Nat×FSig)},Av0 P l->Ad l n=some y->CH P y:=by
 intro l
 induction l with
 | nil=>intro _ h;cases h
 | cons x l ih=>
  intro hA h
  simp only [Ad] at h
  rcases Ae h with ⟨_,h2⟩ | ⟨_,h2⟩
  ·have h2:=ACs h2
   subst h2
   exact hA.1
  ·exact ih hA.2 h2
def inL (l:List Nat) (t:Nat):Bool:=l.any fun x=>Nat.beq x t
def Ab8 (P:Program) (t:Nat):Bool:=match P.underlying t with
 | some (.struct _) | some (.array _ _) | none=>false
 | _=>true
def Ayf (P:Program) (w1:Nat->Bool):Prop := ∀t,w1 t=true -> ∀w,(isAgg t).run P w=.ok false w
theorem Awp {P:Program} {l:List Nat} (h:l.all (Ab8 P)=true):Ayf P (inL l):=by
 intro t ht w
 unfold inL at ht
 obtain ⟨x,hx,he⟩:=List.any_eq_true.1 ht
 have he:=ACt he
 subst he
 have:=List.all_eq_true.1 h _ hx
 unfold Ab8 at this
 cases hu:P.underlying x with
 | none=>rw [hu] at this;cases this
 | some u=>
  rw [hu] at this
  cases u<;>first | (cases this;done) | simp [isAgg,run_underlying hu]
theorem FZ {P:Program} {l:List (Nat×Kd)} {ar:TypeId->Option TypeId} {ln fz dm w1:Nat->Bool} {fs vs:List (Nat×FSig)} (h:BZ P (Ad l) ar) (hfs:Arh P fs) (hvs:Av0 P vs) (hw:Ayf P w1):Env P { tk:=Ad l,ar:=ar,fs:=Ad fs,lent:=ln,cs:=Ad vs,fz:=fz,dm:=dm,w1:=w1 }:=
 ⟨h,fun _ _ hg=>SB hfs hg,fun _ _ hg=>YI hvs hg,hw,fun _ hg=>(by cases hg),fun _ _ hg=>(by cases hg)⟩
def Ay6 (P:Program):List (Nat×(FSig×Md))->Prop
 | []=>True
 | x::r=>AR P x.1 x.2/\Ay6 P r
theorem An2 {P:Program} {n:Nat} {y:FSig×Md}:∀{l:List (Nat×(FSig×Md))},Ay6 P l->Ad l n=some y->AR P n y:=by
 intro l
 induction l with
 | nil=>intro _ h;cases h
 | cons x l ih=>
  intro hA h
  simp only [Ad] at h
  rcases Ae h with ⟨h1,h2⟩ | ⟨_,h2⟩
  ·have h1:=ACt h1
   have h2:=ACs h2
   subst h1 h2
   exact hA.1
  ·exact ih hA.2 h2
theorem AA8 {P:Program} {l:List Nat} (h:l.all (RT P)=true):∀t,inL l t=true->RT P t=true:=by
 intro t ht
 unfold inL at ht
 obtain ⟨x,hx,he⟩:=List.any_eq_true.1 ht
 have he:=ACt he
 subst he
 exact List.all_eq_true.1 h _ hx
theorem Dx {P:Program} {l:List (Nat×Kd)} {ar:TypeId->Option TypeId} {ln fz dm w1:Nat->Bool} {fs vs:List (Nat×FSig)} {gs:List (Nat×(FSig×Md))} {eq:List Nat} {md:Md} {ad:Nat->Nat} {mv:Nat->Bool} {th:Nat->Bool} {ct:Nat->Nat} {sb:Nat->Bool} (h:BZ P (Ad l) ar) (hfs:Arh P fs) (hvs:Av0 P vs) (hw:Ayf P w1) (hgs:Ay6 P gs) (heq:eq.all (RT P)=true):Env P { tk:=Ad l,ar:=ar,fs:=Ad fs,lent:=ln,cs:=Ad vs,fz:=fz,dm:=dm,w1:=w1,gs:=Ad gs,eqt:=inL eq,md:=md,ad:=ad,mv:=mv,thin:=th,cut:=ct,subs:=sb }:=
 ⟨h,fun _ _ hg=>SB hfs hg,fun _ _ hg=>YI hvs hg,hw,AA8 heq,fun _ _ hg=>An2 hgs hg⟩
def ABw (P:Program) (n:Nat) (A:Nat->Option Value) (body:Code) (x:Nat×Piece):Prop:=
 ∃c,(BL body).filter (fun y=>Nat.beq y.1 x.1)=[(x.1,.loop c)]/\x.2.ok/\IG P n A (.block x.1 (.loop c)) x.2
def Ark (P:Program) (n:Nat) (A:Nat->Option Value) (body:Code):List (Nat×Piece)->Prop
 | []=>True
 | x::r=>ABw P n A body x/\Ark P n A body r
theorem SD {P:Program} {n:Nat} {A:Nat->Option Value} {body:Code} {id:Nat} {b:Code} {o:Piece}:∀{l:List (Nat×Piece)},Ark P n A body l->(id,b)∈BL body->Ad l id=some o->o.ok/\IG P n A (.block id b) o:=by
 intro l
 induction l with
 | nil=>intro _ _ h;cases h
 | cons x l ih=>
  intro hA hb h
  simp only [Ad] at h
  rcases Ae h with ⟨h1,h2⟩ | ⟨_,h2⟩
  ·have h1:=ACt h1
   have h2:=ACs h2
   subst h1 h2
   obtain ⟨c,hc,hok,hp⟩:=hA.1
   have:(x.1,b)∈(BL body).filter (fun y=>Nat.beq y.1 x.1):=List.mem_filter.2 ⟨hb,Nat.beq_refl _⟩
   rw [hc] at this
   simp only [List.mem_singleton,Prod.mk.injEq,true_and] at this
   subst this
   exact ⟨hok,hp⟩
  ·exact ih hA.2 hb h2
def Amm (f:AU):Bool:=decide ((f.map (·.1)).Nodup)
def Awl (o:AJ):Bool:=o.all fun x=>Amm x.2
theorem Av2 {o:AJ} (h:Awl o=true):AJ.ok o:=fun x hx=>of_decide_eq_true (List.all_eq_true.1 h x hx)
def JQ (ps:List (Kd×Bool)) (hi:Nat) (d:Nat):Bool := !Rr ps d&&Nat.blt d hi
theorem TE {ps:List (Kd×Bool)} {hi d:Nat} (h:JQ ps hi d=true):Rr ps d=false/\d<hi:=by
 simp only [JQ,ACo,Bool.not_eq_true'] at h
 exact ⟨h.1,by have:=h.2;rw [Nat.blt_eq] at this;exact this⟩
theorem AK {P:Program} {Γ:Ctx} (E:Env P Γ) (hm:P.follows .mixedOrders=true) {n:Nat} {np:List (Kd×Bool)} {A:Nat->Option Value} (hA:∀d,JQ np n d=true->d<n/\A d=none) {inner:List (Nat×Piece)} {id:Nat} {head:AU} {outs:AJ} {body c:Code}
  (hc:(BL c).filter (fun y=>Nat.beq y.1 id)=[(id,.loop body)]) (hok:(Amm head&&Awl outs)=true) (hd:EO (JQ np n) body=true) (hin:Ark P n A body inner)
  {L:Nat->head.den->Option outs.den} (h0:∀d,L 0 d=none) (hL:∀m d,L (m+1) d=SO Γ (Ad inner) id head outs body (L m) d) (m:Nat):ABw P n A c (id,⟨head,outs,L m⟩):=by
 simp only [ACo] at hok
 have h1:(head.map (·.1)).Nodup:=of_decide_eq_true hok.1
 have h2:=Av2 hok.2
 exact ⟨body,hc,⟨h1,h2⟩,Au9 E hm hA ⟨h1,h2⟩ hd (fun id b o hb ho=>SD hin hb ho) h0 hL m⟩
theorem Ar {P : Program} {Γ : Ctx} (E : Env P Γ) (hmd : Γ.md = md0) (hm : P.follows .mixedOrders = true) {f : FuncId} {fn : Func} {body : Code} (hf : P.funcs[f]? = some fn) (hb : fn.body = some body) (hname : (fn.name == "runtime.NumGoroutine") = false)
  {ps:List (Kd×Bool)} {rs:List Kd} {own:Bool} {F:(Kd.tuple (ps.map (·.1))).den->Option (Kd.tuple (rs++(ps.filter (·.2)).map (·.1))).den} (hn:Nat.ble ps.length fn.ntmps=true) (hd:EO (JQ ps fn.ntmps) body=true)
  {Pc:List (Nat×Piece)} (hP:∀A:Nat->Option Value,(∀d,JQ ps fn.ntmps d=true->d<fn.ntmps/\A d=none)->Ark P fn.ntmps A body Pc)
  (hF:∀d,fnR Γ (Ad Pc) own ps rs fn.results.toList body d=F d):Aa P f ⟨ps,rs,own,F⟩:=
 ABl E hmd hm hf hb hname (Nat.le_of_ble_eq_true hn) (fun d h=>TE h) hd (fun A hA id b o hb ho=>SD (hP A hA) hb ho) (fun d r h=>(hF d).trans h)
theorem LM {P : Program} {Γ : Ctx} (E : Env P Γ) (hm : P.follows .mixedOrders = true) {f : FuncId} {fn : Func} {body : Code} (hf : P.funcs[f]? = some fn) (hb : fn.body = some body) (hname : (fn.name == "runtime.NumGoroutine") = false)
  {ps:List (Kd×Bool)} {rs:List Kd} {own:Bool} {F:(Kd.tuple (ps.map (·.1))).den->Option (Kd.tuple (rs++(ps.filter (·.2)).map (·.1))).den} (hn:Nat.ble ps.length fn.ntmps=true) (hd:EO (JQ ps fn.ntmps) body=true)
  {Pc:List (Nat×Piece)} (hP:∀A:Nat->Option Value,(∀d,JQ ps fn.ntmps d=true->d<fn.ntmps/\A d=none)->Ark P fn.ntmps A body Pc)
  (hF:∀d,fnR Γ (Ad Pc) own ps rs fn.results.toList body d=F d) (hfr:Γ.md.fr=false:=by rfl):AR P f (⟨ps,rs,own,F⟩,Γ.md):=
 Aoq E hm hf hb hname (Nat.le_of_ble_eq_true hn) (fun d h=>TE h) hd (fun A hA id b o hb ho=>SD (hP A hA) hb ho) (fun d r h=>(hF d).trans h) hfr
end Go.V
namespace Go.V
variable {P:Program} {f:FuncId}
theorem Aa.same {ps:List (Kd×Bool)} {rs:List Kd} {own:Bool} {F F':(Kd.tuple (ps.map (·.1))).den->Option (Kd.tuple (rs++(ps.filter (·.2)).map (·.1))).den} (h:Aa P f ⟨ps,rs,own,F'⟩) (e:∀d,F' d=F d):Aa P f ⟨ps,rs,own,F⟩:=by
 have:F'=F:=funext e
 subst this
 exact h
theorem AR.same {m:Md} {ps:List (Kd×Bool)} {rs:List Kd} {own:Bool} {F F':(Kd.tuple (ps.map (·.1))).den->Option (Kd.tuple (rs++(ps.filter (·.2)).map (·.1))).den} (h:AR P f (⟨ps,rs,own,F'⟩,m)) (e:∀d,F' d=F d):AR P f (⟨ps,rs,own,F⟩,m):=by
 have:F'=F:=funext e
 subst this
 exact h
end Go.V
namespace Go.V
open Go.RowKit
open Go.Sort (grow putRow mapBlock putCells onCells)
def CE (l:List Int):List Int:=l.mergeSort fun x y=>decide (x<=y)
def Ir (d:List Int×Unit):Option (List Int×Unit):=if decide (d.1.length<=lim)=true then some (CE d.1,()) else none
theorem Agc {w:World} {b off:Nat} {d:Array Int} {cs:Array Value} {T:TypeId} {fr:Nat×Nat} (h:w.heap[b]? = some (.cells cs T fr)) :
  (putRow (Value.int .i64) w b off d).heap[b]? = some (.cells (putCells (Value.int .i64) off d cs) T fr):=by
 unfold putRow mapBlock
 simp only [Array.getElem?_modify,if_true,h,Option.map_some]
 rfl
theorem WT {w:World} {b off k:Nat} {d:Array Int} (h:k≠b):(putRow (Value.int .i64) w b off d).heap[k]? = w.heap[k]?:=by
 unfold putRow mapBlock
 simp only [Array.getElem?_modify,if_neg (Ne.symm h)]
theorem Aef {w:World} {os:Array Obj} {k:Nat} (h:k<w.heap.size):(grow w os).heap[k]? = w.heap[k]?:=by
 show (w.heap++os)[k]? = _
 exact Array.getElem?_append_left h
theorem Jb (l:List Int):(CE l).length=l.length:=by unfold CE;simp
theorem Ais {P:Program} {f:FuncId} (he:∀(args:Array Value) (w:World),(callFunc f args).run P w=.ok (.enter f args) w)
  (h:∀(blk off cap:Nat) (zs:List Int) (w:World),Go.Sort.Holds (Value.int .i64) w blk off zs.toArray->blk<w.heap.size->zs.length<4611686018427387904 ->
   Calls P f #[.slice (some ⟨blk,off,none⟩) zs.length cap] w fun e w'=>e=.returned (.tuple #[]) /\ ∃n os,w'=grow (putRow (Value.int .i64) (Go.Sort.ahead w n) blk off (CE zs).toArray) os)
  (h0:∀(p:Option Addr) (cap:Nat) (w:World),Calls P f #[.slice p 0 cap] w fun e w'=>e=.returned (.tuple #[])/\w'=w) :
  Aa P f ⟨[(.slice (.int .i64),true)],[],true,Ir⟩:=by
 intro w ψ U vs d out hargs hU hψ hgl ho
 obtain ⟨zs,u⟩:=d
 have ho:Ir (zs,u)=some out:=ho
 unfold Ir at ho
 split at ho
 case isFalse=>cases ho
 rename_i hl
 have hl:zs.length<=lim:=of_decide_eq_true hl
 obtain rfl:=ACs ho
 obtain ⟨c1,r1,rfl,k2,k5⟩:=hargs
 have k5:r1=[]:=k5
 subst k5
 simp only [cond_true,IO,Rep] at k2
 rcases k2 with ⟨⟨a,rfl⟩,hz⟩ | ⟨b,off,cap,rfl,kc,kS,kb,ke⟩
 ·have hz:zs=[]:=hz
  subst hz
  unfold BJ
  rw [show (List.toArray [Am (.slice (.int .i64)) [Value.slice a 0 0]]) = #[.slice a 0 0] from rfl,he]
  refine Calls.mono (h0 a 0 w) fun e w' hh => ?_
  obtain ⟨rfl,rfl⟩:=hh
  refine ⟨fun b=>match ψ b with | some (i,q)=>some (.io i q) | none=>none,⟨rfl,rfl,rfl,ACr _,fun _ _ _=>rfl,fun b z hz => ?_,⟨[],trivial,rfl⟩,?_⟩⟩
  ·cases hb:ψ b with
   | none=>rw [hb] at hz;cases hz
   | some y=>exact ⟨.inr (by simp),hψ b y hb⟩
  ·exact ⟨fun _=>⟨[.slice a 0 0],rfl,rfl,.inl ⟨⟨a,rfl⟩,(show CE []=[] by unfold CE;simp)⟩⟩,trivial⟩
 ·have kS:ψ b=some (0,[]):=kS
  obtain ⟨cs,T,fr,hrow,hthaw⟩:=hψ b _ kS
  obtain ⟨cs2,T2,fr2,hrow2,hfit⟩:=kb
  rw [hrow] at hrow2
  injection hrow2 with hrow2
  injection hrow2 with e1 e2 e3
  subst e1 e2 e3
  simp only [Kd.size,Nat.mul_one] at hfit
  have hcell:∀j (hj:j<zs.length),cs[off+j]? = some (.int .i64 zs[j]):=fun j hj=>by
   have:=ke j hj
   simp only [Rep,Kd.size,Nat.mul_one] at this
   unfold Ai at this
   rw [hrow] at this
   have h2:((cs.toList.drop (off+j)).take 1)[0]? = some (.int .i64 zs[j]):=by
    have e:(cs.toList.drop (off+j)).take 1=[.int .i64 (List.get zs ⟨j,hj⟩)]:=this
    rw [e]
    rfl
   simpa using h2
  have hH:Go.Sort.Holds (Value.int .i64) w b off zs.toArray:=fun j hj=>by
   have hj':j<zs.length:=by simpa using hj
   constructor
   ·unfold World.cell?
    rw [hrow]
    have:=hcell j hj'
    simp only
    rw [this]
    simp [hj']
   ·unfold World.frozen?
    rw [hrow]
    obtain ⟨f1,f2⟩:=fr
    simp only at hthaw
    simp
    omega
  have hb:=(Array.getElem?_eq_some_iff.1 hrow).1
  unfold BJ
  rw [show (List.toArray [Am (.slice (.int .i64)) [Value.slice (some ⟨b,off,none⟩) (List.length zs) cap]]) = #[.slice (some ⟨b,off,none⟩) (List.length zs) cap] from rfl,he]
  show Calls P f _ w _
  refine Calls.mono (h b off cap zs w hH hb (by unfold lim at hl;omega)) fun e w' hh => ?_
  obtain ⟨rfl,n,os,rfl⟩:=hh
  have hsz:(putRow (Value.int .i64) (Go.Sort.ahead w n) b off (CE zs).toArray).heap.size=w.heap.size:=by simp
  have hother:∀k,k<w.heap.size->k≠b->(grow (putRow (Value.int .i64) (Go.Sort.ahead w n) b off (CE zs).toArray) os).heap[k]? = w.heap[k]?:=fun k hk hne=>by
   rw [Aef (by rw [hsz];exact hk),WT hne]
   rfl
  have hnew:(grow (putRow (Value.int .i64) (Go.Sort.ahead w n) b off (CE zs).toArray) os).heap[b]? = some (.cells (putCells (Value.int .i64) off (CE zs).toArray cs) T fr):=by
   rw [Aef (by rw [hsz];exact hb)]
   exact Agc (w:=Go.Sort.ahead w n) hrow
  have hps:(putCells (Value.int .i64) off (CE zs).toArray cs).size=cs.size:=by simp [putCells]
  refine ⟨fun b=>match ψ b with | some (i,q)=>some (.io i q) | none=>none,⟨rfl,rfl,rfl,?_,fun k hk hn => ?_,fun k z hz => ?_,⟨[],trivial,rfl⟩,?_⟩⟩
  ·show w.heap.size<=((putRow (Value.int .i64) (Go.Sort.ahead w n) b off (CE zs).toArray).heap++os).size
   rw [Array.size_append,hsz]
   omega
  ·exact hother k hk (fun e=>by subst e;rw [kS] at hn;cases hn)
  ·cases hk:ψ k with
   | none=>rw [hk] at hz;cases hz
   | some y=>
    refine ⟨.inr (by simp),?_⟩
    by_cases e:k=b
    ·subst e
     exact ⟨_,T,fr,hnew,hthaw.imp (fun h=>h) fun h=>by rw [hps];exact h⟩
    ·exact (hψ k y hk).same (hother k (hψ k y hk).lt e)
  ·refine ⟨fun _=>⟨[.slice (some ⟨b,off,none⟩) zs.length cap],rfl,rfl,?_⟩,trivial⟩
   simp only [IO,Rep]
   refine .inr ⟨b,off,cap,?_,?_,?_,⟨_,T,fr,hnew,?_⟩,fun i hi => ?_⟩
   ·show [Value.slice (some ⟨b,off,none⟩) zs.length cap]=[Value.slice (some ⟨b,off,none⟩) (List.length (CE zs)) cap]
    rw [Jb]
   ·show List.length (CE zs)<=cap
    rw [Jb]
    exact kc
   ·show (match ψ b with | some (i,q)=>some (Lab.io i q) | none=>none)=some (.io 0 [])
    rw [kS]
   ·simp only [Kd.size,Nat.mul_one]
    rw [hps]
    exact hfit
   ·have hi:i<(CE zs).length:=hi
    have hi2:i<zs.length:=by rw [Jb] at hi;exact hi
    show Ai _ b (off+i*1) 1=[.int .i64 ((CE zs).get ⟨i,hi⟩)]
    unfold Ai
    rw [hnew,Nat.mul_one]
    have hlt:off+i<(putCells (Value.int .i64) off (CE zs).toArray cs).toList.length:=by rw [Array.length_toList,hps];omega
    simp only
    rw [ACv hlt,List.take_succ_cons,List.take_zero]
    congr 1
    simp only [putCells,Array.getElem_toList,Array.getElem_mapIdx,List.size_toArray]
    rw [if_pos ⟨by omega,by omega⟩]
    simp [hi]
end Go.V
end
