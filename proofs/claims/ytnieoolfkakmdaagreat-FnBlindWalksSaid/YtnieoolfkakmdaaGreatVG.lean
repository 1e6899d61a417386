/- What the law FnBlindWalks leans on, part 7: an interpreter of the model as plain data, its soundness, the functions as it tells them, and their laws. -/
import Derived.Shelf.Lays
import Derived.Shelf.LaysM
import Derived.Shelf.SortM.Plain
import Derived.Shelf.SortM.SortNone
import Derived.Shelf.SlSortCmp.NoneTotal
import Derived.Test.YtnieoolfkakmdaaGreatVF
set_option linter.unusedVariables false
set_option linter.unusedSimpArgs false
set_option maxRecDepth 100000
namespace Go.V.W
open Go.Proofs
theorem stepP_iff {es:List E} {n:Nat} {p:Nat->Bool} {y:Nat}:stepP es n p y=true↔p y=true \/ ∃x,x<n/\p x=true/\nearI es (x:Int) (y:Int)=true:=by
 unfold stepP
 rw [Bool.or_eq_true,List.any_eq_true]
 simp only [List.mem_range,Bool.and_eq_true]
theorem nextP_iff {es:List E} {n:Nat} {c:List Int} {p:Nat->Bool} {y:Nat} (hy:y<n):nextP es n c p y=true↔hasL c (y:Int)=false /\ ∃x,x<n/\p x=true/\hasL c (x:Int)=false/\(nearI es (x:Int) (y:Int)=true\/y=x):=by
 unfold nextP
 rw [Bool.and_eq_true,stepP_iff,Bool.and_eq_true,Bool.not_eq_true']
 constructor
 ·rintro ⟨h | ⟨x,hx,h,h2⟩,h3⟩
  ·exact ⟨h3,y,hy,h.1,h.2,.inr rfl⟩
  ·rw [Bool.and_eq_true,Bool.not_eq_true'] at h
   exact ⟨h3,x,hx,h.1,h.2,.inl h2⟩
 ·rintro ⟨h3,x,hx,h1,h2,h4 | rfl⟩
  ·exact ⟨.inr ⟨x,hx,by rw [Bool.and_eq_true,Bool.not_eq_true'];exact ⟨h1,h2⟩,h4⟩,h3⟩
  ·exact ⟨.inl ⟨h1,h2⟩,h3⟩
def goesP (es:List E) (n:Nat):List (List Int)->Nat->Prop
 | [],_=>True
 | c::cs,x=>hasL c (x:Int)=false /\ ∃y,y<n/\hasL c (y:Int)=false/\(nearI es (x:Int) (y:Int)=true\/y=x)/\goesP es n cs y
theorem uns_last {es:List E} {n:Nat}:∀(cs:List (List Int)) (p:Nat->Bool),(∃y,y<n/\((p::unsP es n p cs).getD cs.length fun _=>false) y=true) ↔ ∃x,x<n/\p x=true/\goesP es n cs x:=by
 intro cs
 induction cs with
 | nil=>
  intro p
  simp [unsP,goesP]
 | cons c cs ih=>
  intro p
  have:=ih (nextP es n c p)
  simp only [unsP,List.length_cons,List.getD_cons_succ]
  rw [this]
  constructor
  ·rintro ⟨y,hy,h1,h2⟩
   obtain ⟨h3,x,hx,h4,h5,h6⟩:=(nextP_iff hy).1 h1
   exact ⟨x,hx,h4,h5,y,hy,h3,h6,h2⟩
  ·rintro ⟨x,hx,h4,h5,y,hy,h3,h6,h2⟩
   exact ⟨y,hy,(nextP_iff hy).2 ⟨h3,x,hx,h4,h5,h6⟩,h2⟩
theorem back_head {es:List E} {n:Nat} (hs:∀x y:Int,nearI es x y=nearI es y x):∀(cs:List (List Int)) (c:List Int) (x:Nat),x<n->((backP es n (c::cs)).headD (fun _=>false) x=true↔hasL c (x:Int)=false/\goesP es n cs x):=by
 intro cs
 induction cs with
 | nil=>
  intro c x hx
  simp [backP,goesP,freeP]
 | cons c2 cs ih=>
  intro c x hx
  simp only [backP,List.headD_cons,goesP]
  rw [Bool.and_eq_true,Bool.and_eq_true,Bool.not_eq_true',Bool.not_eq_true',stepP_iff]
  constructor
  ·rintro ⟨⟨h1,h2⟩,h3⟩
   refine ⟨h2,h3,?_⟩
   rcases h1 with h1 | ⟨y,hy,h1,h4⟩
   ·obtain ⟨h5,h6⟩:=(ih c2 x hx).1 h1
    exact ⟨x,hx,h5,.inr rfl,h6⟩
   ·obtain ⟨h5,h6⟩:=(ih c2 y hy).1 h1
    exact ⟨y,hy,h5,.inl (by rw [hs];exact h4),h6⟩
  ·rintro ⟨h2,h3,y,hy,h5,h7,h6⟩
   refine ⟨⟨?_,h2⟩,h3⟩
   rcases h7 with h7 | rfl
   ·exact .inr ⟨y,hy,(ih c2 y hy).2 ⟨h5,h6⟩,by rw [hs];exact h7⟩
   ·exact .inl ((ih c2 y hy).2 ⟨h5,h6⟩)
def wayP (es:List E) (n:Nat):List Int->List (List Int)->List Int->Prop
 | c,[],r => ∃x:Nat,x<n/\r=[(x:Int)]/\hasL c (x:Int)=false
 | c,c2::cs,r => ∃(x y:Nat) (s:List Int),x<n/\r=(x:Int)::s/\hasL c (x:Int)=false/\hasL c2 (x:Int)=false/\s.head? = some (y:Int)/\(nearI es (x:Int) (y:Int)=true\/y=x)/\wayP es n c2 cs s
theorem esc_some {es:List E} {n:Nat} (hs:∀x y:Int,nearI es x y=nearI es y x):∀(cs:List (List Int)) (c:List Int) (q:Nat->Bool),(∃x,x<n/\q x=true/\(backP es n (c::cs)).headD (fun _=>false) x=true) -> ∃r,escL es n q (backP es n (c::cs))=some r/\wayP es n c cs r /\ ∃x:Nat,r.head? = some (x:Int)/\q x=true:=by
 intro cs
 induction cs with
 | nil=>
  rintro c q ⟨x,hx,hq,h⟩
  simp only [backP,List.headD_cons] at h |-
  unfold escL
  cases hsf:setF (fun y=>q y&&freeP c y) n 0 with
  | nil=>
   have:(x:Int)∈setF (fun y=>q y&&freeP c y) n 0:=setF_mem.2 ⟨x,Nat.zero_le _,by omega,by rw [hq,h];rfl,rfl⟩
   rw [hsf] at this
   simp at this
  | cons z l=>
   obtain ⟨y,_,h2,h3,rfl⟩:=setF_mem.1 (show z∈setF (fun y=>q y&&freeP c y) n 0 by rw [hsf];simp)
   rw [Bool.and_eq_true] at h3
   have h4:=h3.2
   unfold freeP at h4
   rw [Bool.not_eq_true'] at h4
   refine ⟨[(y:Int)],?_,⟨y,by omega,rfl,h4⟩,y,rfl,h3.1⟩
   simp [escL]
 | cons c2 cs ih=>
  rintro c q ⟨x,hx,hq,h⟩
  have hb:backP es n (c::c2::cs)=(fun x=>stepP es n ((backP es n (c2::cs)).headD fun _=>false) x && !hasL c (x:Int) && !hasL c2 (x:Int))::backP es n (c2::cs):=rfl
  have hd:∀x,(backP es n (c::c2::cs)).headD (fun _=>false) x=(stepP es n ((backP es n (c2::cs)).headD fun _=>false) x && !hasL c (x:Int) && !hasL c2 (x:Int)):=fun x=>rfl
  rw [hd] at h
  rw [hb]
  unfold escL
  cases hsf:setF (fun y=>q y&&(stepP es n ((backP es n (c2::cs)).headD fun _=>false) y && !hasL c (y:Int) && !hasL c2 (y:Int))) n 0 with
  | nil=>
   have:(x:Int)∈setF (fun y=>q y&&(stepP es n ((backP es n (c2::cs)).headD fun _=>false) y && !hasL c (y:Int) && !hasL c2 (y:Int))) n 0:=setF_mem.2 ⟨x,Nat.zero_le _,by omega,by rw [hq,h];rfl,rfl⟩
   rw [hsf] at this
   simp at this
  | cons z l=>
   obtain ⟨y,_,h2,h3,rfl⟩:=setF_mem.1 (show z∈setF (fun y=>q y&&(stepP es n ((backP es n (c2::cs)).headD fun _=>false) y && !hasL c (y:Int) && !hasL c2 (y:Int))) n 0 by rw [hsf];simp)
   rw [Bool.and_eq_true] at h3
   obtain ⟨hqy,h4⟩:=h3
   have hyb:=h4
   rw [Bool.and_eq_true,Bool.and_eq_true,Bool.not_eq_true',Bool.not_eq_true',stepP_iff] at h4
   obtain ⟨⟨h5,h6⟩,h7⟩:=h4
   have hy:y<n:=by omega
   have hnext:∃w,w<n/\(nearI es (y:Int) (w:Int)||decide ((w:Int)=(y:Int)))=true/\(backP es n (c2::cs)).headD (fun _=>false) w=true:=by
    rcases h5 with h5 | ⟨w,hw,h5,h8⟩
    ·exact ⟨y,hy,by simp,h5⟩
    ·exact ⟨w,hw,by rw [hs,h8];rfl,h5⟩
   obtain ⟨r,r1,r2,w,r3,r4⟩:=ih c2 (fun w=>nearI es (y:Int) (w:Int)||decide ((w:Int)=(y:Int))) hnext
   refine ⟨(y:Int)::r,?_,⟨y,w,r,hy,rfl,h6,h7,r3,?_,r2⟩,y,rfl,hqy⟩
   ·simp only [r1,Option.map_some]
   ·rw [Bool.or_eq_true,decide_eq_true_eq] at r4
    rcases r4 with r4 | r4
    ·exact .inl r4
    ·exact .inr (by omega)
theorem esc_none {es:List E} {n:Nat} (cs:List (List Int)) (c:List Int) (q:Nat->Bool) (h:∀x,x<n->q x=true->(backP es n (c::cs)).headD (fun _=>false) x=false):escL es n q (backP es n (c::cs))=none:=by
 cases hb:backP es n (c::cs) with
 | nil=>cases cs<;>simp [backP] at hb
 | cons p ps=>
  rw [hb] at h
  unfold escL
  cases hsf:setF (fun y=>q y&&p y) n 0 with
  | nil=>rfl
  | cons z l=>
   obtain ⟨y,_,h2,h3,rfl⟩:=setF_mem.1 (show z∈setF (fun y=>q y&&p y) n 0 by rw [hsf];simp)
   rw [Bool.and_eq_true] at h3
   have:=h y (by omega) h3.1
   simp only [List.headD_cons] at this
   rw [h3.2] at this
   cases this
end Go.V.W
namespace Go.V.W
open Go.Proofs
theorem way_at {es:List E} {n:Nat}:∀(cs:List (List Int)) (c:List Int) (r:List Int),wayP es n c cs r->r.length=cs.length+1 /\ ∀i,i<r.length -> ∃x:Nat,r.getD i 0=(x:Int)/\x<n/\hasL ((c::cs).getD i []) (x:Int)=false/\(0<i->hasL ((c::cs).getD i []) (r.getD (i-1) 0)=false /\ ∃y:Nat,r.getD (i-1) 0=(y:Int)/\y<n/\(nearI es (y:Int) (x:Int)=true\/x=y)):=by
 intro cs
 induction cs with
 | nil=>
  rintro c r ⟨x,hx,rfl,h⟩
  refine ⟨rfl,fun i hi => ?_⟩
  have e:i=0:=by simpa using hi
  subst e
  exact ⟨x,rfl,hx,h,fun h=>by omega⟩
 | cons c2 cs ih=>
  rintro c r ⟨x,y,s,hx,rfl,h1,h2,h3,h4,h5⟩
  obtain ⟨i1,i2⟩:=ih c2 s h5
  refine ⟨by simp [i1],fun i hi => ?_⟩
  cases i with
  | zero=>exact ⟨x,rfl,hx,h1,fun h=>by omega⟩
  | succ i=>
   have hi2:i<s.length:=by simpa using hi
   obtain ⟨z,z1,z2,z3,z4⟩:=i2 i hi2
   refine ⟨z,by simpa using z1,z2,by simpa using z3,fun _ => ?_⟩
   cases i with
   | zero=>
    have ey:s.getD 0 0=(y:Int):=by
     cases s with
     | nil=>simp at hi2
     | cons a s=>
      simp at h3
      simp [h3]
    rw [ey] at z1
    have ezy:z=y:=by omega
    subst ezy
    exact ⟨by simpa using h2,x,rfl,hx,h4⟩
   | succ i=>
    obtain ⟨k1,k2⟩:=z4 (by omega)
    exact ⟨by simpa using k1,by simpa using k2⟩
theorem ball_hasI {n:Nat} {es:List E} {y x:Nat} (hx:x<n):hasL (ballF n es (y:Int)) (x:Int)=true↔(nearI es (y:Int) (x:Int)=true\/x=y):=by
 unfold hasL ballF
 rw [List.any_eq_true]
 constructor
 ·rintro ⟨z,hz,h⟩
  obtain ⟨w,_,_,h3,rfl⟩:=setF_mem.1 hz
  have e:w=x:=by
   have:(w:Int)=(x:Int):=by simpa using h
   omega
  subst e
  rw [Bool.or_eq_true,decide_eq_true_eq] at h3
  rcases h3 with h3 | h3
  ·exact .inl h3
  ·exact .inr (by omega)
 ·intro h
  refine ⟨(x:Int),setF_mem.2 ⟨x,Nat.zero_le _,by omega,?_,rfl⟩,by simp⟩
  rw [Bool.or_eq_true,decide_eq_true_eq]
  rcases h with h | h
  ·exact .inl h
  ·exact .inr (by omega)
theorem way_esc {n:Nat} {es:List E} {v:Unit} {cs:List (List Int)} {c:List Int} {r:List Int} (h:wayP es n c cs r):escG ((n:Int),es,v) (c::cs) r=true:=by
 obtain ⟨h1,h2⟩:=way_at cs c r h
 unfold escG
 simp only [Bool.and_eq_true,decide_eq_true_eq,List.all_eq_true,List.mem_range,Int.toNat_natCast]
 refine ⟨by simp [h1],fun i hi => ?_⟩
 obtain ⟨x,x1,x2,x3,x4⟩:=h2 i hi
 rw [x1,x3]
 refine ⟨inB_iff.2 (by omega),rfl,?_⟩
 by_cases h0:0<i
 ·obtain ⟨k1,y,k2,k3,k4⟩:=x4 h0
  rw [k1,k2,(ball_hasI x2).2 k4]
  simp [h0]
 ·simp [h0]
theorem uns_getD {es:List E} {n:Nat}:∀(cs:List (List Int)) (p:Nat->Bool) (i:Nat),i<cs.length->((p::unsP es n p cs).getD (i+1) fun _=>false)=nextP es n (cs.getD i []) ((p::unsP es n p cs).getD i fun _=>false):=by
 intro cs
 induction cs with
 | nil=>intro p i h;simp at h
 | cons c cs ih=>
  intro p i h
  cases i with
  | zero=>rfl
  | succ i=>
   have:=ih (nextP es n c p) i (by simpa using h)
   simpa [unsP] using this
theorem esc_unsafe {n:Nat} {es:List E} {v:Unit} {c:List Int} {cs:List (List Int)} {r:List Int} (h:escG ((n:Int),es,v) (c::cs) r=true):r.length=cs.length+1 /\ ∀i,i<r.length -> ∃x:Nat,r.getD i 0=(x:Int)/\x<n/\((walkP ((n:Int),es,v) (c::cs)).getD i fun _=>false) x=true:=by
 unfold escG at h
 simp only [Bool.and_eq_true,decide_eq_true_eq,List.all_eq_true,List.mem_range,Int.toNat_natCast] at h
 obtain ⟨h1,h2⟩:=h
 refine ⟨by simpa using h1,?_⟩
 intro i
 induction i with
 | zero=>
  intro hi
  obtain ⟨a1,a2,_⟩:=h2 0 hi
  obtain ⟨x,ex,hx⟩:=nodeX a1
  refine ⟨x,ex,hx,?_⟩
  rw [ex] at a2
  unfold walkP
  simpa [freeP] using a2
 | succ i ih=>
  intro hi
  obtain ⟨x,ex,hx,hwx⟩:=ih (by omega)
  obtain ⟨a1,a2,a3⟩:=h2 (i+1) hi
  obtain ⟨y,ey,hy⟩:=nodeX a1
  refine ⟨y,ey,hy,?_⟩
  rw [ey] at a2 a3
  simp only [Nat.add_sub_cancel,ex] at a3
  have h0:decide (0<i+1)=true:=decide_eq_true (by omega)
  rw [h0] at a3
  simp only [Bool.not_true,Bool.false_or,Bool.and_eq_true,Bool.not_eq_true'] at a3
  rw [Bool.not_eq_true'] at a2
  have hlen:r.length=cs.length+1:=by simpa using h1
  unfold walkP at hwx |-
  simp only [List.headD_cons,List.tail_cons,Int.toNat_natCast] at hwx |-
  rw [uns_getD cs (freeP c) i (by omega)]
  have e:(c::cs).getD (i+1) []=cs.getD i []:=rfl
  rw [e] at a2 a3
  exact (nextP_iff hy).2 ⟨a2,x,hx,hwx,a3.1,(ball_hasI hy).1 a3.2⟩
theorem clear_iff {n:Nat} {es:List E} {v:Unit} (c:List Int) (cs:List (List Int)):(setsL ((n:Int),es,v) (c::cs)).getD cs.length []=[]↔escL es n (fun _=>true) (backP es n (c::cs))=none:=by
 have hlen:cs.length<(walkP ((n:Int),es,v) (c::cs)).length:=by
  unfold walkP
  simp [unsP_len]
 have e:(setsL ((n:Int),es,v) (c::cs)).getD cs.length []=setF ((walkP ((n:Int),es,v) (c::cs)).getD cs.length fun _=>false) n 0:=by
  unfold setsL
  rw [List.getD_eq_getElem?_getD,List.getElem?_map,List.getD_eq_getElem?_getD,List.getElem?_eq_getElem hlen]
  rfl
 have hU:=uns_last (es:=es) (n:=n) cs (freeP c)
 have ew:(walkP ((n:Int),es,v) (c::cs))=freeP c::unsP es n (freeP c) cs:=rfl
 rw [e,ew]
 constructor
 ·intro hs
  refine esc_none cs c _ fun x hx _ => ?_
  cases hb:(backP es n (c::cs)).headD (fun _=>false) x with
  | false=>rfl
  | true=>
   obtain ⟨b1,b2⟩:=(back_head (near_symm es) cs c x hx).1 hb
   obtain ⟨y,hy,h⟩:=hU.2 ⟨x,hx,by unfold freeP;rw [b1];rfl,b2⟩
   have:(y:Int)∈setF ((freeP c::unsP es n (freeP c) cs).getD cs.length fun _=>false) n 0:=setF_mem.2 ⟨y,Nat.zero_le _,by omega,h,rfl⟩
   rw [hs] at this
   simp at this
 ·intro hn
  cases hs:setF ((freeP c::unsP es n (freeP c) cs).getD cs.length fun _=>false) n 0 with
  | nil=>rfl
  | cons z l=>
   obtain ⟨y,_,h2,h3,rfl⟩:=setF_mem.1 (show z∈setF ((freeP c::unsP es n (freeP c) cs).getD cs.length fun _=>false) n 0 by rw [hs];simp)
   obtain ⟨x,hx,h4,h5⟩:=hU.1 ⟨y,by omega,h3⟩
   unfold freeP at h4
   rw [Bool.not_eq_true'] at h4
   obtain ⟨r,r1,_⟩:=esc_some (near_symm es) cs c (fun _=>true) ⟨x,hx,rfl,(back_head (near_symm es) cs c x hx).2 ⟨h4,h5⟩⟩
   rw [hn] at r1
   cases r1
theorem esc_found {n:Nat} {es:List E} {v:Unit} (c:List Int) (cs:List (List Int)) {r:List Int} (h:escL es n (fun _=>true) (backP es n (c::cs))=some r):escG ((n:Int),es,v) (c::cs) r=true:=by
 by_cases hx:∃x,x<n/\(fun _:Nat=>true) x=true/\(backP es n (c::cs)).headD (fun _=>false) x=true
 ·obtain ⟨s,s1,s2,_⟩:=esc_some (near_symm es) cs c (fun _=>true) hx
  rw [h] at s1
  cases s1
  exact way_esc s2
 ·have:=esc_none cs c (fun _=>true) fun x hx' _=>by
   cases hb:(backP es n (c::cs)).headD (fun _=>false) x with
   | false=>rfl
   | true=>exact absurd ⟨x,hx',rfl,hb⟩ hx
  rw [h] at this
  cases this
end Go.V.W
namespace Go.V.W
open Go.Proofs
theorem upTo_mem {a n:Nat} {x:Int}:x∈upTo a n ↔ ∃y:Nat,a<=y/\y<n/\x=(y:Int):=by
 unfold upTo
 simp only [List.mem_map,List.mem_range'_1]
 constructor
 ·rintro ⟨y,hy,rfl⟩
  exact ⟨y,by omega,by omega,rfl⟩
 ·rintro ⟨y,h1,h2,rfl⟩
  exact ⟨y,by omega,rfl⟩
theorem confL_len {n:Nat}:∀{k:Nat} {l:List Int},l∈confL n k->l.length=k:=by
 intro k
 induction k with
 | zero=>intro l h;simp [confL] at h;simp [h]
 | succ k ih=>
  intro l h
  unfold confL at h
  obtain ⟨a,ha,h2⟩:=List.mem_flatMap.1 h
  obtain ⟨x,_,rfl⟩:=List.mem_map.1 h2
  simp [ih ha]
theorem ndB_snoc:∀{l:List Int} {x:Int},ndB (l++[x])=(ndB l&&(match l.getLast? with | none=>true | some y=>decide (y<=x))):=by
 intro l
 induction l with
 | nil=>intro x;rfl
 | cons a l ih=>
  intro x
  cases l with
  | nil=>simp [ndB]
  | cons b l=>
   have:=ih (x:=x)
   simp only [List.cons_append,ndB] at this |-
   rw [this,List.getLast?_cons_cons,Bool.and_assoc]
theorem confL_mem {n:Nat}:∀{k:Nat} {l:List Int},l∈confL n k↔l.length=k/\copsB (n:Int) l=true:=by
 intro k
 induction k with
 | zero=>
  intro l
  simp only [confL,List.mem_singleton,List.length_eq_zero_iff]
  constructor
  ·rintro rfl;exact ⟨rfl,rfl⟩
  ·intro h;exact h.1
 | succ k ih=>
  intro l
  unfold confL
  rw [List.mem_flatMap]
  constructor
  ·rintro ⟨a,ha,h2⟩
   obtain ⟨x,hx,rfl⟩:=List.mem_map.1 h2
   obtain ⟨y,h3,h4,rfl⟩:=upTo_mem.1 hx
   obtain ⟨h5,h6⟩:=ih.1 ha
   refine ⟨by simp [h5],?_⟩
   unfold copsB at h6 |-
   rw [Bool.and_eq_true] at h6
   rw [List.all_append,ndB_snoc,h6.1,h6.2]
   simp only [List.all_cons,List.all_nil,Bool.true_and,Bool.and_true,Bool.and_eq_true]
   refine ⟨inB_iff.2 (by omega),?_⟩
   cases hg:a.getLast? with
   | none=>rfl
   | some z=>
    rw [List.getLastD_eq_getLast?,hg] at h3
    simp only [Option.getD_some] at h3
    exact decide_eq_true (by omega)
  ·rintro ⟨h1,h2⟩
   have hne:l≠[]:=fun h=>by simp [h] at h1
   refine ⟨l.dropLast,ih.2 ⟨by simp [h1],?_⟩,List.mem_map.2 ⟨l.getLast hne,?_,List.dropLast_concat_getLast hne⟩⟩
   ·have e:=List.dropLast_concat_getLast hne
    rw [<- e] at h2
    unfold copsB at h2 |-
    rw [List.all_append,ndB_snoc] at h2
    simp only [Bool.and_eq_true] at h2
    rw [Bool.and_eq_true]
    exact ⟨h2.1.1,h2.2.1⟩
   ·have e:=List.dropLast_concat_getLast hne
    rw [<- e] at h2
    unfold copsB at h2
    rw [List.all_append,ndB_snoc] at h2
    simp only [Bool.and_eq_true,List.all_cons,List.all_nil,and_true] at h2
    have h3:=inB_iff.1 h2.1.2
    refine upTo_mem.2 ⟨(l.getLast hne).toNat,?_,by omega,by omega⟩
    rw [List.getLastD_eq_getLast?]
    have h4:=h2.2.2
    cases hg:l.dropLast.getLast? with
    | none=>simp
    | some z=>
     rw [hg] at h4
     have h4:=of_decide_eq_true h4
     simp only [Option.getD_some]
     omega
theorem confL_120 {n k:Nat} (hn:n<=8) (hk:k<=3):(confL n k).length<=120:=by
 have key:∀n:Fin 9,∀k:Fin 4,(confL n.1 k.1).length<=120:=by decide +kernel
 exact key ⟨n,by omega⟩ ⟨k,by omega⟩
theorem idxN_at {α:Type} {q:α->Bool}:∀{l:List α} {i:Nat},(∃x∈l,q x=true) -> ∃j,j<l.length/\idxN q l i=some (i+j) /\ ∃h:j<l.length,q l[j]=true:=by
 intro l
 induction l with
 | nil=>intro i ⟨x,hx,_⟩;simp at hx
 | cons a l ih=>
  intro i ⟨x,hx,hq⟩
  unfold idxN
  by_cases ha:q a=true
  ·rw [if_pos ha]
   exact ⟨0,by simp,by simp,by simp,by simpa using ha⟩
  ·rw [if_neg ha]
   have:∃x∈l,q x=true:=by
    rcases List.mem_cons.1 hx with rfl | hx
    ·exact absurd hq ha
    ·exact ⟨x,hx,hq⟩
   obtain ⟨j,h1,h2,h3,h4⟩:=ih (i:=i+1) this
   exact ⟨j+1,by simp;omega,by rw [h2];congr 1;omega,by simp;omega,by simpa using h4⟩
theorem place_at {cf:List (List Int)} {c:List Int} (h:c∈cf):∃i,i<cf.length/\placeL cf c=(i:Int)/\cf.getD i []=c:=by
 obtain ⟨j,h1,h2,h3,h4⟩:=idxN_at (q:=fun y=>decide (y=c)) (i:=0) ⟨c,h,decide_eq_true rfl⟩
 refine ⟨j,h1,?_,?_⟩
 ·unfold placeL
  rw [h2]
  simp [idxI]
 ·rw [List.getD_eq_getElem?_getD,List.getElem?_eq_getElem h3]
  simpa using h4
theorem place_rng {cf:List (List Int)} {c:List Int} (h:c∈cf):inB 0 ((cf.length:Int)-1) (placeL cf c)=true:=by
 obtain ⟨i,h1,h2,_⟩:=place_at h
 exact inB_iff.2 (by omega)
theorem ndB_of {l:List Int} (h:l.Pairwise (· <= ·)):ndB l=true:=by
 induction l with
 | nil=>rfl
 | cons a l ih=>
  rw [List.pairwise_cons] at h
  cases l with
  | nil=>rfl
  | cons b l=>
   unfold ndB
   rw [Bool.and_eq_true]
   exact ⟨decide_eq_true (h.1 b (by simp)),ih h.2⟩
theorem chL_all {p:Int->Bool} {ball:Int->List Int}:∀{cs:List Int} {now:List (List Int)},(∀c∈cs,∀x∈ball c,p x=true)->(∀l∈now,l.all p=true) -> ∀l∈chL ball cs now,l.all p=true:=by
 intro cs
 induction cs with
 | nil=>intro now _ h;exact h
 | cons c cs ih=>
  intro now hb h
  refine ih (fun c hc=>hb c (by simp [hc])) fun l hl => ?_
  obtain ⟨a,ha,h2⟩:=List.mem_flatMap.1 hl
  obtain ⟨x,hx,rfl⟩:=List.mem_map.1 h2
  rw [List.all_append,h a ha]
  simp [hb c (by simp) x hx]
theorem moves_mem {n:Nat} {ball:Int->List Int} {c:List Int} (hb:∀x∈c,(ball x).length<=8) (hb2:∀x∈c,∀y∈ball x,inB 0 ((n:Int)-1) y=true) {m:List Int} (h:m∈movesL ball c):m∈confL n c.length:=by
 have h2:=(sortS_perm _).mem_iff.1 ((comp_mem m).1 h)
 obtain ⟨x,hx,rfl⟩:=List.mem_map.1 h2
 obtain ⟨f1,f2⟩:=chL_facts (ball:=ball) (cs:=c) (now:=[[]]) (i:=0) hb (by simp)
 have f3:=chL_all (p:=inB 0 ((n:Int)-1)) (ball:=ball) (cs:=c) (now:=[[]]) hb2 (by simp) x hx
 refine confL_mem.2 ⟨by rw [sort_len,f2 x hx];simp,?_⟩
 unfold copsB
 rw [Bool.and_eq_true]
 refine ⟨List.all_eq_true.2 fun y hy=>List.all_eq_true.1 f3 y ((sortI_perm x).mem_iff.1 hy),ndB_of (sortI_sorted x)⟩
theorem moves_len {ball:Int->List Int} {cs:List Int} (h3:cs.length<=3) (hb:∀c∈cs,(ball c).length<=8):(movesL ball cs).length<=512:=by
 obtain ⟨f1,f2⟩:=chL_facts (ball:=ball) (cs:=cs) (now:=[[]]) (i:=0) hb (by simp)
 have hlen:(chL ball cs [[]]).length<=512:=by
  have:8 ^ cs.length<=8 ^ 3:=Nat.pow_le_pow_right (by omega) h3
  have e:([[]]:List (List Int)).length=1:=rfl
  rw [e] at f1
  omega
 unfold movesL compL
 rw [List.length_map]
 refine Nat.le_trans (keepI_le _ _) ?_
 rw [sortS_len,List.length_map]
 exact hlen
theorem copsB_in {n:Int} {l:List Int} (h:copsB n l=true):∀x∈l,inB 0 (n-1) x=true:=by
 unfold copsB at h
 rw [Bool.and_eq_true] at h
 exact List.all_eq_true.1 h.1
theorem board_ok {n:Nat} (hn:n<=8) {k:Nat} (hk:k<=3) {ball:Int->List Int} (hb:∀x:Nat,x<n->(ball (x:Int)).length<=8) (hb2:∀x:Nat,x<n -> ∀y∈ball (x:Int),inB 0 ((n:Int)-1) y=true):gmB n (confL n k) (movesI ball (confL n k))=true:=by
 unfold gmB
 simp only [Bool.and_eq_true,decide_eq_true_eq,List.all_eq_true]
 refine ⟨⟨⟨confL_120 hn hk,by simp [movesI]⟩,fun c hc => ?_⟩,fun l hl => ?_⟩
 ·obtain ⟨h1,h2⟩:=confL_mem.1 hc
  exact ⟨by omega,copsB_in h2⟩
 ·obtain ⟨c,hc,rfl⟩:=List.mem_map.1 hl
  obtain ⟨h1,h2⟩:=confL_mem.1 hc
  have h3:=copsB_in h2
  have g1:∀x∈c,(ball x).length<=8:=fun x hx=>by
   have:=inB_iff.1 (h3 x hx)
   have e:x=((x.toNat:Nat):Int):=by omega
   rw [e]
   exact hb _ (by omega)
  have g2:∀x∈c,∀y∈ball x,inB 0 ((n:Int)-1) y=true:=fun x hx=>by
   have:=inB_iff.1 (h3 x hx)
   have e:x=((x.toNat:Nat):Int):=by omega
   rw [e]
   exact hb2 _ (by omega)
  refine ⟨?_,fun p hp => ?_⟩
  ·rw [List.length_map]
   have:=moves_len (ball:=ball) (cs:=c) (by omega) g1
   omega
  ·obtain ⟨m,hm,rfl⟩:=List.mem_map.1 hp
   have:=moves_mem g1 g2 hm
   rw [h1] at this
   exact place_rng this
theorem okLL_conf {n k:Nat} (hn:n<=8) (hk:k<=3):okLL (confL n k)=true:=by
 have h:=confL_120 hn hk
 unfold okLL
 rw [Bool.and_eq_true]
 refine ⟨decide_eq_true (by unfold lim;omega),List.all_eq_true.2 fun l hl=>decide_eq_true ?_⟩
 rw [confL_len hl]
 unfold lim
 omega
end Go.V.W
namespace Go.V.W
open Go.Proofs
def growL (n:Nat) (l:List Int):List (List Int):=(upTo (l.getLastD 0).toNat n).map fun x=>l++[x]
theorem confL_succ (n k:Nat):confL n (k+1)=(confL n k).flatMap (growL n):=rfl
theorem upTo_cons {a n:Nat} (h:a<n):upTo a n=(a:Int)::upTo (a+1) n:=by
 unfold upTo
 rw [show n-a=(n-(a+1))+1 by omega,List.range'_succ]
 rfl
theorem upTo_nil (n:Nat):upTo n n=[]:=by simp [upTo]
theorem growL_len (n:Nat) (l:List Int):(growL n l).length<=n:=by simp [growL,upTo]
theorem conf_last {n k:Nat} {l:List Int} (h:l∈confL n k):0<=l.getLastD 0/\l.getLastD 0<=(n:Int):=by
 obtain ⟨h1,h2⟩:=confL_mem.1 h
 rw [List.getLastD_eq_getLast?]
 cases hg:l.getLast? with
 | none=>simp
 | some z=>
  have:=inB_iff.1 (copsB_in h2 z (List.mem_of_getLast? hg))
  simp only [Option.getD_some]
  omega
theorem last_at {l:List Int} (h:0<l.length):at_ I l (l.length-1)=l.getLastD 0:=by
 have e:at_ I l (l.length-1)=l[l.length-1]:=at_get (e:=I) (by omega)
 rw [e,List.getLastD_eq_getLast?,List.getLast?_eq_getElem?,List.getElem?_eq_getElem (by omega)]
 rfl
theorem cf_l4 (N n:Nat) (hn:n<=8) (k i:Int) (now:List (List Int)) (j:Nat) (hj:j<now.length) (hlen:now[j].length<=1000):∀q x f (next:List (List Int)),x+q=n->q<f->next.length+q<=1000 ->
  q44q_l4 N f ((n:Int),k,now,i,next,(j:Int),(x:Int),())=some (.inl ((n:Int),k,now,i,next++(upTo x n).map (fun x=>now[j]++[x]),(j:Int),())):=by
 intro q
 induction q with
 | zero=>
  intro x f next e1 e2 e3
  obtain ⟨f,rfl⟩:∃m,f=m+1:=⟨f-1,by omega⟩
  have e:x=n:=by omega
  subst e
  rw [upTo_nil]
  show q44q_l4_r _ _ _=_
  unfold q44q_l4_r
  simp only [lt_not,Bool.false_eq_true,if_false,List.map_nil,List.append_nil]
 | succ q ih=>
  intro x f next e1 e2 e3
  obtain ⟨f,rfl⟩:∃m,f=m+1:=⟨f-1,by omega⟩
  have hx:x<n:=by omega
  have ej:at_ K_Si now j=now[j]:=at_get (e:=K_Si) hj
  have c1:decide (now[j].length+List.length [(x:Int)]<=lim)=true:=by unfold lim;simp;omega
  have c2:decide (next.length+List.length [now[j]++[(x:Int)]]<=lim)=true:=by unfold lim;simp;omega
  show q44q_l4_r _ _ _=_
  unfold q44q_l4_r
  simp only [lt_dec hx,if_true,idxIn_nat hj,Int.toNat_natCast,ej,own_some now[j] hlen,Option.bind_some,c1,c2,wrap8 hx hn]
  rw [ih (x+1) f _ (by omega) (by omega) (by simp;omega),upTo_cons hx,List.map_cons,List.append_assoc,List.singleton_append]
theorem small_wrap {j:Nat} (h:j<=100000):IntKind.wrap .i64 ((j:Int)+1)=((j+1:Nat):Int):=by
 rw [wrap_in _ (by omega) (by omega)]
 rfl
theorem cf_l2 (N:Nat) (hN:10<=N) (n:Nat) (hn:n<=8) (k:Int) (i:Nat) (hi3:i<=3) (now:List (List Int)) (hnow:now.length<=120) (hle:∀l∈now,l.length=i/\0<=l.getLastD 0/\l.getLastD 0<=(n:Int)):∀q j f (next:List (List Int)),j+q=now.length->q<f->next.length+8*q<=990 ->
  q44q_l2 N f ((n:Int),k,now,(i:Int),next,(j:Int),())=some (.inl ((n:Int),k,(i:Int),next++(now.drop j).flatMap (growL n),())):=by
 intro q
 induction q with
 | zero=>
  intro j f next e1 e2 e3
  obtain ⟨f,rfl⟩:∃m,f=m+1:=⟨f-1,by omega⟩
  have e:j=now.length:=by omega
  subst e
  rw [List.drop_of_length_le (Nat.le_refl _)]
  show q44q_l2_r _ _ _=_
  unfold q44q_l2_r
  simp only [lt_not,Bool.false_eq_true,if_false,List.flatMap_nil,List.append_nil]
 | succ q ih=>
  intro j f next e1 e2 e3
  obtain ⟨f,rfl⟩:∃m,f=m+1:=⟨f-1,by omega⟩
  have hj:j<now.length:=by omega
  obtain ⟨h1,h2,h3⟩:=hle _ (List.getElem_mem hj)
  have ej:at_ K_Si now j=now[j]:=at_get (e:=K_Si) hj
  have hin:=cf_l4 N n hn k (i:Int) now j hj (by omega) (n-(now[j].getLastD 0).toNat) (now[j].getLastD 0).toNat N next (by omega) (by omega) (by omega)
  have e4:(((now[j].getLastD 0).toNat:Nat):Int)=now[j].getLastD 0:=by omega
  rw [e4] at hin
  have hg:(upTo (now[j].getLastD 0).toNat n).map (fun x=>now[j]++[x])=growL n now[j]:=rfl
  rw [hg] at hin
  have hgl:=growL_len n now[j]
  have fin:=ih (j+1) f (next++growL n now[j]) (by omega) (by omega) (by simp;omega)
  rw [List.append_assoc,<- List.flatMap_cons,<- List.drop_eq_getElem_cons hj] at fin
  show q44q_l2_r _ _ _=_
  unfold q44q_l2_r
  by_cases hi:0<i
  ·have hp:decide ((i:Int)>0)=true:=by simp;omega
   have hw:IntKind.wrap .i64 ((i:Int)-1)=((i-1:Nat):Int):=wrap_down hi (by unfold maxLen;omega)
   have hx:idxIn ((i-1:Nat):Int) now[j].length=true:=idxIn_nat (by omega)
   have hl:at_ I now[j] (i-1)=now[j].getLastD 0:=by
    rw [<- h1]
    exact last_at (by omega)
   simp only [lt_dec hj,if_true,hp,idxIn_nat hj,hw,Int.toNat_natCast,ej,hx,hl,hin,Option.bind_some,small_wrap (show j<=100000 by omega),fin]
  ·have hp:decide ((i:Int)>0)=false:=by simp;omega
   have hl:now[j].getLastD 0=0:=by
    have:now[j]=[]:=List.length_eq_zero_iff.1 (by omega)
    rw [this]
    rfl
   rw [hl] at hin
   simp only [lt_dec hj,if_true,hp,Bool.false_eq_true,if_false,hin,Option.bind_some,small_wrap (show j<=100000 by omega),fin]
theorem cf_l0 (N:Nat) (hN:200<=N) (n:Nat) (hn:n<=8) (k:Nat) (hk:k<=3):∀q i f,i+q=k->q<f ->
  q44q_l0 N f ((n:Int),(k:Int),confL n i,(i:Int),())=some (.inl (confL n k,())):=by
 intro q
 induction q with
 | zero=>
  intro i f e1 e2
  obtain ⟨f,rfl⟩:∃m,f=m+1:=⟨f-1,by omega⟩
  have e:i=k:=by omega
  subst e
  show q44q_l0_r _ _ _=_
  unfold q44q_l0_r
  simp only [lt_not,Bool.false_eq_true,if_false]
 | succ q ih=>
  intro i f e1 e2
  obtain ⟨f,rfl⟩:∃m,f=m+1:=⟨f-1,by omega⟩
  have hi:i<k:=by omega
  have h120:=confL_120 hn (show i<=3 by omega)
  have hin:=cf_l2 N (by omega) n hn (k:Int) i (by omega) (confL n i) h120 (fun l hl=>⟨confL_len hl,conf_last hl⟩) (confL n i).length 0 N [] (by omega) (by omega) (by simp;omega)
  simp only [Int.natCast_zero,List.drop_zero,List.nil_append] at hin
  show q44q_l0_r _ _ _=_
  unfold q44q_l0_r
  simp only [lt_dec hi,if_true,hin,Option.bind_some,small_wrap (show i<=100000 by omega),<- confL_succ]
  exact ih (i+1) f (by omega) (by omega)
theorem conf_parts {d:Int×Int×Unit} {r} (h:G_configs d=some r):∃n k:Nat,n<=8/\k<=3/\d=((n:Int),(k:Int),())/\r=(confL n k,()):=by
 obtain ⟨n,k,_⟩:=d
 unfold G_configs at h
 split at h
 ·rename_i hc
  simp only [Bool.and_eq_true] at hc
  have h1:=inB_iff.1 hc.1
  have h2:=inB_iff.1 hc.2
  have h:=Option.some.inj h
  subst h
  refine ⟨n.toNat,k.toNat,by omega,by omega,?_,rfl⟩
  rw [show ((n.toNat:Nat):Int)=n by omega,show ((k.toNat:Nat):Int)=k by omega]
 ·cases h
theorem l4Configs_lim (d) (r) (h:G_configs d=some r):∃N,F_q44q N d=some r:=by
 obtain ⟨n,k,hn,hk,rfl,rfl⟩:=conf_parts h
 refine ⟨200,?_⟩
 have:=cf_l0 200 (by omega) n hn k hk k 0 200 (by omega) (by omega)
 unfold F_q44q
 simp only [Int.natCast_zero] at this
 have e:confL n 0=[[]]:=rfl
 rw [e] at this
 simp only [this,Option.bind_some]
end Go.V.W
namespace Go.V.W
open Go.Proofs
theorem at_place {cf:List (List Int)} (h:okLL cf=true) (c:List Int):G_l4At (cf,c,())=some (placeL cf c,()):=by
 unfold G_l4At
 simp only [h,if_true]
 rfl
theorem mk_l2 (N:Nat) (g:Gr) (z y:Gm) (cf:List (List Int)) (hy:y.1=cf) (hok:okLL cf=true) (i:Int) (L:List (List Int)) (hL:L.length<=512):∀q j f (acc:List Int),j+q=L.length->q<f->acc.length+q<=1000 ->
  q72q_l2 N f (g,z,y,i,L,acc,(j:Int),())=some (.inl (g,z,y,i,acc++(L.drop j).map (placeL cf),())):=by
 intro q
 induction q with
 | zero=>
  intro j f acc e1 e2 e3
  obtain ⟨f,rfl⟩:∃m,f=m+1:=⟨f-1,by omega⟩
  have e:j=L.length:=by omega
  subst e
  rw [List.drop_of_length_le (Nat.le_refl _)]
  show q72q_l2_r _ _ _=_
  unfold q72q_l2_r
  simp only [lt_not,Bool.false_eq_true,if_false,List.map_nil,List.append_nil]
 | succ q ih=>
  intro j f acc e1 e2 e3
  obtain ⟨f,rfl⟩:∃m,f=m+1:=⟨f-1,by omega⟩
  have hj:j<L.length:=by omega
  have ej:at_ K_Si L j=L[j]:=at_get (e:=K_Si) hj
  have c1:decide (acc.length+List.length [placeL cf L[j]]<=lim)=true:=by unfold lim;simp;omega
  show q72q_l2_r _ _ _=_
  unfold q72q_l2_r
  simp only [lt_dec hj,if_true,idxIn_nat hj,Int.toNat_natCast,ej,hy,at_place hok,Option.bind_some,c1,small_wrap (show j<=100000 by omega)]
  rw [ih (j+1) f _ (by omega) (by omega) (by simp;omega),List.drop_eq_getElem_cons hj,List.map_cons,List.append_assoc,List.singleton_append]
theorem conf_nodes {n k:Nat} (hk:k<=3) {c:List Int} (h:c∈confL n k):nodesB (n:Int) c=true:=by
 obtain ⟨h1,h2⟩:=confL_mem.1 h
 exact cops_nodes h2 (by omega)
theorem mk_l0 (N:Nat) (hN:1000<=N) (g:Gr) (hG:grB g=true) (z:Gm) (k:Nat) (hk:k<=3):∀q i f (acc:List (List Int)),i+q=(confL g.1.toNat k).length->q<f->acc.length+q<=1000 ->
  q72q_l0 N f (g,z,(confL g.1.toNat k,acc,[],()),(i:Int),())=some (.inl (g,z,(confL g.1.toNat k,acc++((confL g.1.toNat k).drop i).map (fun c=>(movesL (ballF g.1.toNat g.2.1) c).map (placeL (confL g.1.toNat k))),[],()),())):=by
 obtain ⟨g1,g2,g3,g4⟩:=grB_parts hG
 have h120:=confL_120 g3 hk
 have hok:=okLL_conf g3 hk
 intro q
 induction q with
 | zero=>
  intro i f acc e1 e2 e3
  obtain ⟨f,rfl⟩:∃m,f=m+1:=⟨f-1,by omega⟩
  have e:i=(confL g.1.toNat k).length:=by omega
  subst e
  rw [List.drop_of_length_le (Nat.le_refl _)]
  show q72q_l0_r _ _ _=_
  unfold q72q_l0_r
  simp only [lt_not,Bool.false_eq_true,if_false,List.map_nil,List.append_nil]
 | succ q ih=>
  intro i f acc e1 e2 e3
  obtain ⟨f,rfl⟩:∃m,f=m+1:=⟨f-1,by omega⟩
  have hi:i<(confL g.1.toNat k).length:=by omega
  have ei:at_ K_Si (confL g.1.toNat k) i=(confL g.1.toNat k)[i]:=at_get (e:=K_Si) hi
  have hnb:=conf_nodes hk (List.getElem_mem hi)
  have hnb2:nodesB g.1 (confL g.1.toNat k)[i]=true:=by
   rw [<- g2] at hnb
   exact hnb
  have hmv:G_l4Moves (g,(confL g.1.toNat k)[i],())=some (movesL (ballF g.1.toNat g.2.1) (confL g.1.toNat k)[i],()):=by
   unfold G_l4Moves
   simp only [hG,hnb2,Bool.and_self,if_true]
  obtain ⟨n1,n2⟩:=nodes_parts hnb
  have hml:=moves_len (ball:=ballF g.1.toNat g.2.1) n1 (fun c hc=>by have:=ballF_len g.1.toNat g.2.1 c;omega)
  have hin:=mk_l2 N g z (confL g.1.toNat k,acc,[],()) (confL g.1.toNat k) rfl hok (i:Int) (movesL (ballF g.1.toNat g.2.1) (confL g.1.toNat k)[i]) hml (movesL (ballF g.1.toNat g.2.1) (confL g.1.toNat k)[i]).length 0 N [] (by omega) (by omega) (by simp;omega)
  simp only [Int.natCast_zero,List.drop_zero,List.nil_append] at hin
  have c1:∀l:List Int,decide (acc.length+List.length [l]<=lim)=true:=fun l=>by unfold lim;simp;omega
  show q72q_l0_r _ _ _=_
  unfold q72q_l0_r
  simp only [lt_dec hi,if_true,idxIn_nat hi,Int.toNat_natCast,ei,hmv,Option.bind_some,hin,c1,small_wrap (show i<=100000 by omega)]
  rw [ih (i+1) f _ (by omega) (by omega) (by simp;omega),List.drop_eq_getElem_cons hi,List.map_cons,List.append_assoc,List.singleton_append]
theorem mk_l4 (N:Nat) (g:Gr) (hG:grB g=true) (z:Gm) (cf mv:List (List Int)):∀q x f (acc:List (List Int)),x+q=g.1.toNat->q<f->acc.length+q<=1000 ->
  q72q_l4 N f (g,z,(cf,mv,acc,()),(x:Int),())=some (.inl (z,(cf,mv,acc++(List.range' x q).map (fun y:Nat=>ballF g.1.toNat g.2.1 (y:Int)),()),())):=by
 obtain ⟨g1,g2,g3,g4⟩:=grB_parts hG
 intro q
 induction q with
 | zero=>
  intro x f acc e1 e2 e3
  obtain ⟨f,rfl⟩:∃m,f=m+1:=⟨f-1,by omega⟩
  have e:x=g.1.toNat:=by omega
  have hlt:decide ((x:Int)<g.1)=false:=decide_eq_false (by omega)
  show q72q_l4_r _ _ _=_
  unfold q72q_l4_r
  simp only [hlt,Bool.false_eq_true,if_false,List.range'_zero,List.map_nil,List.append_nil]
 | succ q ih=>
  intro x f acc e1 e2 e3
  obtain ⟨f,rfl⟩:∃m,f=m+1:=⟨f-1,by omega⟩
  have hlt:decide ((x:Int)<g.1)=true:=decide_eq_true (by omega)
  have c1:∀l:List Int,decide (acc.length+List.length [l]<=lim)=true:=fun l=>by unfold lim;simp;omega
  show q72q_l4_r _ _ _=_
  unfold q72q_l4_r
  simp only [hlt,if_true,ball_some hG (show x<g.1.toNat by omega),Option.bind_some,c1,small_wrap (show x<=100000 by omega)]
  rw [ih (x+1) f _ (by omega) (by omega) (by simp;omega),List.range'_succ,List.map_cons,List.append_assoc,List.singleton_append]
theorem l4Make_lim (d) (r) (h:G_l4Make d=some r):∃N,F_q72q N d=some r:=by
 obtain ⟨g,k,_⟩:=d
 unfold G_l4Make at h
 split at h
 ·rename_i hc
  simp only [Bool.and_eq_true] at hc
  obtain ⟨hG,hk⟩:=hc
  have hk2:=inB_iff.1 hk
  obtain ⟨g1,g2,g3,g4⟩:=grB_parts hG
  have h:=Option.some.inj h
  subst h
  refine ⟨1000,?_⟩
  have h120:=confL_120 g3 (show k.toNat<=3 by omega)
  have hcf:G_configs (g.1,k,())=some (confL g.1.toNat k.toNat,()):=by
   unfold G_configs
   have i1:inB 0 8 g.1=true:=inB_iff.2 (by omega)
   simp only [i1,hk,Bool.and_self,if_true]
  have h0:=mk_l0 1000 (by omega) g hG ([],[],[],()) k.toNat (by omega) (confL g.1.toNat k.toNat).length 0 1000 [] (by omega) (by omega) (by simp;omega)
  simp only [Int.natCast_zero,List.drop_zero,List.nil_append] at h0
  have h4:=mk_l4 1000 g hG ([],[],[],()) (confL g.1.toNat k.toNat) ((confL g.1.toNat k.toNat).map (fun c=>(movesL (ballF g.1.toNat g.2.1) c).map (placeL (confL g.1.toNat k.toNat)))) g.1.toNat 0 1000 [] (by omega) (by omega) (by simp;omega)
  simp only [Int.natCast_zero,List.nil_append,<- List.range_eq_range'] at h4
  unfold F_q72q
  simp only [hcf,Option.bind_some,h0,h4]
  rfl
 ·cases h
theorem ballF_in {n:Nat} (es:List E) (x:Int):∀y∈ballF n es x,inB 0 ((n:Int)-1) y=true:=fun y hy=>by
 obtain ⟨z,hz,rfl⟩:=setF_nat y hy
 exact inB_iff.2 (by omega)
end Go.V.W
namespace Go.V.W
open Go.Proofs
theorem tabM_congr {m n:Nat} {f g:Nat->Nat->Int} (h:∀c x,c<m->x<n->f c x=g c x):tabM m n f=tabM m n g:=by
 unfold tabM
 refine List.map_congr_left fun c hc=>List.map_congr_left fun x hx=>h c x (List.mem_range.1 hc) (List.mem_range.1 hx)
theorem anyG_spec {cf mv:List (List Int)} {ball:Int->List Int} {n:Nat} {T:Tab}:anyG cf mv ball n T=true ↔ ∃c x,c<cf.length/\x<n/\canG cf mv ball T c x=true:=by
 unfold anyG
 simp only [List.any_eq_true,List.mem_range]
 constructor
 ·rintro ⟨c,hc,r,hr,h⟩
  exact ⟨c,r,hc,hr,h⟩
 ·rintro ⟨c,r,hc,hr,h⟩
  exact ⟨c,hc,r,hr,h⟩
theorem gmB_parts {n:Nat} {cf mv:List (List Int)} (h:gmB n cf mv=true):cf.length<=120/\mv.length=cf.length/\(∀c,c<cf.length->(at_ K_Si cf c).length<=3/\cf.getD c []=at_ K_Si cf c /\ ∀x∈at_ K_Si cf c,inB 0 ((n:Int)-1) x=true) /\
  (∀c,c<cf.length->(at_ K_Si mv c).length<=1000/\mv.getD c []=at_ K_Si mv c /\ ∀d∈at_ K_Si mv c,inB 0 ((cf.length:Int)-1) d=true):=by
 unfold gmB at h
 simp only [Bool.and_eq_true,decide_eq_true_eq,List.all_eq_true] at h
 obtain ⟨⟨⟨h1,h2⟩,h3⟩,h4⟩:=h
 refine ⟨h1,h2,fun c hc => ?_,fun c hc => ?_⟩
 ·have e:at_ K_Si cf c=cf[c]:=at_get (e:=K_Si) hc
  have:=h3 _ (List.getElem_mem hc)
  rw [e]
  refine ⟨this.1,?_,this.2⟩
  rw [List.getD_eq_getElem?_getD,List.getElem?_eq_getElem hc]
  rfl
 ·have hc2:c<mv.length:=by omega
  have e:at_ K_Si mv c=mv[c]:=at_get (e:=K_Si) hc2
  have:=h4 _ (List.getElem_mem hc2)
  rw [e]
  refine ⟨this.1,?_,this.2⟩
  rw [List.getD_eq_getElem?_getD,List.getElem?_eq_getElem hc2]
  rfl
theorem blB_parts {bl:List (List Int)} (h:blB bl=true):bl.length<=8 /\ ∀x:Nat,x<bl.length->at_ K_Si bl x=ballA bl (x:Int)/\(ballA bl (x:Int)).length<=8 /\ ∀z∈ballA bl (x:Int),∃y:Nat,y<bl.length/\z=(y:Int):=by
 unfold blB at h
 simp only [Bool.and_eq_true,decide_eq_true_eq,List.all_eq_true] at h
 refine ⟨h.1,fun x hx => ?_⟩
 have e:at_ K_Si bl x=bl[x]:=at_get (e:=K_Si) hx
 have e2:ballA bl (x:Int)=bl[x]:=by
  unfold ballA
  rw [Int.toNat_natCast,List.getD_eq_getElem?_getD,List.getElem?_eq_getElem hx]
  rfl
 have:=h.2 _ (List.getElem_mem hx)
 rw [e,e2]
 refine ⟨rfl,this.1,fun z hz => ?_⟩
 obtain ⟨y,hy,h2⟩:=nodeX (this.2 z hz)
 exact ⟨y,h2,hy⟩
end Go.V.W
namespace Go.V.W
open Go.Proofs
theorem after_congr {cf:List (List Int)} {b1 b2:Int->List Int} {T:Tab} {d x:Int} (h:b1 x=b2 x):afterG cf b1 T d x=afterG cf b2 T d x:=by
 unfold afterG
 rw [h]
theorem canG_congr {cf mv:List (List Int)} {b1 b2:Int->List Int} {T:Tab} {c x:Nat} (h:b1 (x:Int)=b2 (x:Int)):canG cf mv b1 T c x=canG cf mv b2 T c x:=by
 unfold canG
 simp only [after_congr (cf:=cf) (T:=T) h]
theorem anyG_congr {cf mv:List (List Int)} {b1 b2:Int->List Int} {n:Nat} (h:∀x:Nat,x<n->b1 (x:Int)=b2 (x:Int)) (T:Tab):anyG cf mv b1 n T=anyG cf mv b2 n T:=by
 apply bool_eq_iff
 rw [anyG_spec,anyG_spec]
 constructor
 ·rintro ⟨c,x,hc,hx,h2⟩
  exact ⟨c,x,hc,hx,by rw [<- canG_congr (h x hx)];exact h2⟩
 ·rintro ⟨c,x,hc,hx,h2⟩
  exact ⟨c,x,hc,hx,by rw [canG_congr (h x hx)];exact h2⟩
theorem gameT_congr {cf mv:List (List Int)} {b1 b2:Int->List Int} {n:Nat} (h:∀x:Nat,x<n->b1 (x:Int)=b2 (x:Int)):∀(k:Nat) (t:Int) (T:Tab),gameT cf mv b1 n k t T=gameT cf mv b2 n k t T:=by
 intro k
 induction k with
 | zero=>intro t T;rfl
 | succ k ih=>
  intro t T
  unfold gameT
  rw [anyG_congr h T]
  have:stepG cf mv b1 n t T=stepG cf mv b2 n t T:=tabM_congr fun c x hc hx=>by rw [canG_congr (h x hx)]
  rw [this,ih]
theorem times_congr {cf mv:List (List Int)} {b1 b2:Int->List Int} {n:Nat} (h:∀x:Nat,x<n->b1 (x:Int)=b2 (x:Int)):timesG cf mv b1 n=timesG cf mv b2 n:=gameT_congr h _ _ _
theorem ballA_L {n:Nat} (es:List E) {x:Nat} (hx:x<n):ballA (ballsL n es) (x:Int)=ballF n es (x:Int):=by
 unfold ballA ballsL
 rw [Int.toNat_natCast,List.getD_eq_getElem?_getD,List.getElem?_map,List.getElem?_range hx]
 rfl
theorem ballsL_len (n:Nat) (es:List E):(ballsL n es).length=n:=by simp [ballsL]
theorem balls_ok {n:Nat} (hn:n<=8) (es:List E):blB (ballsL n es)=true:=by
 unfold blB
 rw [ballsL_len,Bool.and_eq_true]
 refine ⟨decide_eq_true hn,List.all_eq_true.2 fun b hb => ?_⟩
 unfold ballsL at hb
 obtain ⟨x,_,rfl⟩:=List.mem_map.1 hb
 have:=ballF_len n es (x:Int)
 rw [Bool.and_eq_true]
 exact ⟨decide_eq_true (by omega),List.all_eq_true.2 (ballF_in es (x:Int))⟩
theorem field_parts {n:Int} {es:List E} {v:Unit} {k:Int} (h:fieldB (n,es,v) k=true):graphB (n,es,v)=true /\ ∃m q:Nat,n=(m:Int)/\k=(q:Int)/\1<=m/\m<=8/\1<=q/\q<=3:=by
 unfold fieldB at h
 simp only [Bool.and_eq_true,decide_eq_true_eq] at h
 obtain ⟨⟨h1,h2⟩,h3⟩:=h
 obtain ⟨h4,h5⟩:=graphB_n h1
 have h3:=inB_iff.1 h3
 exact ⟨h1,n.toNat,k.toNat,by omega,by omega,by omega,by omega,by omega,by omega⟩
theorem game_spec {m q:Nat} {es:List E} {v:Unit} (hg:graphB ((m:Int),es,v)=true) (ho:okL es=true) (hq:q<=3) (u w:Unit) :
  G_l4Make (((m:Int),es,v),(q:Int),u)=some ((cfG ((m:Int),es,v) q,mvG ((m:Int),es,v) q,ballsL m es,()),())/\G_l4Times ((cfG ((m:Int),es,v) q,mvG ((m:Int),es,v) q,ballsL m es,()),w)=some (tmG ((m:Int),es,v) q,()) /\
  gmB (ballsL m es).length (cfG ((m:Int),es,v) q) (mvG ((m:Int),es,v) q)=true/\blB (ballsL m es)=true:=by
 obtain ⟨h0,h8⟩:=graphB_n hg
 have hm:m<=8:=by omega
 have hG:=graph_grB hg ho
 have hk:inB 0 3 (q:Int)=true:=inB_iff.2 (by omega)
 have hb:=board_ok (n:=m) hm hq (ball:=ballF m es) (fun x _=>by have:=ballF_len m es (x:Int);omega) (fun x _=>ballF_in es (x:Int))
 have hb2:gmB (ballsL m es).length (cfG ((m:Int),es,v) q) (mvG ((m:Int),es,v) q)=true:=by
  rw [ballsL_len]
  unfold mvG cfG
  simp only [Int.toNat_natCast]
  exact hb
 have hbl:=balls_ok hm es
 refine ⟨?_,?_,hb2,hbl⟩
 ·unfold G_l4Make mvG cfG
  simp only [hG,hk,Bool.and_self,if_true,Int.toNat_natCast]
 ·unfold G_l4Times
  simp only [hb2,hbl,Bool.and_self,if_true]
  unfold tmG
  simp only [ballsL_len,Int.toNat_natCast]
  rw [times_congr fun x hx=>ballA_L es hx]
theorem specField {g:Gr} (ho:okL g.2.1=true) (k:Int) (u:Unit):F_q61q 0 (g,k,u)=some (fieldB g k,()):=by
 unfold F_q61q G_graph fieldB
 simp only [ho,if_true,Option.bind_some,l1In_eq]
 cases graphB g with
 | false=>simp only [Bool.false_eq_true,if_false,Bool.false_and]
 | true=>
  cases decide (g.1>0) with
  | false=>simp only [Bool.false_eq_true,if_false,if_true,Bool.and_false,Bool.false_and]
  | true=>simp only [if_true,Bool.true_and]
theorem okLL_8 {T:List (List Int)} (h1:T.length<=120) (h2:∀l∈T,l.length<=8):okLL T=true:=okLL_small (by omega) (List.all_eq_true.2 fun l hl=>decide_eq_true (by have:=h2 l hl;omega))
end Go.V.W
namespace Go.V.W
open Go.Proofs
theorem at_getDS {l:List (List Int)} {i:Nat} (h:i<l.length):at_ K_Si l i=l.getD i []:=by
 have e:at_ K_Si l i=l[i]:=at_get (e:=K_Si) h
 rw [e,List.getD_eq_getElem?_getD,List.getElem?_eq_getElem h]
 rfl
end Go.V.W
namespace Go.V.W
open Go.Proofs
structure TimI (cf mv:List (List Int)) (ball:Int->List Int) (n:Nat) (T:Tab):Prop where
 caught:∀c x:Nat,c<cf.length->x<n->hasL (cf.getD c []) (x:Int)=true->tab2 T (c:Int) (x:Int)=0
 some:∀c x:Nat,c<cf.length->x<n->0<=tab2 T (c:Int) (x:Int)->hasL (cf.getD c []) (x:Int)=true\/(1<=tab2 T (c:Int) (x:Int) /\ ∃d∈mv.getD c [],0<=afterG cf ball T d (x:Int))
end Go.V.W
namespace Go.V.W
open Go.Proofs
structure PlayI (m q:Nat) (es:List E) (v:Unit):Prop where
 hg:graphB ((m:Int),es,v)=true
 ho:okL es=true
 m1:1<=m
 m8:m<=8
 q3:q<=3
end Go.V.W
namespace Go.V.W
open Go.Proofs
structure RoundI (cf mv:List (List Int)) (ball:Int->List Int) (n:Nat) (t:Int) (T:Tab):Prop where
 pos:1<=t
 low:∀c x:Nat,c<cf.length->x<n -> -1<=tab2 T (c:Int) (x:Int)
 high:∀c x:Nat,c<cf.length->x<n->tab2 T (c:Int) (x:Int)<t
 none:∀c x:Nat,c<cf.length->x<n->tab2 T (c:Int) (x:Int)<0 -> ∀d∈mv.getD c [],0<=afterG cf ball T d (x:Int)->t-1<=afterG cf ball T d (x:Int)
 ex:∀c x:Nat,c<cf.length->x<n->1<=tab2 T (c:Int) (x:Int) -> ∃d∈mv.getD c [],0<=afterG cf ball T d (x:Int)/\afterG cf ball T d (x:Int)+1<=tab2 T (c:Int) (x:Int)
 least:∀c x:Nat,c<cf.length->x<n->1<=tab2 T (c:Int) (x:Int) -> ∀d∈mv.getD c [],0<=afterG cf ball T d (x:Int)->tab2 T (c:Int) (x:Int)<=afterG cf ball T d (x:Int)+1
 zero:∀c x:Nat,c<cf.length->x<n->(tab2 T (c:Int) (x:Int)=0↔hasL (cf.getD c []) (x:Int)=true)
structure TimesI (cf mv:List (List Int)) (ball:Int->List Int) (n:Nat) (T:Tab):Prop where
 low:∀c x:Nat,c<cf.length->x<n -> -1<=tab2 T (c:Int) (x:Int)
 none:∀c x:Nat,c<cf.length->x<n->tab2 T (c:Int) (x:Int)<0 -> ∀d∈mv.getD c [],afterG cf ball T d (x:Int)<0
 ex:∀c x:Nat,c<cf.length->x<n->1<=tab2 T (c:Int) (x:Int) -> ∃d∈mv.getD c [],0<=afterG cf ball T d (x:Int)/\afterG cf ball T d (x:Int)+1<=tab2 T (c:Int) (x:Int)
 least:∀c x:Nat,c<cf.length->x<n->1<=tab2 T (c:Int) (x:Int) -> ∀d∈mv.getD c [],0<=afterG cf ball T d (x:Int)->tab2 T (c:Int) (x:Int)<=afterG cf ball T d (x:Int)+1
 zero:∀c x:Nat,c<cf.length->x<n->(tab2 T (c:Int) (x:Int)=0↔hasL (cf.getD c []) (x:Int)=true)
end Go.V.W
namespace Go.V.W
open Go.Proofs
theorem setF_risingB (p:Nat->Bool):∀(k x:Nat),risingB (setF p k x)=true /\ ∀z∈setF p k x,(x:Int)<=z:=by
 intro k
 induction k with
 | zero=>intro x;exact ⟨rfl,fun z hz=>by simp [setF] at hz⟩
 | succ k ih=>
  intro x
  obtain ⟨i1,i2⟩:=ih (x+1)
  unfold setF
  split
  ·refine ⟨?_,fun z hz => ?_⟩
   ·cases hs:setF p k (x+1) with
    | nil=>rfl
    | cons a l=>
     have:=i2 a (by rw [hs];simp)
     rw [hs] at i1
     unfold risingB
     rw [Bool.and_eq_true]
     exact ⟨decide_eq_true (by omega),i1⟩
   ·rcases List.mem_cons.1 hz with rfl | hz
    ·exact Int.le_refl _
    ·have:=i2 z hz;omega
  ·exact ⟨i1,fun z hz=>by have:=i2 z hz;omega⟩
theorem has_mem {l:List Int} {x:Int}:hasL l x=true↔x∈l:=by
 unfold hasL
 rw [List.any_eq_true]
 constructor
 ·rintro ⟨z,hz,h⟩
  have:z=x:=by simpa using h
  rw [<- this]
  exact hz
 ·intro h
  exact ⟨x,h,by simp⟩
end Go.V.W
namespace Go.V.W
open Go.Proofs
theorem chL_keep {ball:Int->List Int} {x:Int}:∀{cs:List Int} {now:List (List Int)},(∀c∈cs,ball c≠[])->(∃l∈now,x∈l) -> ∃l∈chL ball cs now,x∈l:=by
 intro cs
 induction cs with
 | nil=>intro now _ h;exact h
 | cons c cs ih=>
  rintro now hb ⟨l,hl,hx⟩
  refine ih (fun c hc=>hb c (by simp [hc])) ?_
  cases hbc:ball c with
  | nil=>exact absurd hbc (hb c (by simp))
  | cons y ys=>
   refine ⟨l++[y],List.mem_flatMap.2 ⟨l,hl,List.mem_map.2 ⟨y,by simp,rfl⟩⟩,by simp [hx]⟩
theorem chL_has {ball:Int->List Int} {x k:Int}:∀{cs:List Int} {now:List (List Int)},(∀c∈cs,ball c≠[])->now≠[]->k∈cs->x∈ball k -> ∃l∈chL ball cs now,x∈l:=by
 intro cs
 induction cs with
 | nil=>intro now _ _ h;simp at h
 | cons c cs ih=>
  intro now hb hn hk hx
  have hb':∀c∈cs,ball c≠[]:=fun c hc=>hb c (by simp [hc])
  rcases List.mem_cons.1 hk with rfl | hk
  ·refine chL_keep (cs:=cs) hb' ?_
   cases hnw:now with
   | nil=>exact absurd hnw hn
   | cons l now=>exact ⟨l++[x],List.mem_flatMap.2 ⟨l,by simp,List.mem_map.2 ⟨x,hx,rfl⟩⟩,by simp⟩
  ·refine ih hb' ?_ hk hx
   cases hnw:now with
   | nil=>exact absurd hnw hn
   | cons l now=>
    cases hbc:ball c with
    | nil=>exact absurd hbc (hb c (by simp))
    | cons y ys=>simp
theorem moves_has {ball:Int->List Int} {c:List Int} (hb:∀k∈c,ball k≠[]) {k x:Int} (hk:k∈c) (hx:x∈ball k):∃m∈movesL ball c,x∈m:=by
 obtain ⟨l,hl,hxl⟩:=chL_has (now:=[[]]) hb (by simp) hk hx
 exact ⟨sortI l,(comp_mem _).2 ((sortS_perm _).mem_iff.2 (List.mem_map.2 ⟨l,hl,rfl⟩)),(sortI_perm l).mem_iff.2 hxl⟩
end Go.V.W
namespace Go.V.W
open Go.Proofs
theorem okL_mx {α:Type} {l:List α} (h:okL l=true):l.length<=maxLen:=lim_max (of_decide_eq_true h)
theorem rHas_lim (d) (r) (h:G_rHas d=some r):∃N,F_laws_rHas N d=some r:=by
 obtain ⟨l,x,_⟩:=d
 unfold G_rHas at h
 split at h
 ·rename_i hl
  have hl:okL l=true:=hl
  have hmx:=okL_mx hl
  have h:=Option.some.inj h
  subst h
  refine ⟨l.length+1,?_⟩
  unfold F_laws_rHas
  have:=loop_idx (L:=laws_rHas_l0 (l.length+1)) (r:=laws_rHas_l0_r (l.length+1)) (fun _ _=>rfl) (e:=I) l (mk:=fun i=>(l,x,(i:Int),())) (q:=fun z=>z==x) (o:=fun _=>.inl (true,())) (f:=.inr (.inl ()))
   (by
    intro back i hi
    unfold laws_rHas_l0_r
    simp only [lt_dec hi,if_true,idxIn_nat hi,Int.toNat_natCast,wrap_up hi hmx])
   (by intro back;unfold laws_rHas_l0_r;simp only [lt_not,Bool.false_eq_true,if_false]) l.length 0 (by omega) (by omega)
  simp only [Int.natCast_zero,List.drop_zero] at this
  have hge:=idxI_ge (fun z=>z==x) l 0
  simp only [this,Option.bind_some]
  unfold hasL
  cases hi:idxN (fun z=>z==x) l 0 with
  | none=>
   rw [hi] at hge
   have:(l.any fun z=>z==x)=false:=by rw [<- hge];rfl
   simp only [this]
  | some j=>
   rw [hi] at hge
   have:(l.any fun z=>z==x)=true:=by
    rw [<- hge]
    simp [idxI]
   simp only [this]
 ·cases h
theorem ri_l0 (N:Nat) (a b:List Int) (hl:a.length=b.length) (hmx:a.length<=maxLen):∀k i f,i+k=a.length->k<f -> ∃o,laws_rInts_l0 N f (a,b,(i:Int),())=some o/\((o=.inl (false,()) /\ ¬a.drop i=b.drop i)\/(o=.inr (.inl ())/\a.drop i=b.drop i)):=by
 intro k
 induction k with
 | zero=>
  intro i f h1 h2
  obtain ⟨f,rfl⟩:∃m,f=m+1:=⟨f-1,by omega⟩
  have e:i=a.length:=by omega
  refine ⟨.inr (.inl ()),?_,.inr ⟨rfl,by rw [List.drop_of_length_le (by omega),List.drop_of_length_le (by omega)]⟩⟩
  subst e
  show laws_rInts_l0_r _ _ _=_
  unfold laws_rInts_l0_r
  simp only [lt_not,Bool.false_eq_true,if_false]
 | succ k ih=>
  intro i f h1 h2
  obtain ⟨f,rfl⟩:∃m,f=m+1:=⟨f-1,by omega⟩
  have hi:i<a.length:=by omega
  have hi2:i<b.length:=by omega
  have ea:at_ I a i=a[i]:=at_get (e:=I) hi
  have eb:at_ I b i=b[i]:=at_get (e:=I) hi2
  obtain ⟨o,o1,o2⟩:=ih (i+1) f (by omega) (by omega)
  rw [List.drop_eq_getElem_cons hi,List.drop_eq_getElem_cons hi2]
  have step:laws_rInts_l0 N (f+1) (a,b,(i:Int),())=if (a[i] != b[i])=true then some (.inl (false,())) else laws_rInts_l0 N f (a,b,((i+1:Nat):Int),()):=by
   show laws_rInts_l0_r _ _ _=_
   unfold laws_rInts_l0_r
   simp only [lt_dec hi,if_true,idxIn_nat hi,idxIn_nat hi2,Int.toNat_natCast,ea,eb,wrap_up hi hmx]
  rw [step]
  by_cases e:a[i]=b[i]
  ·have:(a[i] != b[i])=false:=by simp [e]
   rw [this]
   simp only [Bool.false_eq_true,if_false]
   refine ⟨o,o1,?_⟩
   rcases o2 with ⟨p1,p2⟩ | ⟨p1,p2⟩
   ·exact .inl ⟨p1,fun h=>p2 (List.cons.inj h).2⟩
   ·exact .inr ⟨p1,by rw [e,p2]⟩
  ·have:(a[i] != b[i])=true:=by simp [e]
   rw [this]
   simp only [if_true]
   exact ⟨_,rfl,.inl ⟨rfl,fun h=>e (List.cons.inj h).1⟩⟩
theorem rInts_lim (d) (r) (h:G_rInts d=some r):∃N,F_laws_rInts N d=some r:=by
 obtain ⟨a,b,_⟩:=d
 unfold G_rInts at h
 split at h
 ·rename_i hl
  have hl:okL a=true:=hl
  have hmx:=okL_mx hl
  have h:=Option.some.inj h
  subst h
  refine ⟨a.length+1,?_⟩
  unfold F_laws_rInts
  by_cases hne:a.length=b.length
  ·have e:((a.length:Int) != (b.length:Int))=false:=by simp;omega
   obtain ⟨o,o1,o2⟩:=ri_l0 (a.length+1) a b hne hmx a.length 0 (a.length+1) (by omega) (by omega)
   simp only [Int.natCast_zero,List.drop_zero] at o1 o2
   simp only [e,Bool.false_eq_true,if_false,o1,Option.bind_some]
   rcases o2 with ⟨rfl,h2⟩ | ⟨rfl,h2⟩
   ·simp only [h2,decide_false]
   ·simp only [h2,decide_true]
  ·have e:((a.length:Int) != (b.length:Int))=true:=by simp;omega
   have h2:¬a=b:=fun h=>hne (by rw [h])
   simp only [e,if_true,h2,decide_false]
 ·cases h
theorem rt_l0 (N:Nat) (a b:List (List Int)) (hl:a.length=b.length) (hok:a.all okL=true) (hmx:a.length<=maxLen):∀k i f,i+k=a.length->k<f -> ∃o,q70q_l0 N f (a,b,(i:Int),())=some o/\((o=.inl (false,()) /\ ¬a.drop i=b.drop i)\/(o=.inr (.inl ())/\a.drop i=b.drop i)):=by
 intro k
 induction k with
 | zero=>
  intro i f h1 h2
  obtain ⟨f,rfl⟩:∃m,f=m+1:=⟨f-1,by omega⟩
  have e:i=a.length:=by omega
  refine ⟨.inr (.inl ()),?_,.inr ⟨rfl,by rw [List.drop_of_length_le (by omega),List.drop_of_length_le (by omega)]⟩⟩
  subst e
  show q70q_l0_r _ _ _=_
  unfold q70q_l0_r
  simp only [lt_not,Bool.false_eq_true,if_false]
 | succ k ih=>
  intro i f h1 h2
  obtain ⟨f,rfl⟩:∃m,f=m+1:=⟨f-1,by omega⟩
  have hi:i<a.length:=by omega
  have hi2:i<b.length:=by omega
  have ea:at_ K_Si a i=a[i]:=at_get (e:=K_Si) hi
  have eb:at_ K_Si b i=b[i]:=at_get (e:=K_Si) hi2
  have hoi:okL a[i]=true:=List.all_eq_true.1 hok _ (List.getElem_mem hi)
  obtain ⟨o,o1,o2⟩:=ih (i+1) f (by omega) (by omega)
  rw [List.drop_eq_getElem_cons hi,List.drop_eq_getElem_cons hi2]
  have step:q70q_l0 N (f+1) (a,b,(i:Int),())=if (!decide (a[i]=b[i]))=true then some (.inl (false,())) else q70q_l0 N f (a,b,((i+1:Nat):Int),()):=by
   show q70q_l0_r _ _ _=_
   unfold q70q_l0_r
   simp only [lt_dec hi,if_true,idxIn_nat hi,idxIn_nat hi2,Int.toNat_natCast,ea,eb,G_rInts,hoi,Option.bind_some,wrap_up hi hmx]
  rw [step]
  by_cases e:a[i]=b[i]
  ·have:(!decide (a[i]=b[i]))=false:=by simp [e]
   rw [this]
   simp only [Bool.false_eq_true,if_false]
   refine ⟨o,o1,?_⟩
   rcases o2 with ⟨p1,p2⟩ | ⟨p1,p2⟩
   ·exact .inl ⟨p1,fun h=>p2 (List.cons.inj h).2⟩
   ·exact .inr ⟨p1,by rw [e,p2]⟩
  ·have:(!decide (a[i]=b[i]))=true:=by simp [e]
   rw [this]
   simp only [if_true]
   exact ⟨_,rfl,.inl ⟨rfl,fun h=>e (List.cons.inj h).1⟩⟩
theorem rTable_lim (d) (r) (h:G_rTable d=some r):∃N,F_q70q N d=some r:=by
 obtain ⟨a,b,_⟩:=d
 unfold G_rTable at h
 split at h
 ·rename_i hl
  have hl:okLL a=true:=hl
  obtain ⟨hl1,hl2⟩:=okLL_of hl
  have hmx:=okL_mx hl1
  have h:=Option.some.inj h
  subst h
  refine ⟨a.length+1,?_⟩
  unfold F_q70q
  by_cases hne:a.length=b.length
  ·have e:((a.length:Int) != (b.length:Int))=false:=by simp;omega
   obtain ⟨o,o1,o2⟩:=rt_l0 (a.length+1) a b hne hl2 hmx a.length 0 (a.length+1) (by omega) (by omega)
   simp only [Int.natCast_zero,List.drop_zero] at o1 o2
   simp only [e,Bool.false_eq_true,if_false,o1,Option.bind_some]
   rcases o2 with ⟨rfl,h2⟩ | ⟨rfl,h2⟩
   ·simp only [h2,decide_false]
   ·simp only [h2,decide_true]
  ·have e:((a.length:Int) != (b.length:Int))=true:=by simp;omega
   have h2:¬a=b:=fun h=>hne (by rw [h])
   simp only [e,if_true,h2,decide_false]
 ·cases h
end Go.V.W
namespace Go.V.W
structure Inv3 (p n:Nat) (ball:Nat->Int->List Int) (f:Nat->Nat->Nat->Int):Prop where
 low:∀r c q,-1<=f r c q
 home:∀r c,f r c c=0
 away:∀r c q,c≠q->f r c q≠0
 why:∀r c q,r<p->c<n->q<n->0<=f r c q->c=q \/ ∃b∈ball r (c:Int),0<=afterT (ball r) (tabL n (f ((r+1) % p))) b (q:Int)
theorem Inv3.start (p n:Nat) (ball:Nat->Int->List Int):Inv3 p n ball start3:=by
 refine ⟨fun r c q => ?_,fun r c => ?_,fun r c q h => ?_,fun r c q _ _ _ h => ?_⟩
 ·unfold start3 startF;split<;>omega
 ·unfold start3 startF;simp
 ·unfold start3 startF;rw [if_neg h];omega
 ·unfold start3 startF at h
  by_cases e:c=q
  ·exact .inl e
  ·rw [if_neg e] at h;omega
def okBalls (p n:Nat) (ball:Nat->Int->List Int):Prop := ∀r,r<p->okBall n (ball r)
theorem after_mono {n:Nat} {ball:Int->List Int} (hb:okBall n ball) {f g:Nat->Nat->Int} (h:∀c q,0<=f c q->0<=g c q) {b q:Nat} (hbn:b<n) (hq:q<n) (h0:0<=afterT ball (tabL n f) (b:Int) (q:Int)):0<=afterT ball (tabL n g) (b:Int) (q:Int):=by
 unfold afterT at h0 |-
 by_cases e:(b:Int)=(q:Int)
 ·rw [if_pos e];exact Int.le_refl _
 ·rw [if_neg e] at h0 |-
  rcases worst_spec (tab2 (tabL n f) (b:Int)) (ball (q:Int)) 0 with ⟨_,h1⟩ | ⟨h1,_,_⟩
  ·omega
  ·rcases worst_spec (tab2 (tabL n g) (b:Int)) (ball (q:Int)) 0 with ⟨⟨x,hx,h2⟩,_⟩ | ⟨_,h2,_⟩
   ·exfalso
    obtain ⟨y,hy,rfl⟩:=hb q hq x hx
    have:=(h1 _ hx).1
    rw [tab2_tabL _ hbn hy] at this h2
    have:=h _ _ this
    omega
   ·exact h2
theorem Inv3.next {p n:Nat} {ball:Nat->Int->List Int} (hb:okBalls p n ball) {t:Int} (ht:1<=t) {f:Nat->Nat->Nat->Int} (hI:Inv3 p n ball f):Inv3 p n ball (step3 p n ball t f):=by
 have hkeep:∀r c q,0<=f r c q->step3 p n ball t f r c q=f r c q:=fun r c q h=>by
  unfold step3 can3
  have:decide (f r c q<0)=false:=by simp;omega
  simp [this]
 have hge:∀r c q,0<=f r c q->0<=step3 p n ball t f r c q:=fun r c q h=>by rw [hkeep r c q h];exact h
 refine ⟨fun r c q => ?_,fun r c => ?_,fun r c q h => ?_,fun r c q hr hc hq h => ?_⟩
 ·unfold step3;split
  ·omega
  ·exact hI.low r c q
 ·rw [hkeep r c c (by rw [hI.home];exact Int.le_refl _)];exact hI.home r c
 ·unfold step3;split
  ·omega
  ·exact hI.away r c q h
 ·have key:(∃b∈ball r (c:Int),0<=afterT (ball r) (tabL n (f ((r+1) % p))) b (q:Int)) -> ∃b∈ball r (c:Int),0<=afterT (ball r) (tabL n (step3 p n ball t f ((r+1) % p))) b (q:Int):=by
   rintro ⟨b,hbm,h1⟩
   obtain ⟨y,hy,rfl⟩:=hb r hr c hc b hbm
   exact ⟨_,hbm,after_mono (hb r hr) (hge _) hy hq h1⟩
  by_cases hf:0<=f r c q
  ·exact (hI.why r c q hr hc hq hf).imp _root_.id key
  ·right
   have hcan:can3 p n ball f r c q=true:=by
    cases hcan:can3 p n ball f r c q with
    | true=>rfl
    | false=>unfold step3 at h;rw [if_neg (by rw [hcan];simp)] at h;exact absurd h hf
   unfold can3 at hcan
   simp only [Bool.and_eq_true,List.any_eq_true,decide_eq_true_eq] at hcan
   exact key hcan.2
end Go.V.W
namespace Go.V.W
open Go.Proofs
structure TT (nets:List Nt) (p n:Nat):Prop where
 ok:netsB n nets=true
 len:nets.length=p
 n8:n<=8
end Go.V.W
namespace Go.V.W
open Go.Proofs
theorem and255 (x:Int):0<=bits .and .u64 x 255/\bits .and .u64 x 255<=255:=by
 have h:bits .and .u64 x 255=IntKind.wrap .u64 ((BitVec.ofInt 64 x&&&BitVec.ofInt 64 255).toNat:Int):=rfl
 have e:(BitVec.ofInt 64 x&&&BitVec.ofInt 64 255).toNat<=255:=by
  rw [BitVec.toNat_and]
  have:(BitVec.ofInt 64 255).toNat=255:=by decide
  rw [this]
  exact Nat.and_le_right
 rw [h]
 generalize (BitVec.ofInt 64 x&&&BitVec.ofInt 64 255).toNat=m at e
 unfold IntKind.wrap
 simp [IntKind.bits,IntKind.signed]
 omega
theorem next_ok {c:Cur} {u:Unit} (h:CurB c) (hf:c.2.1<=far_):Ok (F_q39q 0 (c,u)) fun r=>0<=r.1/\r.1<=255/\Adv 1 c r.2.1:=by
 obtain ⟨l,a,s,_⟩:=c
 obtain ⟨hb,ha⟩:=h
 simp only at hb ha hf
 unfold far_ at hf
 have w1:IntKind.wrap .i64 (a+1)=a+1:=wrap_in _ (by omega) (by omega)
 have hx:=and255
 have w2:∀x:Int,IntKind.wrap .i64 (bits .and .u64 x 255)=bits .and .u64 x 255:=fun x=>wrap_in _ (by have:=(hx x).1;omega) (by have:=(hx x).2;omega)
 have adv:∀s',Adv 1 (l,a,s,()) (l,a+1,s',()):=fun s'=>⟨⟨hb,by simp only;omega⟩,by simp only;omega⟩
 unfold F_q39q
 simp only [w1,w2]
 refine Ok.ite (fun h1 => ?_) (fun h1 => ?_)
 ·have h1:a<l.length:=of_decide_eq_true h1
  refine Ok.pos (by unfold idxIn;simp;omega) ?_
  obtain ⟨v,hv⟩:∃v:Int,at_ (.int .u8) l a.toNat=v:=⟨_,rfl⟩
  have hv':0<=v/\v<=255:=by
   have hlt:a.toNat<l.length:=by omega
   rw [at_get (e:=.int .u8) hlt] at hv
   rw [<- hv]
   exact hb _ (List.getElem_mem hlt)
  rw [hv]
  have w3:IntKind.wrap .i64 v=v:=wrap_in _ (by omega) (by omega)
  simp only [w3]
  refine Ok.ite (fun _=>Ok.some ⟨hv'.1,hv'.2,adv _⟩) (fun _=>Ok.pos rfl (Ok.some ⟨(hx _).1,(hx _).2,adv _⟩))
 ·refine Ok.ite (fun _=>Ok.some ⟨by simp,by simp,adv _⟩) (fun _=>Ok.pos rfl (Ok.some ⟨(hx _).1,(hx _).2,adv _⟩))
theorem tmod_in {x n:Int} (h:0<=x) (hn:0<n):0<=x.tmod n/\x.tmod n<n:=by
 rw [Int.tmod_eq_emod_of_nonneg h]
 exact ⟨Int.emod_nonneg _ (by omega),Int.emod_lt_of_pos _ hn⟩
theorem pick_ok {c:Cur} {n:Int} {u:Unit} (h:CurB c) (hf:c.2.1+2<=far_):Ok (F_q31q 0 (c,n,u)) fun r=>0<=r.1/\(r.1<n\/r.1=0)/\Adv 2 c r.2.1:=by
 unfold F_q31q
 simp only
 refine Ok.ite (fun h1=>Ok.some ⟨Int.le_refl _,.inr rfl,h,by simp only;omega⟩) (fun h1 => ?_)
 have h1:¬n<=1:=of_decide_eq_false h1
 have hn:(n != 0)=true:=by simp;omega
 refine Ok.bind (next_ok h (by omega)) fun r hr => ?_
 obtain ⟨r1,r2,r3⟩:=hr
 refine Ok.ite (fun h2 => ?_) (fun h2 => ?_)
 ·have w1:IntKind.wrap .i64 (r.1*256)=r.1*256:=wrap_in _ (by omega) (by omega)
  refine Ok.bind (next_ok r3.1 (by have:=r3.2;omega)) fun q hq => ?_
  obtain ⟨q1,q2,q3⟩:=hq
  have w2:IntKind.wrap .i64 (r.1*256+q.1)=r.1*256+q.1:=wrap_in _ (by omega) (by omega)
  refine Ok.pos hn (Ok.some ?_)
  rw [w1,w2]
  have:=tmod_in (x:=r.1*256+q.1) (n:=n) (by omega) (by omega)
  exact ⟨this.1,.inl this.2,(r3.trans q3).le (by omega)⟩
 ·refine Ok.pos hn (Ok.some ?_)
  have:=tmod_in (x:=r.1) (n:=n) (by omega) (by omega)
  exact ⟨this.1,.inl this.2,r3.le (by omega)⟩
theorem one_ok {c:Cur} {n:Int} {u:Unit} (h:CurB c) (hf:c.2.1+2<=far_):Ok (F_q43q 0 (c,n,u)) fun r=>Adv 2 c r.2.1:=by
 unfold F_q43q
 simp only
 exact Ok.bind (pick_ok h hf) fun r hr=>Ok.some hr.2.2
theorem among_ok {c:Cur} {l:List Int} {u:Unit} (h:CurB c) (hf:c.2.1+2<=far_) (hl:0<l.length):Ok (F_q27q 0 (c,l,u)) fun r=>r.1∈l/\Adv 2 c r.2.1:=by
 unfold F_q27q
 simp only
 refine Ok.bind (pick_ok h hf) fun r hr => ?_
 obtain ⟨r1,r2,r3⟩:=hr
 have hlt:r.1.toNat<l.length:=by omega
 refine Ok.pos (by unfold idxIn;simp;omega) (Ok.some ⟨?_,r3⟩)
 rw [at_get (e:=I) hlt]
 exact List.getElem_mem hlt
end Go.V.W
namespace Go.V.W
open Go.Proofs
theorem pa_l0 (N:Nat) (n:Nat) (hn:n<=8) (z:Gr) (a:Int):∀k x f (es:List E),x+k=n->k<f->es.length<=x -> ∃es',q76q_l0 N f ((n:Int),z,(a,es,()),(x:Int),())=some (.inl (z,(a,es',()),()))/\es'.length<=100:=by
 intro k
 induction k with
 | zero=>
  intro x f es h1 h2 h3
  obtain ⟨f,rfl⟩:∃m,f=m+1:=⟨f-1,by omega⟩
  refine ⟨es,?_,by omega⟩
  have hlt:decide (((x+1:Nat):Int)<(n:Int))=false:=decide_eq_false (by omega)
  show q76q_l0_r _ _ _=_
  unfold q76q_l0_r
  simp only [small_wrap (show x<=100000 by omega),hlt,Bool.false_eq_true,if_false]
 | succ k ih=>
  intro x f es h1 h2 h3
  obtain ⟨f,rfl⟩:∃m,f=m+1:=⟨f-1,by omega⟩
  by_cases hx:x+1<n
  ·have hlt:decide (((x+1:Nat):Int)<(n:Int))=true:=decide_eq_true (by omega)
   have hle:∀e:E,decide (es.length+List.length [e]<=lim)=true:=fun e=>by unfold lim;simp;omega
   obtain ⟨es',e1,e2⟩:=ih (x+1) f (es++[((x:Int),((x+1:Nat):Int),())]) (by omega) (by omega) (by simp;omega)
   refine ⟨es',?_,e2⟩
   rw [<- e1]
   show q76q_l0_r _ _ _=_
   unfold q76q_l0_r
   simp only [small_wrap (show x<=100000 by omega),hlt,if_true,hle]
  ·refine ⟨es,?_,by omega⟩
   have hlt:decide (((x+1:Nat):Int)<(n:Int))=false:=decide_eq_false (by omega)
   show q76q_l0_r _ _ _=_
   unfold q76q_l0_r
   simp only [small_wrap (show x<=100000 by omega),hlt,Bool.false_eq_true,if_false]
theorem path_ok (n:Nat) (hn:n<=8):Ok (pickF F_q76q P_path ((n:Int),())) (P_path ((n:Int),())):=by
 refine Ok.pick 20 ?_
 obtain ⟨es,e1,e2⟩:=pa_l0 20 n hn (0,[],()) (n:Int) n 0 20 [] (by omega) (by omega) (by simp)
 refine ⟨(((n:Int),es,()),()),?_,e2⟩
 unfold F_q76q
 simp only [Int.natCast_zero] at e1
 simp only [e1,Option.bind_some]
theorem wh_l2 (N:Nat) (n:Nat) (hn:n<=8) (z:Gr) (a:Int) (x:Int):∀k y f (es:List E),y+k=n->k<f->es.length+k<=1000 -> ∃es',q32q_l2 N f ((n:Int),z,(a,es,()),x,(y:Int),())=some (.inl ((n:Int),z,(a,es',()),x,()))/\es'.length=es.length+k:=by
 intro k
 induction k with
 | zero=>
  intro y f es h1 h2 h3
  obtain ⟨f,rfl⟩:∃m,f=m+1:=⟨f-1,by omega⟩
  refine ⟨es,?_,by omega⟩
  have hlt:decide ((y:Int)<(n:Int))=false:=decide_eq_false (by omega)
  show q32q_l2_r _ _ _=_
  unfold q32q_l2_r
  simp only [hlt,Bool.false_eq_true,if_false]
 | succ k ih=>
  intro y f es h1 h2 h3
  obtain ⟨f,rfl⟩:∃m,f=m+1:=⟨f-1,by omega⟩
  have hlt:decide ((y:Int)<(n:Int))=true:=decide_eq_true (by omega)
  have hle:∀e:E,decide (es.length+List.length [e]<=lim)=true:=fun e=>by unfold lim;simp;omega
  obtain ⟨es',e1,e2⟩:=ih (y+1) f (es++[(x,(y:Int),())]) (by omega) (by omega) (by simp;omega)
  refine ⟨es',?_,by rw [e2];simp;omega⟩
  rw [<- e1]
  show q32q_l2_r _ _ _=_
  unfold q32q_l2_r
  simp only [hlt,if_true,hle,small_wrap (show y<=100000 by omega)]
theorem wh_l0 (N:Nat) (hN:20<=N) (n:Nat) (hn:n<=8) (z:Gr) (a:Int):∀k x f (es:List E),x+k=n->k<f->es.length<=8*x -> ∃es',q32q_l0 N f ((n:Int),z,(a,es,()),(x:Int),())=some (.inl (z,(a,es',()),()))/\es'.length<=100:=by
 intro k
 induction k with
 | zero=>
  intro x f es h1 h2 h3
  obtain ⟨f,rfl⟩:∃m,f=m+1:=⟨f-1,by omega⟩
  refine ⟨es,?_,by omega⟩
  have hlt:decide ((x:Int)<(n:Int))=false:=decide_eq_false (by omega)
  show q32q_l0_r _ _ _=_
  unfold q32q_l0_r
  simp only [hlt,Bool.false_eq_true,if_false]
 | succ k ih=>
  intro x f es h1 h2 h3
  obtain ⟨f,rfl⟩:∃m,f=m+1:=⟨f-1,by omega⟩
  have hlt:decide ((x:Int)<(n:Int))=true:=decide_eq_true (by omega)
  obtain ⟨e1,q1,q2⟩:=wh_l2 N n hn z a (x:Int) (n-(x+1)) (x+1) N es (by omega) (by omega) (by omega)
  obtain ⟨es',r1,r2⟩:=ih (x+1) f e1 (by omega) (by omega) (by omega)
  refine ⟨es',?_,r2⟩
  rw [<- r1]
  show q32q_l0_r _ _ _=_
  unfold q32q_l0_r
  simp only [hlt,if_true,small_wrap (show x<=100000 by omega),q1,Option.bind_some]
theorem whole_ok (n:Nat) (hn:n<=8):Ok (pickF F_q32q P_path ((n:Int),())) (P_path ((n:Int),())):=by
 refine Ok.pick 20 ?_
 obtain ⟨es,e1,e2⟩:=wh_l0 20 (by omega) n hn (0,[],()) (n:Int) n 0 20 [] (by omega) (by omega) (by simp)
 refine ⟨(((n:Int),es,()),()),?_,e2⟩
 unfold F_q32q
 simp only [Int.natCast_zero] at e1
 simp only [e1,Option.bind_some]
end Go.V.W
namespace Go.V.W
open Go.Proofs
theorem marred_ok {c:Cur} {n:Int} {es:List E} {v u:Unit} (h:CurB c) (hf:c.2.1+20<=far_) (hl:es.length<=150):Ok (F_q19q 0 (c,(n,es,v),u)) fun r=>r.1.2.1.length<=es.length+1/\Adv 10 c r.2.1:=by
 unfold F_q19q
 simp only
 have hle:∀e:E,decide (es.length+List.length [e]<=lim)=true:=fun e=>by unfold lim;simp;omega
 refine Ok.bind (pick_ok h (by omega)) fun r hr => ?_
 obtain ⟨r1,r2,r3⟩:=hr
 have q3:=r3.2
 refine Ok.ite (fun _ => ?_) fun _=>Ok.ite (fun _ => ?_) fun _=>Ok.ite (fun _ => ?_) fun _ => ?_
 ·refine Ok.bind (among_ok r3.1 (by omega) (by simp)) fun s hs=>Ok.some ⟨by simp,(r3.trans hs.2).le (by omega)⟩
 ·refine Ok.bind (pick_ok r3.1 (by omega)) fun s hs => ?_
  have s3:=hs.2.2.2
  refine Ok.bind (pick_ok hs.2.2.1 (by omega)) fun t ht => ?_
  refine Ok.pos (hle _) (Ok.some ⟨by simp,((r3.trans hs.2.2).trans ht.2.2).le (by omega)⟩)
 ·refine Ok.ite (fun hp => ?_) fun _=>Ok.some ⟨by simp,r3.le (by omega)⟩
  have hp:=of_decide_eq_true hp
  refine Ok.bind (pick_ok r3.1 (by omega)) fun s hs => ?_
  obtain ⟨s1,s2,s3⟩:=hs
  refine Ok.pos (by unfold idxIn;simp;omega) (Ok.pos (hle _) (Ok.some ⟨by simp,(r3.trans s3).le (by omega)⟩))
 ·exact Ok.some ⟨by simp,r3.le (by omega)⟩
end Go.V.W
namespace Go.V.W
open Go.Proofs
theorem insE_lenU (e:E):∀l:List E,(insE e l).length=l.length+1:=by
 intro l
 induction l with
 | nil=>rfl
 | cons a l ih=>unfold insE;split<;>simp [ih]
theorem put_ok {es:List E} {e:E} {u:Unit} (h:es.length<=1000):Ok (G_l2Put (es,e,u)) fun r=>r.1.length=es.length+1:=by
 unfold G_l2Put
 rw [if_pos (decide_eq_true h)]
 exact Ok.some (insE_lenU _ _)
theorem near_ok {g:Gr} {x y:Int} {u:Unit} (h:g.2.1.length<=1000):Ok (G_l2Near (g,x,y,u)) fun _=>True:=by
 unfold G_l2Near
 rw [if_pos (show okL g.2.1=true from decide_eq_true (by unfold lim;omega))]
 exact Ok.some trivial
theorem cycle_ok (n:Nat) (hn:n<=8):Ok (F_q67q 0 ((n:Int),())) fun r=>r.1.2.1.length<=101:=by
 unfold F_q67q
 simp only
 refine Ok.bind (path_ok n hn) fun r hr => ?_
 have hr:r.1.2.1.length<=100:=hr
 refine Ok.bind (put_ok (by omega)) fun q hq=>Ok.some ?_
 simp only
 omega
theorem sg_l3 (N:Nat) (n:Nat) (hn:n<=8) (z:Gr) (a w:Int) (b:Bool) (x:Int):∀k y f (c:Cur) (es:List E),y+k=n->k<f->CurB c->c.2.1+2*(k:Int)<=far_->es.length+k<=1000 ->
  Ok (q15q_l3 N f (c,z,(n:Int),(a,es,()),w,b,x,(y:Int),())) fun o => ∃c' es',o=.inl (c',z,(n:Int),(a,es',()),w,b,x,())/\Adv (2*(k:Int)) c c'/\es'.length<=es.length+k:=by
 intro k
 induction k with
 | zero=>
  intro y f c es h1 h2 h3 h4 h5
  obtain ⟨f,rfl⟩:∃m,f=m+1:=⟨f-1,by omega⟩
  have hlt:decide ((y:Int)<(n:Int))=false:=decide_eq_false (by omega)
  show Ok (q15q_l3_r _ _ _) _
  unfold q15q_l3_r
  simp only [hlt,Bool.false_eq_true,if_false]
  exact Ok.some ⟨c,es,rfl,⟨h3,by omega⟩,by omega⟩
 | succ k ih=>
  intro y f c es h1 h2 h3 h4 h5
  obtain ⟨f,rfl⟩:∃m,f=m+1:=⟨f-1,by omega⟩
  have hlt:decide ((y:Int)<(n:Int))=true:=decide_eq_true (by omega)
  show Ok (q15q_l3_r _ _ _) _
  unfold q15q_l3_r
  simp only [hlt,if_true,small_wrap (show y<=100000 by omega)]
  refine Ok.bind (pick_ok h3 (by omega)) fun r hr => ?_
  have r3:=hr.2.2.2
  refine Ok.ite (fun _ => ?_) (fun _ => ?_)
  ·refine Ok.bind (put_ok (by omega)) fun q hq => ?_
   refine (ih (y+1) f r.2.1 q.1 (by omega) (by omega) hr.2.2.1 (by omega) (by omega)).mono fun o ho => ?_
   obtain ⟨c',es',e1,e2,e3⟩:=ho
   exact ⟨c',es',e1,(hr.2.2.trans e2).le (by omega),by omega⟩
  ·refine (ih (y+1) f r.2.1 es (by omega) (by omega) hr.2.2.1 (by omega) (by omega)).mono fun o ho => ?_
   obtain ⟨c',es',e1,e2,e3⟩:=ho
   exact ⟨c',es',e1,(hr.2.2.trans e2).le (by omega),by omega⟩
theorem sg_l1 (N:Nat) (hN:20<=N) (n:Nat) (hn:n<=8) (z:Gr) (a w:Int) (b:Bool):∀k x f (c:Cur) (es:List E),x+k=n->k<f->CurB c->c.2.1+20*(k:Int)<=far_->es.length<=10*x ->
  Ok (q15q_l1 N f (c,z,(n:Int),(a,es,()),w,b,(x:Int),())) fun o => ∃c' es',o=.inl (c',z,(a,es',()),())/\Adv (20*(k:Int)) c c'/\es'.length<=10*n:=by
 intro k
 induction k with
 | zero=>
  intro x f c es h1 h2 h3 h4 h5
  obtain ⟨f,rfl⟩:∃m,f=m+1:=⟨f-1,by omega⟩
  have hlt:decide ((x:Int)<(n:Int))=false:=decide_eq_false (by omega)
  show Ok (q15q_l1_r _ _ _) _
  unfold q15q_l1_r
  simp only [hlt,Bool.false_eq_true,if_false]
  exact Ok.some ⟨c,es,rfl,⟨h3,by omega⟩,by omega⟩
 | succ k ih=>
  intro x f c es h1 h2 h3 h4 h5
  obtain ⟨f,rfl⟩:∃m,f=m+1:=⟨f-1,by omega⟩
  have hlt:decide ((x:Int)<(n:Int))=true:=decide_eq_true (by omega)
  show Ok (q15q_l1_r _ _ _) _
  unfold q15q_l1_r
  simp only [hlt,if_true,small_wrap (show x<=100000 by omega)]
  refine Ok.bind (sg_l3 N n hn z a w b (x:Int) (n-(x+1)) (x+1) N c es (by omega) (by omega) h3 (by omega) (by omega)) fun o ho => ?_
  obtain ⟨c1,e1,rfl,a1,l1⟩:=ho
  have b1:=a1.2
  simp only [small_wrap (show x<=100000 by omega)]
  refine Ok.bind (pick_ok a1.1 (by omega)) fun r hr => ?_
  have r3:=hr.2.2.2
  have more:∀es2:List E,es2.length<=10*(x+1)->Ok (q15q_l1 N f (r.2.1,z,(n:Int),(a,es2,()),w,b,((x+1:Nat):Int),())) fun o => ∃c' es',o=.inl (c',z,(a,es',()),())/\Adv (20*((k+1:Nat):Int)) c c'/\es'.length<=10*n:=fun es2 h=>by
   refine (ih (x+1) f r.2.1 es2 (by omega) (by omega) hr.2.2.1 (by omega) (by omega)).mono fun o ho => ?_
   obtain ⟨c',es',e1,e2,e3⟩:=ho
   exact ⟨c',es',e1,((a1.trans hr.2.2).trans e2).le (by omega),by omega⟩
  refine Ok.ite (fun _=>Ok.ite (fun _ => ?_) fun _=>more _ (by omega)) fun _=>more _ (by omega)
  refine Ok.bind (near_ok (by simp only;omega)) fun _ _=>Ok.ite (fun _ => ?_) fun _=>more _ (by omega)
  refine Ok.bind (put_ok (by omega)) fun q hq=>more _ (by omega)
noncomputable def sgTail (N:Nat) (c:Cur) (n:Int):Option (Gr×Cur×Unit):=
  ((F_q31q 0) ((c,((8:Int),())))).bind fun r49=>
  if (r49.1==(0:Int))=true then
   ((pickF F_q76q P_path) (n,())).bind fun r50=>
   ((F_q19q 0) ((r49.2.1,(r50.1,())))).bind fun r51=>
   some ((r51.1,(r51.2.1,())))
  else
   if (r49.1==(1:Int))=true then
    if (decide (n>(2:Int)))=true then
     ((F_q67q 0) (n,())).bind fun r52=>
     ((F_q19q 0) ((r49.2.1,(r52.1,())))).bind fun r53=>
     some ((r53.1,(r53.2.1,())))
    else
     ((F_q19q 0) ((r49.2.1,((n,(([]:List (Int×Int×Unit)),())),())))).bind fun r54=>
     some ((r54.1,(r54.2.1,())))
   else
    if (r49.1==(2:Int))=true then
     ((pickF F_q32q P_path) (n,())).bind fun r55=>
     ((F_q19q 0) ((r49.2.1,(r55.1,())))).bind fun r56=>
     some ((r56.1,(r56.2.1,())))
    else
     ((F_q27q 0) ((r49.2.1,([(3:Int),(4:Int),(6:Int)],())))).bind fun r57=>
     ((F_q43q 0) ((r57.2.1,((6:Int),())))).bind fun r58=>
     (q15q_l1 N N ((r58.2.1,(((0:Int),(([]:List (Int×Int×Unit)),())),(n,((n,(([]:List (Int×Int×Unit)),())),(r57.1,(r58.1,((0:Int),()))))))))).bind fun o59=>match o59 with
     | .inl d60=>
      ((F_q19q 0) ((d60.1,(d60.2.2.1,())))).bind fun r61=>
      some ((r61.1,(r61.2.1,())))
theorem sgTail_ok {c:Cur} {n:Int} {m:Nat} (hm:m<=8) (he:n=m) (h:CurB c) (hf:c.2.1+250<=far_):Ok (sgTail 20 c n) fun r=>Adv 200 c r.2.1/\r.1.2.1.length<=200:=by
 subst he
 have mar:∀(c1:Cur) (g:Gr),Adv 180 c c1->g.2.1.length<=150->Ok ((F_q19q 0 (c1,g,())).bind fun r=>some (r.1,r.2.1,())) fun r=>Adv 200 c r.2.1/\r.1.2.1.length<=200:=by
  intro c1 g h1 h2
  have:=h1.2
  obtain ⟨n,es,u⟩:=g
  refine Ok.bind (marred_ok h1.1 (by omega) h2) fun r hr=>Ok.some ⟨(h1.trans hr.2).le (by omega),?_⟩
  have:=hr.1
  simp only at h2 |-
  omega
 unfold sgTail
 refine Ok.bind (pick_ok h (by omega)) fun r hr => ?_
 have a1:=hr.2.2
 have b1:=a1.2
 refine Ok.ite (fun _ => ?_) fun _=>Ok.ite (fun _=>Ok.ite (fun _ => ?_) fun _=>mar _ _ (a1.le (by omega)) (by simp)) fun _=>Ok.ite (fun _ => ?_) fun _ => ?_
 ·refine Ok.bind (path_ok m hm) fun q hq=>mar _ _ (a1.le (by omega)) ?_
  have:q.1.2.1.length<=100:=hq
  omega
 ·refine Ok.bind (cycle_ok m hm) fun q hq=>mar _ _ (a1.le (by omega)) (by omega)
 ·refine Ok.bind (whole_ok m hm) fun q hq=>mar _ _ (a1.le (by omega)) ?_
  have:q.1.2.1.length<=100:=hq
  omega
 ·refine Ok.bind (among_ok a1.1 (by omega) (by simp)) fun q hq => ?_
  have a2:=a1.trans hq.2
  have b2:=a2.2
  refine Ok.bind (one_ok a2.1 (by omega)) fun s hs => ?_
  have a3:=a2.trans hs
  have b3:=a3.2
  have hl:=sg_l1 20 (by omega) m hm (0,[],()) (m:Int) q.1 s.1 m 0 20 s.2.1 [] (by omega) (by omega) a3.1 (by omega) (by simp)
  simp only [Int.natCast_zero] at hl
  refine Ok.bind hl fun o ho => ?_
  obtain ⟨c',es',rfl,e2,e3⟩:=ho
  exact mar _ _ ((a3.trans e2).le (by omega)) (by simp only;omega)
theorem least_in {x y:Int} {u:Unit} (h:0<=x) (h2:0<=y) (h3:y<=8):∃m:Nat,m<=8/\(g_q59q (x,y,u)).1=(m:Int):=by
 unfold g_q59q
 simp only
 split
 ·rename_i hh
  have:=of_decide_eq_true hh
  exact ⟨x.toNat,by omega,by simp only;omega⟩
 ·exact ⟨y.toNat,by omega,by simp only;omega⟩
theorem someGraph_ok {c:Cur} {a:Int} (h:CurB c) (hf:c.2.1+300<=far_) (h0:0<=a) (h8:a<=8):Ok (pickF F_q15q P_someG (c,a,())) (P_someG (c,a,())):=by
 refine Ok.pick 20 ?_
 have fin:∀(c1:Cur) (n:Int) (m:Nat),m<=8->n=m->Adv 50 c c1->Ok (sgTail 20 c1 n) (P_someG (c,a,())):=fun c1 n m hm he h1=>by
  have:=h1.2
  exact (sgTail_ok hm he h1.1 (by omega)).mono fun r hr=>⟨(h1.trans hr.1).le (by omega),hr.2⟩
 unfold F_q15q
 simp only
 refine Ok.bind (among_ok h (by omega) (by simp)) fun r hr => ?_
 have r0:0<=r.1:=by
  have:=hr.1
  simp at this
  omega
 have a1:=hr.2
 have b1:=a1.2
 refine Ok.ite (fun _ => ?_) fun _ => ?_
 ·refine Ok.bind (one_ok a1.1 (by omega)) fun s hs => ?_
  have a2:=a1.trans hs
  have b2:=a2.2
  refine Ok.ite (fun _ => ?_) fun _ => ?_
  ·refine Ok.bind (pick_ok a2.1 (by omega)) fun t ht => ?_
   have a3:=a2.trans ht.2.2
   have w:IntKind.wrap .i64 ((7:Int)+t.1)=7+t.1:=wrap_in _ (by have:=ht.1;omega) (by have:=ht.2.1;omega)
   obtain ⟨m,hm,em⟩:=least_in (x:=IntKind.wrap .i64 ((7:Int)+t.1)) (u:=()) (by rw [w];have:=ht.1;omega) h0 h8
   exact fin _ _ m hm em (a3.le (by omega))
  ·obtain ⟨m,hm,em⟩:=least_in (u:=()) r0 h0 h8
   exact fin _ _ m hm em (a2.le (by omega))
 ·obtain ⟨m,hm,em⟩:=least_in (u:=()) r0 h0 h8
  exact fin _ _ m hm em (a1.le (by omega))
theorem bigGraph_ok {c:Cur} {u:Unit} (h:CurB c) (hf:c.2.1+300<=far_):Ok (F_q16q 0 (c,u)) fun r=>Adv 300 c r.2.1/\r.1.2.1.length<=200:=by
 unfold F_q16q
 simp only
 exact Ok.bind (someGraph_ok h hf (by omega) (by omega)) fun r hr=>Ok.some hr
end Go.V.W
namespace Go.V.W
open Go.Proofs
theorem law54:∀d,WfD (Kd.tuple ([(K_Su8,false)].map (·.1))) d -> ∃out,G_law d=some out/\(splitT [.bool] [] out).1.1=true:=by
 rintro ⟨code,_⟩ ⟨⟨hl,hc⟩,_⟩
 refine ⟨(true,()),?_,rfl⟩
 unfold G_law
 rw [if_pos]
 simp only [Bool.and_eq_true,List.all_eq_true,decide_eq_true_eq]
 refine ⟨fun x hx => ?_,hl⟩
 have:=hc x hx
 simp [WfD,Lit.wf,IntKind.min,IntKind.max,IntKind.signed,IntKind.bits] at this
 unfold inB
 simp
 omega
end Go.V.W
namespace Go.V.W
open Go.Proofs
theorem node_ok {c:Cur} {g:Gr} {u:Unit} (h:CurB c) (hf:c.2.1+10<=far_):Ok (F_q33q 0 (c,g,u)) fun r=>r.1<=9223372036854775807/\(r.1 = -1\/0<=r.1)/\Adv 10 c r.2.1:=by
 have lst:∀(c1:Cur),Adv 4 c c1->Ok ((F_q27q 0 (c1,[(-1:Int),(0:Int),(8:Int),(4611686018427387904:Int)],())).bind fun r=>some (r.1,r.2.1,())) fun r=>r.1<=9223372036854775807/\(r.1 = -1\/0<=r.1)/\Adv 10 c r.2.1:=fun c1 h1=>by
  have:=h1.2
  refine Ok.bind (among_ok h1.1 (by omega) (by simp)) fun r hr=>Ok.some ⟨?_,?_,(h1.trans hr.2).le (by omega)⟩
  ·have:=hr.1
   simp at this
   omega
  ·have:=hr.1
   simp at this
   omega
 have a0:Adv 4 c c:=⟨h,by omega⟩
 unfold F_q33q
 simp only
 refine Ok.ite (fun _=>lst c a0) fun h1=>Ok.ite (fun _=>lst c a0) fun h2 => ?_
 have h2:=of_decide_eq_false h2
 have h2:¬g.1>8:=h2
 refine Ok.bind (one_ok h (by omega)) fun r hr => ?_
 have b:=hr.2
 refine Ok.ite (fun _=>lst _ (hr.le (by omega))) fun _ => ?_
 refine Ok.bind (pick_ok hr.1 (by omega)) fun s hs=>Ok.some ⟨?_,.inr hs.1,(hr.trans hs.2.2).le (by omega)⟩
 rcases hs.2.1 with h3 | h3
 ·have h3:s.1<g.1:=h3
  show s.1<=_
  omega
 ·show s.1<=_
  omega
end Go.V.W
namespace Go.V.W
open Go.Proofs
theorem sorted_ok {l:List Int} {u:Unit} (h:l.length<=1000):Ok (G_l4Sorted (l,u)) fun r=>r.1.length=l.length:=by
 unfold G_l4Sorted
 rw [if_pos (decide_eq_true h)]
 exact Ok.some (sortI_perm l).length_eq
theorem many_le {c:Cur} {u:Unit} (h:CurB c) (hf:c.2.1+10<=far_):Ok (F_q37q 0 (c,u)) fun r=>r.1<=4/\Adv 10 c r.2.1:=by
 unfold F_q37q
 simp only
 refine Ok.bind (one_ok h (by omega)) fun r hr => ?_
 have b1:=hr.2
 refine Ok.ite (fun _ => ?_) fun _ => ?_
 ·refine Ok.bind (among_ok hr.1 (by omega) (by simp)) fun s hs=>Ok.some ⟨?_,(hr.trans hs.2).le (by omega)⟩
  have:=hs.1
  simp at this
  omega
 ·refine Ok.bind (among_ok hr.1 (by omega) (by simp)) fun s hs=>Ok.some ⟨?_,(hr.trans hs.2).le (by omega)⟩
  have:=hs.1
  simp at this
  omega
theorem cops_l0 (N:Nat) (g:Gr):∀(k:Nat) (i:Int) f (c:Cur) (l:List Int),i<=(k:Int)->k<=10->k<f->CurB c->c.2.1+10*(k:Int)<=far_->l.length+k<=10 ->
  Ok (q29q_l0 N f (c,g,l,i,())) fun o => ∃c' l',o=.inl (c',l',())/\Adv (10*(k:Int)) c c'/\l'.length<=10:=by
 intro k
 induction k with
 | zero=>
  intro i f c l h1 h1' h2 h3 h4 h5
  obtain ⟨f,rfl⟩:∃m,f=m+1:=⟨f-1,by omega⟩
  have hlt:decide (i>(0:Int))=false:=decide_eq_false (by omega)
  show Ok (q29q_l0_r _ _ _) _
  unfold q29q_l0_r
  simp only [hlt,Bool.false_eq_true,if_false]
  exact Ok.some ⟨c,l,rfl,⟨h3,by omega⟩,by omega⟩
 | succ k ih=>
  intro i f c l h1 h1' h2 h3 h4 h5
  obtain ⟨f,rfl⟩:∃m,f=m+1:=⟨f-1,by omega⟩
  show Ok (q29q_l0_r _ _ _) _
  unfold q29q_l0_r
  simp only
  refine Ok.ite (fun hp => ?_) fun _=>Ok.some ⟨c,l,rfl,⟨h3,by omega⟩,by omega⟩
  have hp:=of_decide_eq_true hp
  have hw:IntKind.wrap .i64 (i-1)=i-1:=wrap_in _ (by omega) (by omega)
  rw [hw]
  refine Ok.bind (node_ok h3 (by omega)) fun r hr => ?_
  have b:=hr.2.2.2
  refine Ok.pos (decide_eq_true (by unfold lim;simp;omega)) ?_
  refine (ih (i-1) f r.2.1 (l++[r.1]) (by omega) (by omega) (by omega) hr.2.2.1 (by omega) (by simp;omega)).mono fun o ho => ?_
  obtain ⟨c',l',e1,e2,e3⟩:=ho
  exact ⟨c',l',e1,(hr.2.2.trans e2).le (by omega),e3⟩
theorem cops_ok {c:Cur} {g:Gr} (h:CurB c) (hf:c.2.1+100<=far_):Ok (pickF F_q29q P_cops (c,g,())) (P_cops (c,g,())):=by
 refine Ok.pick 20 ?_
 unfold F_q29q
 simp only
 refine Ok.bind (many_le h (by omega)) fun r hr => ?_
 have b1:=hr.2.2
 have a1:=hr.2
 refine Ok.bind (cops_l0 20 g 4 r.1 20 r.2.1 [] hr.1 (by omega) (by omega) a1.1 (by omega) (by simp)) fun o ho => ?_
 obtain ⟨c',l',rfl,a2,l2⟩:=ho
 have a3:=a1.trans a2
 have b3:=a3.2
 refine Ok.bind (one_ok a3.1 (by simp only;omega)) fun s hs => ?_
 have a4:=a3.trans hs
 refine Ok.ite (fun _=>Ok.some ⟨a4.le (by omega),l2⟩) fun _ => ?_
 refine Ok.bind (sorted_ok (by simp only;omega)) fun t ht=>Ok.some ⟨a4.le (by omega),?_⟩
 simp only at ht |-
 omega
theorem play_ok {c:Cur} {u:Unit} (h:CurB c) (hf:c.2.1+600<=far_):Ok (F_q35q 0 (c,u)) fun r=>Adv 600 c r.2.2.1/\r.1.2.1.length<=200/\r.2.1.length<=10:=by
 unfold F_q35q
 simp only
 refine Ok.bind (one_ok h (by omega)) fun r hr => ?_
 have b1:=hr.2
 refine Ok.ite (fun _ => ?_) fun _ => ?_
 ·refine Ok.bind (bigGraph_ok hr.1 (by omega)) fun g hg => ?_
  have a2:=hr.trans hg.1
  have b2:=a2.2
  refine Ok.bind (node_ok a2.1 (by omega)) fun x hx => ?_
  have a3:=a2.trans hx.2.2
  have b3:=a3.2
  refine Ok.bind (one_ok a3.1 (by omega)) fun s hs => ?_
  have a4:=a3.trans hs
  have b4:=a4.2
  refine Ok.ite (fun _ => ?_) fun _=>Ok.some ⟨a4.le (by omega),hg.2,by simp⟩
  refine Ok.bind (node_ok a4.1 (by omega)) fun y hy=>Ok.pos (decide_eq_true (by unfold lim;simp)) ?_
  refine Ok.bind (sorted_ok (by simp)) fun t ht=>Ok.some ⟨(a4.trans hy.2.2).le (by omega),hg.2,?_⟩
  simp at ht
  simp only
  omega
 ·refine Ok.bind (someGraph_ok hr.1 (by omega) (by omega) (by omega)) fun g hg => ?_
  have a2:=hr.trans hg.1
  have b2:=a2.2
  refine Ok.bind (cops_ok (g:=g.1) a2.1 (by omega)) fun s hs=>Ok.some ⟨(a2.trans hs.1).le (by omega),hg.2,hs.2⟩
end Go.V.W
namespace Go.V.W
open Go.Proofs
theorem shl_nat {c m:Nat} (hc:c<=1000) (hm:m<=8):shl .i64 (c:Int) (m:Int)=((c*2 ^ m:Nat):Int):=by
 unfold shl
 have e:min (m:Int).toNat IntKind.i64.bits=m:=by
  show min (m:Int).toNat 64=m
  rw [Int.toNat_natCast]
  omega
 have hp:2 ^ m<=256:=Nat.pow_le_pow_right (n:=2) (by omega) hm
 have hb:c*2 ^ m<=1000*256:=Nat.mul_le_mul hc hp
 rw [e,show ((c:Int)*2 ^ m)=((c*2 ^ m:Nat):Int) by rw [Int.natCast_mul,Int.natCast_pow];rfl]
 exact wrap_nat (by omega)
def sumP (l:List Int):Nat:=l.foldr (fun x s=>2 ^ x.toNat+s) 0
theorem sumP_lt:∀(l:List Int) (lo n:Nat),risingB l=true->(∀x∈l,(lo:Int)<=x/\x<(n:Int))->lo<=n->sumP l+2 ^ lo<=2 ^ n:=by
 intro l
 induction l with
 | nil=>intro lo n _ _ h;simpa [sumP] using Nat.pow_le_pow_right (n:=2) (by omega) h
 | cons a l ih=>
  intro lo n hr hin hlo
  obtain ⟨h1,h2⟩:=hin a (by simp)
  obtain ⟨k,rfl⟩:∃k:Nat,a=k:=⟨a.toNat,by omega⟩
  have hlow:=rising_low hr
  have:=ih (k+1) n (rising_tail hr) (fun x hx=>⟨by have:=hlow x hx;omega,(hin x (by simp [hx])).2⟩) (by omega)
  have hp:2 ^ lo<=2 ^ k:=Nat.pow_le_pow_right (by omega) (by omega)
  have e:sumP ((k:Int)::l)=2 ^ k+sumP l:=rfl
  rw [e]
  rw [Nat.pow_succ] at this
  omega
theorem num_l0 (N:Nat) (l:List Int) (hin:∀x∈l,0<=x/\x<8) (hl:l.length<=100):∀k i f (s:Nat),i+k=l.length->k<f->s+sumP (l.drop i)<=100000 ->
  q45q_l0 N f (l,(s:Int),(i:Int),())=some (.inl (((s+sumP (l.drop i):Nat):Int),())):=by
 intro k
 induction k with
 | zero=>
  intro i f s h1 h2 h3
  obtain ⟨f,rfl⟩:∃m,f=m+1:=⟨f-1,by omega⟩
  have hlt:decide ((i:Int)<(l.length:Int))=false:=decide_eq_false (by omega)
  rw [List.drop_of_length_le (by omega)]
  show q45q_l0_r _ _ _=_
  unfold q45q_l0_r
  simp only [hlt,Bool.false_eq_true,if_false]
  rfl
 | succ k ih=>
  intro i f s h1 h2 h3
  obtain ⟨f,rfl⟩:∃m,f=m+1:=⟨f-1,by omega⟩
  have hi:i<l.length:=by omega
  have ei:at_ I l i=l[i]:=at_get (e:=I) hi
  obtain ⟨z0,z8⟩:=hin _ (List.getElem_mem hi)
  obtain ⟨y,ey⟩:∃y:Nat,l[i]=(y:Int):=⟨l[i].toNat,by omega⟩
  rw [List.drop_eq_getElem_cons hi] at h3 |-
  have e:sumP (l[i]::l.drop (i+1))=2 ^ y+sumP (l.drop (i+1)):=by
   rw [ey]
   rfl
  rw [e] at h3 |-
  have hs:=shl_one (y:=y) (by omega)
  have hw0:∀a b:Nat,a+b<=100000->IntKind.wrap .i64 ((a:Int)+(b:Int))=((a+b:Nat):Int):=fun a b h=>by rw [wrap_in _ (by omega) (by omega)];omega
  have hw:=hw0 s (2 ^ y) (by omega)
  have hge:decide (0<=(y:Int))=true:=decide_eq_true (by omega)
  have step:q45q_l0 N (f+1) (l,(s:Int),(i:Int),())=q45q_l0 N f (l,((s+2 ^ y:Nat):Int),((i+1:Nat):Int),()):=by
   show q45q_l0_r _ _ _=_
   unfold q45q_l0_r
   simp only [lt_dec hi,if_true,idxIn_nat hi,Int.toNat_natCast,ei,ey,hge,hs,hw,small_wrap (show i<=100000 by omega)]
  rw [step,ih (i+1) f (s+2 ^ y) (by omega) (by omega) (by omega)]
  congr 3
  omega
theorem num_ok {n:Nat} (hn:n<=8) (p:Nat->Bool):Ok (pickF F_q45q P_num (setF p n 0,())) fun r=>0<=r.1/\r.1<((2 ^ n:Nat):Int):=by
 have hr:=(setF_risingB p n 0).1
 have hin:∀x∈setF p n 0,0<=x/\x<(n:Int):=fun x hx=>by
  obtain ⟨y,_,hy,_,rfl⟩:=setF_mem.1 hx
  omega
 have hlen:(setF p n 0).length<=n:=setF_len
 have hb:=sumP_lt (setF p n 0) 0 n hr (fun x hx=>by have:=hin x hx;omega) (by omega)
 have hp:2 ^ n<=256:=Nat.pow_le_pow_right (n:=2) (by omega) hn
 have hP:Ok (pickF F_q45q P_num (setF p n 0,())) (P_num (setF p n 0,())):=by
  refine Ok.pick 20 ?_
  have hl:=num_l0 20 (setF p n 0) (fun x hx=>by have:=hin x hx;omega) (by omega) (setF p n 0).length 0 20 0 (by omega) (by omega) (by simp only [List.drop_zero];omega)
  simp only [Int.natCast_zero,List.drop_zero,Nat.zero_add] at hl
  unfold F_q45q
  simp only [hl,Option.bind_some]
  refine Ok.some ⟨by simp only;omega,fun m hm hx => ?_⟩
  have:=sumP_lt (setF p n 0) 0 m hr (fun x hx2=>by have:=hin x hx2;have:=hx x hx2;omega) (by omega)
  simp only
  omega
 exact hP.mono fun r hr=>⟨hr.1,hr.2 n hn fun x hx=>(hin x hx).2⟩
structure Sts (m cfn:Nat) (st:List St):Prop where
 at_:∀j (h:j<st.length),(∃c:Nat,st[j].1=(c:Int)/\c<cfn)/\(∃p:Nat->Bool,st[j].2.1=setF p m 0) /\ -1<=st[j].2.2.1/\st[j].2.2.1<(j:Int)
theorem Sts.push {m cfn:Nat} {st:List St} (h:Sts m cfn st) {c:Nat} (hc:c<cfn) (p:Nat->Bool) {b:Int} (h1 : -1<=b) (h2:b<(st.length:Int)):Sts m cfn (st++[((c:Int),setF p m 0,b,())]):=by
 refine ⟨fun j hj => ?_⟩
 by_cases hl:j<st.length
 ·rw [List.getElem_append_left hl]
  exact h.at_ j hl
 ·have e:j=st.length:=by simp at hj;omega
  subst e
  rw [List.getElem_append_right (by omega)]
  simp only [Nat.sub_self,List.getElem_cons_zero]
  exact ⟨⟨c,rfl,hc⟩,⟨p,rfl⟩,h1,h2⟩
theorem tr_l0 (N:Nat) (cf mv bl:List (List Int)) (v:Unit) (h8:∀l∈cf,l.length<=8) {m:Nat} {st:List St} (h:Sts m cf.length st) (hst:st.length<=50000):∀(k:Nat) (i:Int) f (out:List (List Int)),i<(k:Int) -> -1<=i->i<(st.length:Int)->k<f->out.length+k<=100000->(∀l∈out,l.length<=8) ->
  ∃out',q52q_l0 N f (st,i,(cf,mv,bl,v),out,())=some (.inl (out',()))/\out'.length<=out.length+k /\ ∀l∈out',l.length<=8:=by
 intro k
 induction k with
 | zero=>
  intro i f out h1 h2 h3 h4 h5 h6
  obtain ⟨f,rfl⟩:∃m,f=m+1:=⟨f-1,by omega⟩
  have hlt:decide (i>=(0:Int))=false:=decide_eq_false (by omega)
  refine ⟨out,?_,by omega,h6⟩
  show q52q_l0_r _ _ _=_
  unfold q52q_l0_r
  simp only [hlt,Bool.false_eq_true,if_false]
 | succ k ih=>
  intro i f out h1 h2 h3 h4 h5 h6
  obtain ⟨f,rfl⟩:∃m,f=m+1:=⟨f-1,by omega⟩
  by_cases h0:0<=i
  ·obtain ⟨j,rfl⟩:∃j:Nat,i=j:=⟨i.toNat,by omega⟩
   have hj:j<st.length:=by omega
   have hge:decide ((j:Int)>=(0:Int))=true:=decide_eq_true h0
   have ej:at_ K_PiSiiq st j=st[j]:=at_get (e:=K_PiSiiq) hj
   obtain ⟨⟨c,hc,hcl⟩,_,hb1,hb2⟩:=h.at_ j hj
   have ec:at_ K_Si cf c=cf[c]:=at_get (e:=K_Si) hcl
   have hrow:=h8 _ (List.getElem_mem hcl)
   have hown:=own_some cf[c] (by omega)
   have hle:decide (List.length [cf[c]]+out.length<=lim)=true:=decide_eq_true (by unfold lim;simp;omega)
   obtain ⟨out',e1,e2,e3⟩:=ih st[j].2.2.1 f ([cf[c]]++out) (by omega) hb1 (by omega) (by omega) (by simp;omega) (fun l hl=>by
    rcases List.mem_append.1 hl with hl | hl
    ·rw [List.mem_singleton.1 hl];exact hrow
    ·exact h6 l hl)
   refine ⟨out',?_,by simp at e2;omega,e3⟩
   rw [<- e1]
   show q52q_l0_r _ _ _=_
   unfold q52q_l0_r
   simp only [hge,if_true,idxIn_nat hj,Int.toNat_natCast,ej,hc,idxIn_nat hcl,ec,hown,Option.bind_some,hle]
  ·have hlt:decide (i>=(0:Int))=false:=decide_eq_false h0
   refine ⟨out,?_,by omega,h6⟩
   show q52q_l0_r _ _ _=_
   unfold q52q_l0_r
   simp only [hlt,Bool.false_eq_true,if_false]
theorem trace_ok (cf mv bl:List (List Int)) (v:Unit) (h8:∀l∈cf,l.length<=8) {m:Nat} {st:List St} (h:Sts m cf.length st) (hst:st.length<=50000) {i:Nat} (hi:i<st.length):Ok (pickF F_q52q P_trace ((cf,mv,bl,v),st,(i:Int),())) (P_trace ((cf,mv,bl,v),st,(i:Int),())):=by
 refine Ok.pick (i+10) ?_
 obtain ⟨out,e1,e2,e3⟩:=tr_l0 (i+10) cf mv bl v h8 h hst (i+1) (i:Int) (i+10) [] (by omega) (by omega) (by omega) (by omega) (by simp;omega) (fun l hl=>by simp at hl)
 unfold F_q52q
 simp only [e1,Option.bind_some]
 exact Ok.some ⟨by simp only;simp at e2;omega,e3⟩
def cntT (l:List Bool):Nat:=l.foldr (fun b s=>(if b=true then 1 else 0)+s) 0
theorem cntT_le (l:List Bool):cntT l<=l.length:=by
 induction l with
 | nil=>simp [cntT]
 | cons b l ih=>
  have e:cntT (b::l)=(if b=true then 1 else 0)+cntT l:=rfl
  rw [e]
  simp only [List.length_cons]
  split<;>omega
theorem cntT_set:∀(l:List Bool) (j:Nat) (h:j<l.length),l[j]=false->cntT (l.set j true)=cntT l+1:=by
 intro l
 induction l with
 | nil=>intro j h;simp at h
 | cons b l ih=>
  intro j h h2
  have e:∀(b:Bool) (l:List Bool),cntT (b::l)=(if b=true then 1 else 0)+cntT l:=fun _ _=>rfl
  cases j with
  | zero=>
   simp only [List.getElem_cons_zero] at h2
   subst h2
   simp only [List.set_cons_zero,e]
   simp
   omega
  | succ j=>
   simp only [List.getElem_cons_succ] at h2
   simp only [List.set_cons_succ,e,ih j (by simpa using h) h2]
   omega
theorem code_in {m cfn c:Nat} (hm:m<=8) (hc:c<cfn) (hcf:cfn<=120) {r:Int} (h0:0<=r) (h1:r<((2 ^ m:Nat):Int)):∃j:Nat,IntKind.wrap .i64 (shl .i64 (c:Int) (m:Int)+r)=(j:Int)/\j<cfn*2 ^ m:=by
 have hp:2 ^ m<=256:=Nat.pow_le_pow_right (n:=2) (by omega) hm
 have hb:(c+1)*2 ^ m<=cfn*2 ^ m:=Nat.mul_le_mul_right _ hc
 have hb2:cfn*2 ^ m<=120*256:=Nat.mul_le_mul hcf hp
 rw [Nat.add_mul] at hb
 refine ⟨c*2 ^ m+r.toNat,?_,by omega⟩
 rw [shl_nat (by omega) hm,wrap_in _ (by omega) (by omega)]
 omega
theorem sh_l0 (N:Nat) {m:Nat} (hm:m<=8) (es:List E) (v:Unit) (cf mv bl:List (List Int)) (w:Unit) (hcf:cf.length<=120) (h8:∀l∈cf,l.length<=8):∀k c f (st:List St) (sn:List Bool),c+k=cf.length->k<f->Sts m cf.length st->st.length=c->sn.length=cf.length*2 ^ m ->
  ∃st' sn',q23q_l0 N f (((m:Int),es,v),(cf,mv,bl,w),st,sn,(c:Int),())=some (.inl (((m:Int),es,v),(cf,mv,bl,w),st',sn',()))/\Sts m cf.length st'/\st'.length=cf.length/\sn'.length=cf.length*2 ^ m:=by
 intro k
 induction k with
 | zero=>
  intro c f st sn h1 h2 h3 h4 h5
  obtain ⟨f,rfl⟩:∃m,f=m+1:=⟨f-1,by omega⟩
  have hlt:decide ((c:Int)<(cf.length:Int))=false:=decide_eq_false (by omega)
  refine ⟨st,sn,?_,h3,by omega,h5⟩
  show q23q_l0_r _ _ _=_
  unfold q23q_l0_r
  simp only [hlt,Bool.false_eq_true,if_false]
 | succ k ih=>
  intro c f st sn h1 h2 h3 h4 h5
  obtain ⟨f,rfl⟩:∃m,f=m+1:=⟨f-1,by omega⟩
  have hc:c<cf.length:=by omega
  have ec:at_ K_Si cf c=cf[c]:=at_get (e:=K_Si) hc
  have hrow:=h8 _ (List.getElem_mem hc)
  have hlen:(setF (fun _=>true) m 0).length<=m:=setF_len
  have hrest:=rest_some (l:=setF (fun _=>true) m 0) (c:=cf[c]) (okL_of (by omega)) (okL_of (by omega)) ()
  rw [rest_set] at hrest
  generalize hp:(fun y:Nat=>true && !hasL cf[c] (y:Int))=p at hrest
  obtain ⟨r,hr,r0,r1⟩:=num_ok hm p
  obtain ⟨j,ej,jl⟩:=code_in hm hc hcf r0 r1
  have hle:decide (st.length+List.length [((c:Int),setF p m 0,(-1:Int),())]<=lim)=true:=decide_eq_true (by unfold lim;simp;omega)
  have hm0:decide (0<=(m:Int))=true:=decide_eq_true (by omega)
  have ij:idxIn (j:Int) sn.length=true:=idxIn_nat (by omega)
  obtain ⟨st',sn',e1,e2,e3,e4⟩:=ih (c+1) f (st++[((c:Int),setF p m 0,(-1:Int),())]) (sn.set j true) (by omega) (by omega) (h3.push hc p (by omega) (by omega)) (by simp;omega) (by rw [List.length_set];exact h5)
  refine ⟨st',sn',?_,e2,e3,e4⟩
  rw [<- e1]
  show q23q_l0_r _ _ _=_
  unfold q23q_l0_r
  simp only [lt_dec hc,if_true,all_some hm,Option.bind_some,idxIn_nat hc,Int.toNat_natCast,ec,hrest,hle,hm0,hr,ej,ij,small_wrap (show c<=100000 by omega)]
structure ShI (m cfn:Nat) (st:List St) (sn:List Bool):Prop where
 sts:Sts m cfn st
 len:sn.length=cfn*2 ^ m
 cnt:st.length<=cfn+cntT sn
theorem ShI.small {m cfn:Nat} {st:List St} {sn:List Bool} (h:ShI m cfn st sn) (hm:m<=8) (hc:cfn<=120):st.length<=30840:=by
 have hp:2 ^ m<=256:=Nat.pow_le_pow_right (n:=2) (by omega) hm
 have hb2:cfn*2 ^ m<=120*256:=Nat.mul_le_mul hc hp
 have:=cntT_le sn
 have:=h.cnt
 have:=h.len
 omega
theorem sh_l4 (N:Nat) {m:Nat} (hm:m<=8) (es:List E) (v:Unit) (cf mv bl:List (List Int)) (w:Unit) (hcf:cf.length<=120) (h8:∀l∈cf,l.length<=8) (hbl:bl.length=m) (hb9:∀b∈bl,b.length<=9) (hb:∀x:Nat,x<m->bl.getD x []=ballF m es (x:Int)) (i:Nat) (row:List Int) (hrow:row.length<=1000) (hin:∀d∈row,∃c:Nat,d=(c:Int)/\c<cf.length) :
  ∀k j f (st:List St) (sn:List Bool),j+k=row.length->k<f->ShI m cf.length st sn->i<st.length ->
  ∃st' sn',q23q_l4 N f (((m:Int),es,v),(cf,mv,bl,w),st,sn,(i:Int),row,(j:Int),())=some (.inl (((m:Int),es,v),(cf,mv,bl,w),st',sn',(i:Int),()))/\ShI m cf.length st' sn'/\i<st'.length:=by
 intro k
 induction k with
 | zero=>
  intro j f st sn h1 h2 h3 h4
  obtain ⟨f,rfl⟩:∃m,f=m+1:=⟨f-1,by omega⟩
  have hlt:decide ((j:Int)<(row.length:Int))=false:=decide_eq_false (by omega)
  refine ⟨st,sn,?_,h3,h4⟩
  show q23q_l4_r _ _ _=_
  unfold q23q_l4_r
  simp only [hlt,Bool.false_eq_true,if_false]
 | succ k ih=>
  intro j f st sn h1 h2 h3 h4
  obtain ⟨f,rfl⟩:∃m,f=m+1:=⟨f-1,by omega⟩
  have hj:j<row.length:=by omega
  have ej:at_ I row j=row[j]:=at_get (e:=I) hj
  obtain ⟨c,hd,hc⟩:=hin _ (List.getElem_mem hj)
  have ec:at_ K_Si cf c=cf[c]:=at_get (e:=K_Si) hc
  have hcl:=h8 _ (List.getElem_mem hc)
  have ei:at_ K_PiSiiq st i=st[i]:=at_get (e:=K_PiSiiq) h4
  obtain ⟨_,⟨q,hq⟩,_⟩:=h3.sts.at_ i h4
  have hql:(setF q m 0).length<=m:=setF_len
  have hnext:G_l11Next (bl,setF q m 0,cf[c],())=some (setF (nextP es m cf[c] q) m 0,()):=by
   have a1:(setF q m 0).all (inB 0 ((bl.length:Int)-1))=true:=List.all_eq_true.2 fun z hz=>by
    obtain ⟨y,_,hy,_,rfl⟩:=setF_mem.1 hz
    exact inB_iff.2 (by omega)
   have a2:bl.all (fun b=>decide (b.length<=9))=true:=List.all_eq_true.2 fun b hb'=>decide_eq_true (hb9 b hb')
   unfold G_l11Next
   rw [if_pos (by simp only [Bool.and_eq_true,decide_eq_true_eq];exact ⟨⟨⟨⟨by omega,a1⟩,by omega⟩,a2⟩,okL_of (by omega)⟩)]
   simp only [next_set cf[c] q hb]
  obtain ⟨r,hr,r0,r1⟩:=num_ok hm (nextP es m cf[c] q)
  obtain ⟨z,ez,zl⟩:=code_in hm hc hcf r0 r1
  have hzl:z<sn.length:=by rw [h3.len];exact zl
  have esz:at_ .bool sn z=sn[z]:=at_get (e:=.bool) hzl
  have hm0:decide (0<=(m:Int))=true:=decide_eq_true (by omega)
  have hsm:=h3.small hm hcf
  cases hz:sn[z] with
  | true=>
   obtain ⟨st',sn',e1,e2,e3⟩:=ih (j+1) f st sn (by omega) (by omega) h3 h4
   refine ⟨st',sn',?_,e2,e3⟩
   rw [<- e1]
   show q23q_l4_r _ _ _=_
   unfold q23q_l4_r
   simp only [lt_dec hj,if_true,idxIn_nat h4,idxIn_nat hj,Int.toNat_natCast,ej,hd,idxIn_nat hc,ei,hq,ec,hnext,Option.bind_some,hm0,hr,ez,idxIn_nat hzl,esz,hz,Bool.not_true,Bool.false_eq_true,if_false,small_wrap (show j<=100000 by omega)]
  | false=>
   have hle:decide (st.length+List.length [((c:Int),setF (nextP es m cf[c] q) m 0,(i:Int),())]<=lim)=true:=decide_eq_true (by unfold lim;simp;omega)
   obtain ⟨st',sn',e1,e2,e3⟩:=ih (j+1) f (st++[((c:Int),setF (nextP es m cf[c] q) m 0,(i:Int),())]) (sn.set z true) (by omega) (by omega) ⟨h3.sts.push hc _ (by omega) (by omega),by rw [List.length_set];exact h3.len,by rw [cntT_set sn z hzl hz];have:=h3.cnt;simp;omega⟩ (by simp;omega)
   refine ⟨st',sn',?_,e2,e3⟩
   rw [<- e1]
   show q23q_l4_r _ _ _=_
   unfold q23q_l4_r
   simp only [lt_dec hj,if_true,idxIn_nat h4,idxIn_nat hj,Int.toNat_natCast,ej,hd,idxIn_nat hc,ei,hq,ec,hnext,Option.bind_some,hm0,hr,ez,idxIn_nat hzl,esz,hz,Bool.not_false,hle,small_wrap (show j<=100000 by omega)]
theorem sh_l2 (N:Nat) (hN:1010<=N) {m:Nat} (hm:m<=8) (es:List E) (v:Unit) (cf mv bl:List (List Int)) (w:Unit) (hcf:cf.length<=120) (h8:∀l∈cf,l.length<=8) (hbl:bl.length=m) (hb9:∀b∈bl,b.length<=9) (hb:∀x:Nat,x<m->bl.getD x []=ballF m es (x:Int)) (hmv:mv.length=cf.length) (hrows:∀c,c<cf.length->(at_ K_Si mv c).length<=1000 /\ ∀d∈at_ K_Si mv c,∃y:Nat,d=(y:Int)/\y<cf.length) :
  ∀(k i f:Nat) (st:List St) (sn:List Bool),i+k=30841->k<f->ShI m cf.length st sn ->
  ∃o,q23q_l2 N f (((m:Int),es,v),(cf,mv,bl,w),st,sn,(i:Int),())=some o/\(o=.inr (.inl ()) \/ ∃t,o=.inl (t,true,())/\t.length<=40000 /\ ∀l∈t,l.length<=8):=by
 intro k
 induction k with
 | zero=>
  intro i f st sn h1 h2 h3
  obtain ⟨f,rfl⟩:∃m,f=m+1:=⟨f-1,by omega⟩
  have hsm:=h3.small hm hcf
  have hlt:decide ((i:Int)<(st.length:Int))=false:=decide_eq_false (by omega)
  refine ⟨.inr (.inl ()),?_,.inl rfl⟩
  show q23q_l2_r _ _ _=_
  unfold q23q_l2_r
  simp only [hlt,Bool.false_eq_true,if_false]
 | succ k ih=>
  intro i f st sn h1 h2 h3
  obtain ⟨f,rfl⟩:∃m,f=m+1:=⟨f-1,by omega⟩
  have hsm:=h3.small hm hcf
  by_cases hi:i<st.length
  ·have ei:at_ K_PiSiiq st i=st[i]:=at_get (e:=K_PiSiiq) hi
   obtain ⟨⟨c,hc,hcl⟩,⟨q,hq⟩,_⟩:=h3.sts.at_ i hi
   by_cases h0:(setF q m 0).length=0
   ·have e0:(((setF q m 0).length:Int)==(0:Int))=true:=beq_iff_eq.2 (by omega)
    obtain ⟨r,hr,r1,r2⟩:=trace_ok cf mv bl w h8 h3.sts (by omega) hi
    refine ⟨.inl (r.1,true,()),?_,.inr ⟨r.1,rfl,by simp only at r1;omega,r2⟩⟩
    show q23q_l2_r _ _ _=_
    unfold q23q_l2_r
    simp only [lt_dec hi,if_true,idxIn_nat hi,Int.toNat_natCast,ei,hq,e0,hr,Option.bind_some]
   ·have e0:(((setF q m 0).length:Int)==(0:Int))=false:=beq_eq_false_iff_ne.2 (by omega)
    obtain ⟨w1,w2⟩:=hrows c hcl
    obtain ⟨st',sn',q1,q2,q3⟩:=sh_l4 N hm es v cf mv bl w hcf h8 hbl hb9 hb i (at_ K_Si mv c) w1 w2 (at_ K_Si mv c).length 0 N st sn (by omega) (by omega) h3 hi
    simp only [Int.natCast_zero] at q1
    obtain ⟨o,o1,o2⟩:=ih (i+1) f st' sn' (by omega) (by omega) q2
    refine ⟨o,?_,o2⟩
    rw [<- o1]
    show q23q_l2_r _ _ _=_
    unfold q23q_l2_r
    simp only [lt_dec hi,if_true,idxIn_nat hi,Int.toNat_natCast,ei,hq,e0,Bool.false_eq_true,if_false,hc,idxIn_nat (show c<mv.length by omega),q1,Option.bind_some,small_wrap (show i<=100000 by omega)]
  ·have hlt:decide ((i:Int)<(st.length:Int))=false:=decide_eq_false (by omega)
   refine ⟨.inr (.inl ()),?_,.inl rfl⟩
   show q23q_l2_r _ _ _=_
   unfold q23q_l2_r
   simp only [hlt,Bool.false_eq_true,if_false]
theorem short_ok {m q:Nat} {es:List E} {v:Unit} (hg:graphB ((m:Int),es,v)=true) (ho:okL es=true) (m8:m<=8) (q3:q<=3):Ok (pickF F_q23q P_short (((m:Int),es,v),(q:Int),())) (P_short (((m:Int),es,v),(q:Int),())):=by
 refine Ok.pick 40000 ?_
 obtain ⟨h1,h2,h3,h4⟩:=game_spec (v:=v) hg ho q3 () ()
 obtain ⟨g1,g2,g3,g4⟩:=gmB_parts h3
 obtain ⟨b1,b2⟩:=blB_parts h4
 have hbl:=ballsL_len m es
 have hb:∀x:Nat,x<m->(ballsL m es).getD x []=ballF m es (x:Int):=fun x hx=>by
  have:=ballA_L es hx
  unfold ballA at this
  rwa [Int.toNat_natCast] at this
 have hb9:∀b∈ballsL m es,b.length<=9:=fun b hb=>by
  unfold ballsL at hb
  obtain ⟨x,_,rfl⟩:=List.mem_map.1 hb
  have:=ballF_len m es (x:Int)
  omega
 have h8:∀l∈cfG ((m:Int),es,v) q,l.length<=8:=fun l hl=>by rw [confL_len hl];omega
 have hp:2 ^ m<=256:=Nat.pow_le_pow_right (n:=2) (by omega) m8
 have hb2:(cfG ((m:Int),es,v) q).length*2 ^ m<=120*256:=Nat.mul_le_mul g1 hp
 have hm0:decide (0<=(m:Int))=true:=decide_eq_true (by omega)
 have hshl:=shl_nat (c:=(cfG ((m:Int),es,v) q).length) (m:=m) (by omega) m8
 have hc2:(decide (0<=(((cfG ((m:Int),es,v) q).length*2 ^ m:Nat):Int))&&decide ((((cfG ((m:Int),es,v) q).length*2 ^ m:Nat):Int)<=(((cfG ((m:Int),es,v) q).length*2 ^ m:Nat):Int))&&decide ((((cfG ((m:Int),es,v) q).length*2 ^ m:Nat):Int)<=(lim:Int)))=true:=by
  simp only [Bool.and_eq_true,decide_eq_true_eq]
  unfold lim
  omega
 obtain ⟨st,sn,e1,e2,e3,e4⟩:=sh_l0 40000 m8 es v (cfG ((m:Int),es,v) q) (mvG ((m:Int),es,v) q) (ballsL m es) () g1 h8 (cfG ((m:Int),es,v) q).length 0 40000 [] (List.replicate ((cfG ((m:Int),es,v) q).length*2 ^ m) false) (by omega) (by omega) ⟨fun j hj=>by simp at hj⟩ rfl (by simp)
 simp only [Int.natCast_zero] at e1
 obtain ⟨o,o1,o2⟩:=sh_l2 40000 (by omega) m8 es v (cfG ((m:Int),es,v) q) (mvG ((m:Int),es,v) q) (ballsL m es) () g1 h8 hbl hb9 hb g2 (fun c hc=>⟨(g4 c hc).1,fun d hd=>nodeX ((g4 c hc).2.2 d hd)⟩) 30841 0 40000 st sn (by omega) (by omega) ⟨e2,e4,by omega⟩
 simp only [Int.natCast_zero] at o1
 unfold F_q23q
 simp only [h1,Option.bind_some,hm0,if_true,hshl,hc2,Int.toNat_natCast,e1,o1]
 rcases o2 with rfl | ⟨t,rfl,t1,t2⟩
 ·exact Ok.some ⟨by simp,fun l hl=>by simp at hl⟩
 ·exact Ok.some ⟨t1,t2⟩
end Go.V.W
namespace Go.V.W
open Go.Proofs
theorem wk_l0 (N:Nat) (z:Gr) {m:Nat} {es:List E} {v:Unit} (hg:graphB ((m:Int),es,v)=true) (ho:okL es=true) (m8:m<=8) {q:Nat} (q1:1<=q) (q3:q<=3):∀(k:Nat) (i:Int) f (c:Cur) (out:List (List Int)),i<=(k:Int)->k<=8->k<f->CurB c->c.2.1+2*(k:Int)<=far_->out.length+k<=20->0<out.length->at_ K_Si out (out.length-1)∈confL m q->(∀l∈out,l.length<=10) ->
  Ok (q34q_l0 N f (c,z,((m:Int),es,v),out,i,())) fun o => ∃c' out',o=.inl (c',z,((m:Int),es,v),out',())/\Adv (2*(k:Int)) c c'/\0<out'.length/\out'.length<=20 /\ ∀l∈out',l.length<=10:=by
 intro k
 induction k with
 | zero=>
  intro i f c out h1 h1' h2 h3 h4 h5 h6 h7 h8
  obtain ⟨f,rfl⟩:∃m,f=m+1:=⟨f-1,by omega⟩
  have hlt:decide (i>(0:Int))=false:=decide_eq_false (by omega)
  show Ok (q34q_l0_r _ _ _) _
  unfold q34q_l0_r
  simp only [hlt,Bool.false_eq_true,if_false]
  exact Ok.some ⟨c,out,rfl,⟨h3,by omega⟩,h6,by omega,h8⟩
 | succ k ih=>
  intro i f c out h1 h1' h2 h3 h4 h5 h6 h7 h8
  obtain ⟨f,rfl⟩:∃m,f=m+1:=⟨f-1,by omega⟩
  show Ok (q34q_l0_r _ _ _) _
  unfold q34q_l0_r
  simp only
  refine Ok.ite (fun hp => ?_) fun _=>Ok.some ⟨c,out,rfl,⟨h3,by omega⟩,h6,by omega,h8⟩
  have hp:=of_decide_eq_true hp
  have hw:IntKind.wrap .i64 (i-1)=i-1:=wrap_in _ (by omega) (by omega)
  have hx:IntKind.wrap .i64 ((out.length:Int)-1)=((out.length-1:Nat):Int):=by rw [wrap_in _ (by omega) (by omega)];omega
  have hlt:out.length-1<out.length:=by omega
  simp only [hx,hw,Int.toNat_natCast]
  generalize hl:at_ K_Si out (out.length-1)=l at h7
  obtain ⟨l1,l2⟩:=confL_mem.1 h7
  have hn:=cops_nodes l2 (by omega)
  have hmv:G_l4Moves (((m:Int),es,v),l,())=some (movesL (ballF m es) l,()):=by
   unfold G_l4Moves
   simp only [graph_grB hg ho,hn,Bool.and_self,if_true,Int.toNat_natCast]
  refine Ok.pos (idxIn_nat hlt) ?_
  simp only [hmv,Option.bind_some]
  have hne:0<(movesL (ballF m es) l).length:=by
   have hin:=copsB_in l2
   obtain ⟨a,ha⟩:∃a,a∈l:=by
    cases l with
    | nil=>simp at l1;omega
    | cons a l=>exact ⟨a,by simp⟩
   obtain ⟨y,rfl,hy⟩:=nodeX (hin a ha)
   have hb:∀k∈l,ballF m es k≠[]:=fun k hk=>by
    obtain ⟨z,rfl,hz⟩:=nodeX (hin k hk)
    intro e
    have:=ball_self es hz
    rw [e] at this
    simp at this
   obtain ⟨x,hx,_⟩:=moves_has hb ha (ball_self es hy)
   exact List.length_pos_of_mem hx
  refine Ok.bind (pick_ok h3 (by omega)) fun r hr => ?_
  obtain ⟨r1,r2,r3⟩:=hr
  have rb:=r3.2
  obtain ⟨j,hj⟩:∃j:Nat,r.1=j:=⟨r.1.toNat,by omega⟩
  have hjl:j<(movesL (ballF m es) l).length:=by omega
  rw [hj]
  simp only [Int.toNat_natCast]
  have ej:at_ K_Si (movesL (ballF m es) l) j=(movesL (ballF m es) l)[j]:=at_get (e:=K_Si) hjl
  have hmem:at_ K_Si (movesL (ballF m es) l) j∈confL m q:=by
   rw [ej,<- l1]
   exact moves_mem (fun a _=>by have:=ballF_len m es a;omega) (fun a _=>ballF_in es a) (List.getElem_mem hjl)
  generalize at_ K_Si (movesL (ballF m es) l) j=x at hmem
  refine Ok.pos (idxIn_nat hjl) (Ok.pos (decide_eq_true (by unfold lim;simp;omega)) ?_)
  refine (ih (i-1) f r.2.1 (out++[x]) (by omega) (by omega) (by omega) r3.1 (by omega) (by simp;omega) (by simp) ?_ ?_).mono fun o ho => ?_
  ·have e:(out++[x]).length-1=out.length:=by simp
   rw [e,at_get (e:=K_Si) (l:=out++[x]) (i:=out.length) (by simp)]
   show (out++[x])[out.length]'(by simp)∈_
   rw [List.getElem_append_right (Nat.le_refl _)]
   simpa using hmem
  ·intro y hy
   rcases List.mem_append.1 hy with hy | hy
   ·exact h8 y hy
   ·rw [List.mem_singleton.1 hy]
    have:=(confL_mem.1 hmem).1
    omega
  ·obtain ⟨c',out',e1,e2,e3⟩:=ho
   exact ⟨c',out',e1,(r3.trans e2).le (by omega),e3⟩
theorem wk_l3 (N:Nat) (z g:Gr) (n:Nat) (hn:n<=50) (c:Cur):∀(k f:Nat) (out:List (List Int)),n<=out.length+k->k<f->0<out.length->out.length<=60->(∀l∈out,l.length<=10) ->
  ∃out',q34q_l3 N f (c,z,g,out,(n:Int),())=some (.inl (c,z,g,out',()))/\out'.length<=60 /\ ∀l∈out',l.length<=10:=by
 intro k
 induction k with
 | zero=>
  intro f out h1 h2 h3 h4 h5
  obtain ⟨f,rfl⟩:∃m,f=m+1:=⟨f-1,by omega⟩
  have hlt:decide ((out.length:Int)<(n:Int))=false:=decide_eq_false (by omega)
  refine ⟨out,?_,h4,h5⟩
  show q34q_l3_r _ _ _=_
  unfold q34q_l3_r
  simp only [hlt,Bool.false_eq_true,if_false]
 | succ k ih=>
  intro f out h1 h2 h3 h4 h5
  obtain ⟨f,rfl⟩:∃m,f=m+1:=⟨f-1,by omega⟩
  by_cases hlt:out.length<n
  ·have hd:decide ((out.length:Int)<(n:Int))=true:=decide_eq_true (by omega)
   have hx:IntKind.wrap .i64 ((out.length:Int)-1)=((out.length-1:Nat):Int):=by rw [wrap_in _ (by omega) (by omega)];omega
   have hl:out.length-1<out.length:=by omega
   have el:at_ K_Si out (out.length-1)=out[out.length-1]:=at_get (e:=K_Si) hl
   have h10:=h5 _ (List.getElem_mem hl)
   have hown:=own_some out[out.length-1] (by omega)
   have hle:decide (out.length+List.length [out[out.length-1]]<=lim)=true:=decide_eq_true (by unfold lim;simp;omega)
   obtain ⟨out',e1,e2,e3⟩:=ih f (out++[out[out.length-1]]) (by simp;omega) (by omega) (by simp) (by simp;omega) (fun y hy=>by
    rcases List.mem_append.1 hy with hy | hy
    ·exact h5 y hy
    ·rw [List.mem_singleton.1 hy];exact h10)
   refine ⟨out',?_,e2,e3⟩
   rw [<- e1]
   show q34q_l3_r _ _ _=_
   unfold q34q_l3_r
   simp only [hd,if_true,hx,idxIn_nat hl,Int.toNat_natCast,el,hown,Option.bind_some,hle]
  ·have hd:decide ((out.length:Int)<(n:Int))=false:=decide_eq_false (by omega)
   refine ⟨out,?_,h4,h5⟩
   show q34q_l3_r _ _ _=_
   unfold q34q_l3_r
   simp only [hd,Bool.false_eq_true,if_false]
theorem walk_ok {c:Cur} (h:CurB c) (hf:c.2.1+2000<=far_):Ok (pickF F_q34q P_walk (c,())) (P_walk (c,())):=by
 refine Ok.pick 60 ?_
 unfold F_q34q
 simp only
 refine Ok.bind (play_ok h (by omega)) fun r hr => ?_
 obtain ⟨⟨n,es,v⟩,l,c1,u⟩:=r
 obtain ⟨a1,l1,l2⟩:=hr
 have b1:=a1.2
 simp only at a1 b1 l1 l2
 have ho:okL es=true:=okL_of (by omega)
 have hl:okL l=true:=okL_of (by omega)
 have one:∀c',Adv 2000 c c'->Ok (some (((n,es,v),[l],c',()):Gr×List (List Int)×Cur×Unit)) (P_walk (c,())):=fun c' hc'=>Ok.some ⟨hc',l1,by simp,fun x hx=>by rw [List.mem_singleton.1 hx];exact l2⟩
 simp only [specField (g:=(n,es,v)) ho,Option.bind_some]
 refine Ok.ite (fun _=>one c1 (a1.le (by omega))) fun hfb => ?_
 have hfb:fieldB (n,es,v) (l.length:Int)=true:=by simpa using hfb
 obtain ⟨hg,m,q,rfl,eq,m1,m8,q1,q3⟩:=field_parts hfb
 have hc4:G_l4Cops (((m:Int),es,v),l,())=some (copsB (m:Int) l,()):=by
  unfold G_l4Cops
  simp only [hl,decide_eq_true (show 0<=(m:Int) by omega),decide_eq_true (show (m:Int)<=8 by omega),Bool.and_self,if_true]
 simp only [hc4,Option.bind_some]
 refine Ok.ite (fun _=>one c1 (a1.le (by omega))) fun hcb => ?_
 have hcb:copsB (m:Int) l=true:=by simpa using hcb
 have hlm:l∈confL m q:=confL_mem.2 ⟨by omega,hcb⟩
 refine Ok.bind (among_ok a1.1 (by omega) (by simp)) fun s hs => ?_
 have a2:=a1.trans hs.2
 have b2:=a2.2
 have hs8:s.1<=8:=by
  have:=hs.1
  simp at this
  omega
 have hloop:=wk_l0 60 (0,[],()) (v:=v) hg ho m8 q1 q3 8 s.1 60 s.2.1 [l] hs8 (by omega) (by omega) a2.1 (by omega) (by simp) (by simp) hlm (fun x hx=>by rw [List.mem_singleton.1 hx];exact l2)
 refine Ok.bind hloop fun o ho' => ?_
 obtain ⟨c3,out,rfl,a3',o1,o2,o3⟩:=ho'
 have a3:=a2.trans a3'
 have b3:=a3.2
 simp only
 refine Ok.bind (pick_ok a3.1 (by omega)) fun t ht => ?_
 have a4:=a3.trans ht.2.2
 have b4:=a4.2
 refine Ok.ite (fun _ => ?_) fun _=>Ok.ite (fun _ => ?_) fun _=>Ok.ite (fun _ => ?_) fun _ => ?_
 ·refine Ok.bind (cops_ok (g:=((m:Int),es,v)) a4.1 (by omega)) fun x hx=>Ok.pos (decide_eq_true (by unfold lim;simp;omega)) (Ok.some ⟨(a4.trans hx.1).le (by omega),l1,by simp;omega,fun y hy => ?_⟩)
  rcases List.mem_append.1 hy with hy | hy
  ·exact o3 y hy
  ·rw [List.mem_singleton.1 hy]
   exact hx.2
 ·exact Ok.some ⟨a4.le (by omega),l1,by simp,fun y hy=>by simp at hy⟩
 ·refine Ok.bind (pick_ok a4.1 (by omega)) fun x hx => ?_
  have a5:=a4.trans hx.2.2
  obtain ⟨j,hj⟩:∃j:Nat,x.1=j:=⟨x.1.toNat,by have:=hx.1;omega⟩
  have hj2:j<2:=by
   have:=hx.2.1
   omega
  have hw:IntKind.wrap .i64 ((40:Int)+x.1)=((40+j:Nat):Int):=by rw [hj,wrap_in _ (by omega) (by omega)];omega
  obtain ⟨out',e1,e2,e3⟩:=wk_l3 60 (0,[],()) ((m:Int),es,v) (40+j) (by omega) x.2.1 41 60 out (by omega) (by omega) o1 (by omega) o3
  simp only [hw,e1,Option.bind_some]
  exact Ok.some ⟨a5.le (by omega),l1,e2,e3⟩
 ·exact Ok.some ⟨a4.le (by omega),l1,by simp only;omega,o3⟩
def GWalk (g:Gr) (w:List (List Int)):Prop:=g.2.1.length<=200/\w.length<=60 /\ ∀l∈w,l.length<=10
theorem sweep_ok {c:Cur} {u:Unit} (h:CurB c) (hf:c.2.1+3000<=far_):Ok (F_q26q 0 (c,u)) fun r=>GWalk r.1 r.2.1:=by
 unfold F_q26q
 simp only
 refine Ok.bind (one_ok h (by omega)) fun r hr => ?_
 have b1:=hr.2
 have wlk:∀c',Adv 400 c c'->Ok ((pickF F_q34q P_walk (c',())).bind fun r=>some (r.1,r.2.1,r.2.2.1,())) fun r=>GWalk r.1 r.2.1:=fun c' hc'=>by
  have:=hc'.2
  exact Ok.bind (walk_ok hc'.1 (by omega)) fun s hs=>Ok.some hs.2
 refine Ok.ite (fun _ => ?_) fun _=>wlk _ (hr.le (by omega))
 refine Ok.bind (someGraph_ok hr.1 (by omega) (by omega) (by omega)) fun g hg => ?_
 have a2:=hr.trans hg.1
 have b2:=a2.2
 refine Ok.bind (pick_ok a2.1 (by omega)) fun p hp => ?_
 have a3:=a2.trans hp.2.2
 have b3:=a3.2
 obtain ⟨⟨n,es,v⟩,c2,u2⟩:=g
 have hes:es.length<=200:=hg.2
 have ho:okL es=true:=okL_of (by omega)
 obtain ⟨j,hj⟩:∃j:Nat,p.1=j:=⟨p.1.toNat,by have:=hp.1;omega⟩
 have hj2:j<2:=by
  have:=hp.2.1
  omega
 have hw:IntKind.wrap .i64 ((1:Int)+p.1)=((1+j:Nat):Int):=by rw [hj,wrap_in _ (by omega) (by omega)];omega
 simp only [hw]
 have hsc:Ok (F_q7q 0 ((n,es,v),((1+j:Nat):Int),())) fun r=>r.1.length<=40 /\ ∀l∈r.1,l.length<=8:=by
  unfold F_q7q
  simp only [specField (g:=(n,es,v)) ho,Option.bind_some]
  refine Ok.ite (fun _=>Ok.some ⟨by simp,fun l hl=>by simp at hl⟩) fun hfb => ?_
  have hfb:fieldB (n,es,v) ((1+j:Nat):Int)=true:=by simpa using hfb
  obtain ⟨hgr,m,q,rfl,eq,m1,m8,q1,q3⟩:=field_parts hfb
  refine Ok.bind (short_ok (v:=v) (q:=1+j) hgr ho m8 (by omega)) fun s hs => ?_
  refine Ok.ite (fun _=>Ok.some ⟨by simp,fun l hl=>by simp at hl⟩) fun _=>Ok.ite (fun _=>Ok.some ⟨by simp,fun l hl=>by simp at hl⟩) fun h40=>Ok.some ⟨?_,hs.2⟩
  have:=of_decide_eq_false h40
  simp only
  omega
 refine Ok.bind hsc fun s hs => ?_
 refine Ok.ite (fun _ => ?_) fun _=>wlk _ (a3.le (by omega))
 have fin:∀c',Ok (some (((n,es,v),s.1,c',()):Gr×List (List Int)×Cur×Unit)) fun r=>GWalk r.1 r.2.1:=fun c'=>Ok.some ⟨hes,by simp only;have:=hs.1;omega,fun l hl=>by have:=hs.2 l hl;omega⟩
 refine Ok.ite (fun h1 => ?_) fun _=>fin _
 have h1:=of_decide_eq_true h1
 refine Ok.bind (one_ok a3.1 (by omega)) fun t ht => ?_
 refine Ok.ite (fun _=>Ok.pos (by simp;omega) (Ok.some ⟨hes,?_,fun l hl => ?_⟩)) fun _=>fin _
 ·unfold sub_
  have:=hs.1
  simp
  omega
 ·unfold sub_ at hl
  have:=hs.2 l (List.mem_of_mem_take (List.mem_of_mem_drop hl))
  omega
theorem drawEO_ok {code:List Int} {u:Unit} (hb:∀x∈code,0<=x/\x<=255):Ok (F_q20q 0 (code,u)) fun r=>GWalk r.1 r.2.1:=by
 have hc:CurB (code,0,0,()):=⟨hb,Int.le_refl _⟩
 unfold F_q20q F_q14q
 simp only
 exact Ok.bind (Ok.bind (sweep_ok hc (by unfold far_;simp only;omega)) fun r hr=>Ok.some hr) fun r hr=>Ok.some hr
theorem GWalk.ok {g:Gr} {w:List (List Int)} (h:GWalk g w):okL g.2.1=true/\okLL w=true:=⟨okL_of (by have:=h.1;omega),okLL_small (by have:=h.2.1;omega) (List.all_eq_true.2 fun l hl=>decide_eq_true (by have:=h.2.2 l hl;omega))⟩
theorem drawIE_ok {code:List Int} {u:Unit} (hb:∀x∈code,0<=x/\x<=255):Ok (F_q22q 0 (code,u)) fun r=>GWalk r.1 r.2.1/\okL r.2.2.1=true:=by
 have hc:CurB (code,0,0,()):=⟨hb,Int.le_refl _⟩
 unfold F_q22q
 simp only
 refine Ok.bind (walk_ok hc (by unfold far_;simp only;omega)) fun r hr => ?_
 have hw:GWalk r.1 r.2.1:=hr.2
 have a1:=hr.1
 have b1:=a1.2
 simp only at b1
 obtain ⟨o1,o2⟩:=hw.ok
 have he:G_escapeOf (r.1,r.2.1,())=some (escO r.1 r.2.1):=by
  unfold G_escapeOf
  simp only [o1,o2,Bool.and_self,if_true]
 have hlen:=esc_small (g:=r.1) (w:=r.2.1)
 simp only [he,Option.bind_some]
 generalize (escO r.1 r.2.1).1=S at hlen
 have done:∀S':List Int,S'.length<=41->Ok (some ((r.1,r.2.1,S',()):Gr×List (List Int)×List Int×Unit)) fun r=>GWalk r.1 r.2.1/\okL r.2.2.1=true:=fun S' h=>Ok.some ⟨hw,okL_of (by simp only;omega)⟩
 refine Ok.ite (fun hp => ?_) fun _=>done S (by omega)
 have hp:=of_decide_eq_true hp
 refine Ok.bind (pick_ok a1.1 (by unfold far_;omega)) fun i hi => ?_
 obtain ⟨i1,i2,i3⟩:=hi
 have ib:=i3.2
 obtain ⟨j,hj⟩:∃j:Nat,i.1=j:=⟨i.1.toNat,by omega⟩
 have hjl:j<S.length:=by omega
 refine Ok.bind (pick_ok i3.1 (by unfold far_;omega)) fun t ht => ?_
 have tb:=ht.2.2.2
 refine Ok.ite (fun _ => ?_) fun _=>Ok.ite (fun _ => ?_) fun _=>Ok.ite (fun _ => ?_) fun _=>done S (by omega)
 ·refine Ok.bind (node_ok ht.2.2.1 (by unfold far_;omega)) fun x hx => ?_
  rw [hj]
  exact Ok.pos (idxIn_nat hjl) (done _ (by rw [List.length_set];omega))
 ·refine Ok.pos (by simp;omega) (done _ ?_)
  unfold sub_
  simp
  omega
 ·have hx:IntKind.wrap .i64 ((S.length:Int)-1)=((S.length-1:Nat):Int):=by rw [wrap_in _ (by omega) (by omega)];omega
  rw [hx]
  exact Ok.pos (idxIn_nat (by omega)) (Ok.pos (decide_eq_true (by unfold lim;simp;omega)) (done _ (by simp;omega)))
theorem walk_shape {g:Gr} {w:List (List Int)} (h:walkB g w=true):graphB g=true/\0<g.1 /\ ∃c cs,w=c::cs:=by
 unfold walkB at h
 simp only [Bool.and_eq_true,decide_eq_true_eq] at h
 obtain ⟨⟨⟨⟨h1,h2⟩,h3⟩,_⟩,_⟩:=h
 refine ⟨h1,h3,?_⟩
 cases w with
 | nil=>have:=inB_iff.1 h2;simp at this
 | cons c cs=>exact ⟨c,cs,rfl⟩
theorem sets_at {g:Gr} {w:List (List Int)} {i:Nat} (hi:i<(walkP g w).length):(setsL g w).getD i []=setF ((walkP g w).getD i fun _=>false) g.1.toNat 0:=by
 unfold setsL
 rw [List.getD_eq_getElem?_getD,List.getElem?_map,List.getD_eq_getElem?_getD,List.getElem?_eq_getElem hi]
 rfl
theorem esc_clear {g:Gr} {w:List (List Int)} {r:List Int} (h:walkB g w=true) (he:escG g w r=true):clearB g w=(false,true,()):=by
 obtain ⟨h1,h2,c,cs,rfl⟩:=walk_shape h
 obtain ⟨n,es,v⟩:=g
 obtain ⟨m,rfl⟩:∃m:Nat,n=m:=⟨n.toNat,by simp only at h2;omega⟩
 obtain ⟨e1,e2⟩:=esc_unsafe he
 obtain ⟨x,_,hx,hp⟩:=e2 cs.length (by omega)
 have hlen:(walkP ((m:Int),es,v) (c::cs)).length=cs.length+1:=by
  unfold walkP
  simp [unsP_len]
 have hs:=sets_at (g:=((m:Int),es,v)) (w:=c::cs) (i:=cs.length) (by omega)
 unfold clearB
 rw [if_pos h]
 have:¬(setsL ((m:Int),es,v) (c::cs)).getD ((c::cs).length-1) []=[]:=by
  rw [show (c::cs).length-1=cs.length by simp,hs]
  intro e
  have:(x:Int)∈setF ((walkP ((m:Int),es,v) (c::cs)).getD cs.length fun _=>false) ((m:Int)).toNat 0:=setF_mem.2 ⟨x,Nat.zero_le _,by simp only [Int.toNat_natCast];omega,hp,rfl⟩
  rw [e] at this
  simp at this
 rw [decide_eq_false this]
noncomputable def blTail (a0:List Int):Option (Bool×Unit):=
  ((F_q22q 0) (a0,())).bind fun r24=>
  (G_escape ((r24.1,(r24.2.1,(r24.2.2.1,()))))).bind fun r25=>
  (G_escape ((r24.1,(r24.2.1,(r24.2.2.1,()))))).bind fun r26=>
  if (!(r25.1==r26.1))=true then
   some (false,())
  else
   if (!(r25.2.1==r26.2.1))=true then
    some (false,())
   else
    if (!r25.1)=true then
     some (true,())
    else
     ((F_q17q 0) ((r24.1,(r24.2.1,())))).bind fun r27=>
     if (r27.2.1)=true then
      some (!r27.1,())
     else
      some (false,())
theorem blTail_ok {code:List Int} (hb:∀x∈code,0<=x/\x<=255):blTail code=some (true,()):=by
 obtain ⟨⟨⟨n,es,v⟩,w,r,u⟩,e1,e2,e3⟩:=drawIE_ok (u:=()) hb
 obtain ⟨o1,o2⟩:=e2.ok
 have o1:okL es=true:=o1
 have o2:okLL w=true:=o2
 have o3:okL r=true:=e3
 have hge:G_escape ((n,es,v),w,r,())=some (walkB (n,es,v) w&&escG (n,es,v) w r,walkB (n,es,v) w,()):=by
  unfold G_escape
  simp only [o1,o2,o3,Bool.and_self,if_true]
 unfold blTail
 simp only [e1,Option.bind_some,hge,beq_self_eq_true,Bool.not_true,Bool.false_eq_true,if_false,implIC o1 o2]
 cases hw:walkB (n,es,v) w with
 | false=>simp only [Bool.false_and,Bool.not_false,if_true]
 | true=>
  cases he:escG (n,es,v) w r with
  | false=>simp only [Bool.and_false,Bool.not_false,if_true]
  | true=>simp only [Bool.and_self,Bool.not_true,Bool.false_eq_true,if_false,esc_clear hw he,if_true,Bool.not_false]
theorem bl_l0 (N:Nat) (code:List Int) (r:List Int) (S:List (List Int)) (hr:r.length<=100) (hl:r.length<=S.length) (ho:∀i,i<r.length->okL (at_ K_Si S i)=true) (hh:∀i (h:i<r.length),hasL (at_ K_Si S i) r[i]=true) :
  laws_FnBlindWalks_l0 N 1010 (code,r,S,(0:Int),())=some (.inr (.inl (code,()))):=by
 have h:=loop_iter (L:=laws_FnBlindWalks_l0 N) (r:=laws_FnBlindWalks_l0_r N) (fun _ _=>rfl) (n:=r.length) (mk:=fun i=>(code,r,S,(i:Int),())) (o:=.inr (.inl (code,())))
  (by
   intro back i hi
   have ei:at_ I r i=r[i]:=at_get (e:=I) hi
   have hg:G_rHas (at_ K_Si S i,r[i],())=some (true,()):=by
    unfold G_rHas
    simp only [ho i hi,if_true,hh i hi]
   unfold laws_FnBlindWalks_l0_r
   simp only [lt_dec hi,if_true,idxIn_nat hi,idxIn_nat (show i<S.length by omega),Int.toNat_natCast,ei,hg,Option.bind_some,Bool.not_true,Bool.false_eq_true,if_false,small_wrap (show i<=100000 by omega)])
  (by intro back;unfold laws_FnBlindWalks_l0_r;simp only [lt_not,Bool.false_eq_true,if_false]) 1009 (by omega)
 simpa only [Int.natCast_zero] using h
theorem lawBlind_of {code:List Int} {u:Unit} (hb:∀x∈code,0<=x/\x<=255) (hbig:(g_laws_rBig (code,())).1=false) {n:Int} {es:List E} {v:Unit} {w:List (List Int)} {x:Unit} (hd:F_q20q 0 (code,())=some ((n,es,v),w,x)) (o1:okL es=true) (o2:okLL w=true):F_laws_FnBlindWalks 1010 (code,u)=some (true,()):=by
 have htail:=blTail_ok hb
 unfold blTail at htail
 obtain ⟨u1,u2⟩:=uns_small (g:=(n,es,v)) (w:=w)
 have okU:=okLL_8 (by omega) u2
 have okE:okL (escO (n,es,v) w).1=true:=okL_of (by have:=esc_small (g:=(n,es,v)) (w:=w);omega)
 have he:G_escapeOf ((n,es,v),w,())=some (escO (n,es,v) w):=by unfold G_escapeOf;simp only [o1,o2,Bool.and_self,if_true]
 have hu:G_uns ((n,es,v),w,())=some (unsG (n,es,v) w):=by unfold G_uns;simp only [o1,o2,Bool.and_self,if_true]
 have hsu:F_q25q 0 ((n,es,v),w,())=some (unsG (n,es,v) w):=specUns o1 o2
 have rT:G_rTable ((unsG (n,es,v) w).1,(unsG (n,es,v) w).1,())=some (true,()):=by unfold G_rTable;simp only [okU,if_true,decide_true]
 have rI:G_rInts ((escO (n,es,v) w).1,(escO (n,es,v) w).1,())=some (true,()):=by unfold G_rInts;simp only [okE,if_true,decide_true]
 unfold F_laws_FnBlindWalks
 simp only [hbig,Bool.false_eq_true,if_false,hd,Option.bind_some,implEO o1 o2,he,beq_self_eq_true,Bool.not_true,rI,implIC o1 o2,specIC o1 o2,hu,hsu,rT,impl_walk o1 o2,spec_walk o1 o2]
 cases hw:walkB (n,es,v) w with
 | false=>
  have c1:clearB (n,es,v) w=(false,false,()):=by unfold clearB;rw [hw];rfl
  have c2:unsG (n,es,v) w=([],false,()):=by unfold unsG;rw [hw];rfl
  have c3:escO (n,es,v) w=([],false,()):=by unfold escO;rw [hw];rfl
  have c4:(walkV (n,es,v) w).1=false:=by unfold walkV;rw [hw,Bool.and_false]
  simp only [c1,c2,c3,c4,beq_self_eq_true,Bool.not_true,Bool.false_eq_true,if_false]
  cases (walkV (n,es,v) w).2.1 with
  | true=>simp only [if_true];exact htail
  | false=>simp only [Bool.false_eq_true,if_false];exact htail
 | true=>
  obtain ⟨h1,h2,c,cs,rfl⟩:=walk_shape hw
  have h2:0<n:=h2
  obtain ⟨m,rfl⟩:∃m:Nat,n=m:=⟨n.toNat,by omega⟩
  have c4:walkV ((m:Int),es,v) (c::cs)=(true,true,()):=by
   unfold walkV
   rw [hw,h1,decide_eq_true (show ((m:Int),es,v).1>0 from h2)]
   rfl
  have c2:unsG ((m:Int),es,v) (c::cs)=(setsL ((m:Int),es,v) (c::cs),true,()):=by unfold unsG;rw [hw];rfl
  have c1:clearB ((m:Int),es,v) (c::cs)=(decide ((setsL ((m:Int),es,v) (c::cs)).getD ((c::cs).length-1) []=[]),true,()):=by unfold clearB;rw [hw];rfl
  have c3:escO ((m:Int),es,v) (c::cs)=escV (escL es m (fun _=>true) (backP es m (c::cs))):=by unfold escO;rw [hw];simp only [if_true,Int.toNat_natCast]
  have hwl:(walkP ((m:Int),es,v) (c::cs)).length=cs.length+1:=by
   unfold walkP
   simp [unsP_len]
  have hsl:(setsL ((m:Int),es,v) (c::cs)).length=cs.length+1:=by
   unfold setsL
   rw [List.length_map,hwl]
  have hiff:=clear_iff (n:=m) (es:=es) (v:=v) c cs
  rw [c2] at u1 u2 okU
  simp only at u1 u2 okU
  have hne:(((setsL ((m:Int),es,v) (c::cs)).length:Int) != (((c::cs).length:Nat):Int))=false:=by rw [hsl];simp
  have hx:IntKind.wrap .i64 (((setsL ((m:Int),es,v) (c::cs)).length:Int)-1)=(cs.length:Int):=by rw [wrap_in _ (by omega) (by omega)];omega
  have hidx:idxIn (cs.length:Int) (setsL ((m:Int),es,v) (c::cs)).length=true:=idxIn_nat (by omega)
  have eat:at_ K_Si (setsL ((m:Int),es,v) (c::cs)) cs.length=(setsL ((m:Int),es,v) (c::cs)).getD cs.length []:=at_getDS (by omega)
  have hlast:(c::cs).length-1=cs.length:=by simp
  rw [hlast] at c1
  simp only [c1,c2,c4,beq_self_eq_true,Bool.not_true,Bool.false_eq_true,if_false,if_true,hne,hx,hidx,Int.toNat_natCast,eat]
  have hb0:∀L:List Int,(decide (L=[])==(((L.length:Int))==(0:Int)))=true:=fun L=>by cases L<;>simp<;>omega
  simp only [hb0,Bool.not_true,Bool.false_eq_true,if_false]
  rw [c3]
  cases hes:escL es m (fun _=>true) (backP es m (c::cs)) with
  | none=>
   have hcl:=hiff.2 hes
   have hd0:decide ((setsL ((m:Int),es,v) (c::cs)).getD cs.length []=[])=true:=decide_eq_true hcl
   have hnb:(false==true)=false:=rfl
   simp only [escV,hd0,hnb,Bool.false_eq_true,if_false]
   exact htail
  | some r=>
   have hcl:¬(setsL ((m:Int),es,v) (c::cs)).getD cs.length []=[]:=fun h=>by
    have:=hiff.1 h
    rw [hes] at this
    cases this
   have hd0:decide ((setsL ((m:Int),es,v) (c::cs)).getD cs.length []=[])=false:=decide_eq_false hcl
   have hnb:(true==false)=false:=rfl
   have hfound:=esc_found (v:=v) c cs hes
   rw [c3,hes] at okE
   have okE:okL r=true:=okE
   have hge:G_escape (((m:Int),es,v),c::cs,r,())=some (true,true,()):=by
    unfold G_escape
    simp only [o1,o2,okE,Bool.and_self,if_true,hw,hfound]
   obtain ⟨r1,r2⟩:=esc_unsafe hfound
   have hloop:=bl_l0 1010 code r (setsL ((m:Int),es,v) (c::cs)) (by omega) (by omega) (fun i hi=>by
    rw [at_get (e:=K_Si) (show i<(setsL ((m:Int),es,v) (c::cs)).length by omega)]
    exact okL_of (Nat.le_trans (u2 _ (List.getElem_mem _)) (by omega))) (fun i hi=>by
    obtain ⟨x,ex,hx,hp⟩:=r2 i hi
    have er:r[i]=(x:Int):=by
     rw [List.getD_eq_getElem?_getD,List.getElem?_eq_getElem hi] at ex
     exact ex
    rw [er,at_getDS (by omega),sets_at (by omega)]
    exact has_mem.2 (setF_mem.2 ⟨x,Nat.zero_le _,by simp only [Int.toNat_natCast];omega,hp,rfl⟩))
   simp only [escV,hd0,hnb,Bool.false_eq_true,if_false,if_true,hge,Option.bind_some,Bool.not_true,hloop]
   exact htail
theorem lawBlind_lim (d:List Int×Unit) (r:Bool×Unit) (h:G_law d=some r):∃N,F_laws_FnBlindWalks N d=some r:=by
 obtain ⟨code,u⟩:=d
 unfold G_law at h
 split at h
 ·rename_i hh
  cases Option.some.inj h
  simp only [Bool.and_eq_true,List.all_eq_true] at hh
  have hb:∀x∈code,0<=x/\x<=255:=fun x hx=>by
   have:=hh.1 x hx
   unfold inB at this
   simpa using this
  cases hbig:(g_laws_rBig (code,())).1 with
  | true=>
   refine ⟨0,?_⟩
   unfold F_laws_FnBlindWalks
   simp only [hbig,if_true]
  | false=>
   obtain ⟨⟨⟨n,es,v⟩,w,x⟩,e1,e2⟩:=drawEO_ok (u:=()) hb
   obtain ⟨o1,o2⟩:=e2.ok
   exact ⟨1010,lawBlind_of hb hbig e1 o1 o2⟩
 ·cases h
end Go.V.W
namespace Go.V.W
open Go.Proofs
structure LogIs (d p:List UInt8) (c:Int):Prop where
 size:d.length+p.length<=30000
 all:(openL 60 0 (d++p)).2=(d++p).length
 durable:(openL 60 0 d).2=d.length
 count:((openL 60 0 (d++p)).1.length:Int)=c
end Go.V.W
namespace Go.V.W
open Go.Proofs Go.Shelf Go.RowKit
-- import Derived.Shelf.Lays
-- import Derived.Shelf.LaysM
-- import Derived.Test.XvLib3
-- import Derived.Shelf.SortM.Plain
-- import Derived.Shelf.SortM.SortNone
-- import Derived.Shelf.SlSortCmp.NoneTotal
def layg5_ren:Go.Shelf.Ren:=
{
  f:=fun x=>
    match x with
    | 5=>221
    | 8=>252
    | 7=>251
    | 19=>268
    | 20=>269
    | 10=>260
    | 11=>261
    | 12=>262
    | 13=>263
    | 14=>264
    | 15=>265
    | 16=>250
    | 17=>266
    | 18=>267
    | 30=>280
    | 31=>281
    | 32=>282
    | 33=>283
    | 34=>284
    | 35=>258
    | 40=>288
    | n=>n,
  t:=fun x=>
    match x with
    | 23=>36
    | 25=>3
    | 3=>3
    | 32=>192
    | 22=>36
    | 0=>0
    | 44=>199
    | 46=>94
    | 4=>4
    | 36=>206
    | 35=>205
    | 41=>39
    | 5=>5
    | 9=>9
    | 53=>222
    | 57=>226
    | 63=>230
    | 64=>231
    | n=>n,
  g:=fun x=>
    x }
set_option maxRecDepth 1000000 in
theorem layg5:Go.Proofs.SlLaysM.n5 Go.Proofs.Tryz.prog layg5_ren:=
{ mixed:=by kernel_rfl,
  f5:=⟨Go.Proofs.Tryz.f221.name,of_decide_eq_true (by kernel_rfl),(Go.Proofs.Tryz.func221).trans (congrArg some (by kernel_rfl))⟩,
  f7:=⟨Go.Proofs.Tryz.f251.name,of_decide_eq_true (by kernel_rfl),(Go.Proofs.Tryz.func251).trans (congrArg some (by kernel_rfl))⟩,
  f8:=(Go.Proofs.Tryz.func252).trans (congrArg some (by kernel_rfl)),
  f10:=⟨Go.Proofs.Tryz.f260.name,of_decide_eq_true (by kernel_rfl),(Go.Proofs.Tryz.func260).trans (congrArg some (by kernel_rfl))⟩,
  f11:=⟨Go.Proofs.Tryz.f261.name,of_decide_eq_true (by kernel_rfl),(Go.Proofs.Tryz.func261).trans (congrArg some (by kernel_rfl))⟩,
  f12:=⟨Go.Proofs.Tryz.f262.name,of_decide_eq_true (by kernel_rfl),(Go.Proofs.Tryz.func262).trans (congrArg some (by kernel_rfl))⟩,
  f13:=⟨Go.Proofs.Tryz.f263.name,of_decide_eq_true (by kernel_rfl),(Go.Proofs.Tryz.func263).trans (congrArg some (by kernel_rfl))⟩,
  f14:=⟨Go.Proofs.Tryz.f264.name,of_decide_eq_true (by kernel_rfl),(Go.Proofs.Tryz.func264).trans (congrArg some (by kernel_rfl))⟩,
  f15:=⟨Go.Proofs.Tryz.f265.name,of_decide_eq_true (by kernel_rfl),(Go.Proofs.Tryz.func265).trans (congrArg some (by kernel_rfl))⟩,
  f16:=⟨Go.Proofs.Tryz.f250.name,of_decide_eq_true (by kernel_rfl),(Go.Proofs.Tryz.func250).trans (congrArg some (by kernel_rfl))⟩,
  f17:=⟨Go.Proofs.Tryz.f266.name,of_decide_eq_true (by kernel_rfl),(Go.Proofs.Tryz.func266).trans (congrArg some (by kernel_rfl))⟩,
  f18:=⟨Go.Proofs.Tryz.f267.name,of_decide_eq_true (by kernel_rfl),(Go.Proofs.Tryz.func267).trans (congrArg some (by kernel_rfl))⟩,
  f19:=(Go.Proofs.Tryz.func268).trans (congrArg some (by kernel_rfl)),
  f20:=(Go.Proofs.Tryz.func269).trans (congrArg some (by kernel_rfl)),
  f30:=⟨Go.Proofs.Tryz.f280.name,of_decide_eq_true (by kernel_rfl),(Go.Proofs.Tryz.func280).trans (congrArg some (by kernel_rfl))⟩,
  f31:=(Go.Proofs.Tryz.func281).trans (congrArg some (by kernel_rfl)),
  f32:=(Go.Proofs.Tryz.func282).trans (congrArg some (by kernel_rfl)),
  f33:=⟨Go.Proofs.Tryz.f283.name,of_decide_eq_true (by kernel_rfl),(Go.Proofs.Tryz.func283).trans (congrArg some (by kernel_rfl))⟩,
  f34:=⟨Go.Proofs.Tryz.f284.name,of_decide_eq_true (by kernel_rfl),(Go.Proofs.Tryz.func284).trans (congrArg some (by kernel_rfl))⟩,
  f35:=⟨Go.Proofs.Tryz.f258.name,of_decide_eq_true (by kernel_rfl),(Go.Proofs.Tryz.func258).trans (congrArg some (by kernel_rfl))⟩,
  f40:=⟨Go.Proofs.Tryz.f288.name,of_decide_eq_true (by kernel_rfl),(Go.Proofs.Tryz.func288).trans (congrArg some (by kernel_rfl))⟩,
  t0:=Go.Proofs.Tryz.underlying0,
  a0:=Go.Proofs.Tryz.isAgg0,
  z0:=Go.Proofs.Tryz.sizeOf0,
  v0:=Go.Proofs.Tryz.zeroValue0,
  t3:=Go.Proofs.Tryz.underlying3,
  a3:=Go.Proofs.Tryz.isAgg3,
  z3:=Go.Proofs.Tryz.sizeOf3,
  v3:=Go.Proofs.Tryz.zeroValue3,
  t4:=Go.Proofs.Tryz.underlying4,
  a4:=Go.Proofs.Tryz.isAgg4,
  z4:=Go.Proofs.Tryz.sizeOf4,
  v4:=Go.Proofs.Tryz.zeroValue4,
  t5:=Go.Proofs.Tryz.underlying5,
  a5:=Go.Proofs.Tryz.isAgg5,
  z5:=Go.Proofs.Tryz.sizeOf5,
  v5:=Go.Proofs.Tryz.zeroValue5,
  t9:=Go.Proofs.Tryz.underlying9,
  a9:=Go.Proofs.Tryz.isAgg9,
  z9:=Go.Proofs.Tryz.sizeOf9,
  v9:=Go.Proofs.Tryz.zeroValue9,
  t22:=Go.Proofs.Tryz.underlying36,
  a22:=Go.Proofs.Tryz.isAgg36,
  z22:=Go.Proofs.Tryz.sizeOf36,
  v22:=Go.Proofs.Tryz.zeroValue36,
  t23:=Go.Proofs.Tryz.underlying36,
  a23:=Go.Proofs.Tryz.isAgg36,
  z23:=Go.Proofs.Tryz.sizeOf36,
  v23:=Go.Proofs.Tryz.zeroValue36,
  t25:=Go.Proofs.Tryz.underlying3,
  a25:=Go.Proofs.Tryz.isAgg3,
  z25:=Go.Proofs.Tryz.sizeOf3,
  v25:=Go.Proofs.Tryz.zeroValue3,
  t32:=Go.Proofs.Tryz.underlying192,
  a32:=Go.Proofs.Tryz.isAgg192,
  z32:=Go.Proofs.Tryz.sizeOf192,
  v32:=Go.Proofs.Tryz.zeroValue192,
  t35:=Go.Proofs.Tryz.underlying205,
  a35:=Go.Proofs.Tryz.isAgg205,
  z35:=Go.Proofs.Tryz.sizeOf205,
  v35:=Go.Proofs.Tryz.zeroValue205,
  t36:=Go.Proofs.Tryz.underlying206,
  a36:=Go.Proofs.Tryz.isAgg206,
  z36:=Go.Proofs.Tryz.sizeOf206,
  v36:=Go.Proofs.Tryz.zeroValue206,
  t41:=Go.Proofs.Tryz.underlying39,
  a41:=Go.Proofs.Tryz.isAgg39,
  z41:=Go.Proofs.Tryz.sizeOf39,
  v41:=Go.Proofs.Tryz.zeroValue39,
  t44:=Go.Proofs.Tryz.underlying199,
  a44:=Go.Proofs.Tryz.isAgg199,
  z44:=Go.Proofs.Tryz.sizeOf199,
  v44:=Go.Proofs.Tryz.zeroValue199,
  t46:=Go.Proofs.Tryz.underlying94,
  a46:=Go.Proofs.Tryz.isAgg94,
  z46:=Go.Proofs.Tryz.sizeOf94,
  v46:=Go.Proofs.Tryz.zeroValue94,
  t53:=Go.Proofs.Tryz.underlying222,
  a53:=Go.Proofs.Tryz.isAgg222,
  z53:=Go.Proofs.Tryz.sizeOf222,
  v53:=Go.Proofs.Tryz.zeroValue222,
  t57:=Go.Proofs.Tryz.underlying226,
  a57:=Go.Proofs.Tryz.isAgg226,
  z57:=Go.Proofs.Tryz.sizeOf226,
  v57:=Go.Proofs.Tryz.zeroValue226,
  t63:=Go.Proofs.Tryz.underlying230,
  a63:=Go.Proofs.Tryz.isAgg230,
  z63:=Go.Proofs.Tryz.sizeOf230,
  v63:=Go.Proofs.Tryz.zeroValue230,
  t64:=Go.Proofs.Tryz.underlying231,
  a64:=Go.Proofs.Tryz.isAgg231,
  z64:=Go.Proofs.Tryz.sizeOf231,
  v64:=Go.Proofs.Tryz.zeroValue231 }
def layg6_ren:Go.Shelf.Ren:=
{
  f:=fun x=>
    match x with
    | 6=>222
    | 15=>252
    | 14=>253
    | 28=>268
    | 29=>269
    | 20=>270
    | 21=>271
    | 22=>272
    | 23=>273
    | 24=>274
    | 25=>275
    | 26=>276
    | 27=>277
    | 46=>285
    | 47=>281
    | 48=>282
    | 49=>286
    | 50=>287
    | 57=>289
    | n=>n,
  t:=fun x=>
    match x with
    | 22=>27
    | 24=>36
    | 25=>167
    | 3=>3
    | 39=>192
    | 0=>0
    | 53=>199
    | 55=>94
    | 4=>4
    | 46=>206
    | 45=>205
    | 50=>39
    | 5=>5
    | 9=>9
    | 66=>222
    | 70=>226
    | 76=>230
    | 77=>231
    | n=>n,
  g:=fun x=>
    x }
set_option maxRecDepth 1000000 in
theorem layg6:Go.Proofs.SlLaysF.n6 Go.Proofs.Tryz.prog layg6_ren:=
{ mixed:=by kernel_rfl,
  f6:=⟨Go.Proofs.Tryz.f222.name,of_decide_eq_true (by kernel_rfl),(Go.Proofs.Tryz.func222).trans (congrArg some (by kernel_rfl))⟩,
  f14:=⟨Go.Proofs.Tryz.f253.name,of_decide_eq_true (by kernel_rfl),(Go.Proofs.Tryz.func253).trans (congrArg some (by kernel_rfl))⟩,
  f15:=(Go.Proofs.Tryz.func252).trans (congrArg some (by kernel_rfl)),
  f20:=⟨Go.Proofs.Tryz.f270.name,of_decide_eq_true (by kernel_rfl),(Go.Proofs.Tryz.func270).trans (congrArg some (by kernel_rfl))⟩,
  f21:=⟨Go.Proofs.Tryz.f271.name,of_decide_eq_true (by kernel_rfl),(Go.Proofs.Tryz.func271).trans (congrArg some (by kernel_rfl))⟩,
  f22:=⟨Go.Proofs.Tryz.f272.name,of_decide_eq_true (by kernel_rfl),(Go.Proofs.Tryz.func272).trans (congrArg some (by kernel_rfl))⟩,
  f23:=⟨Go.Proofs.Tryz.f273.name,of_decide_eq_true (by kernel_rfl),(Go.Proofs.Tryz.func273).trans (congrArg some (by kernel_rfl))⟩,
  f24:=⟨Go.Proofs.Tryz.f274.name,of_decide_eq_true (by kernel_rfl),(Go.Proofs.Tryz.func274).trans (congrArg some (by kernel_rfl))⟩,
  f25:=⟨Go.Proofs.Tryz.f275.name,of_decide_eq_true (by kernel_rfl),(Go.Proofs.Tryz.func275).trans (congrArg some (by kernel_rfl))⟩,
  f26:=⟨Go.Proofs.Tryz.f276.name,of_decide_eq_true (by kernel_rfl),(Go.Proofs.Tryz.func276).trans (congrArg some (by kernel_rfl))⟩,
  f27:=⟨Go.Proofs.Tryz.f277.name,of_decide_eq_true (by kernel_rfl),(Go.Proofs.Tryz.func277).trans (congrArg some (by kernel_rfl))⟩,
  f28:=(Go.Proofs.Tryz.func268).trans (congrArg some (by kernel_rfl)),
  f29:=(Go.Proofs.Tryz.func269).trans (congrArg some (by kernel_rfl)),
  f46:=⟨Go.Proofs.Tryz.f285.name,of_decide_eq_true (by kernel_rfl),(Go.Proofs.Tryz.func285).trans (congrArg some (by kernel_rfl))⟩,
  f47:=(Go.Proofs.Tryz.func281).trans (congrArg some (by kernel_rfl)),
  f48:=(Go.Proofs.Tryz.func282).trans (congrArg some (by kernel_rfl)),
  f49:=⟨Go.Proofs.Tryz.f286.name,of_decide_eq_true (by kernel_rfl),(Go.Proofs.Tryz.func286).trans (congrArg some (by kernel_rfl))⟩,
  f50:=⟨Go.Proofs.Tryz.f287.name,of_decide_eq_true (by kernel_rfl),(Go.Proofs.Tryz.func287).trans (congrArg some (by kernel_rfl))⟩,
  f57:=⟨Go.Proofs.Tryz.f289.name,of_decide_eq_true (by kernel_rfl),(Go.Proofs.Tryz.func289).trans (congrArg some (by kernel_rfl))⟩,
  t0:=Go.Proofs.Tryz.underlying0,
  a0:=Go.Proofs.Tryz.isAgg0,
  z0:=Go.Proofs.Tryz.sizeOf0,
  v0:=Go.Proofs.Tryz.zeroValue0,
  t3:=Go.Proofs.Tryz.underlying3,
  a3:=Go.Proofs.Tryz.isAgg3,
  z3:=Go.Proofs.Tryz.sizeOf3,
  v3:=Go.Proofs.Tryz.zeroValue3,
  t4:=Go.Proofs.Tryz.underlying4,
  a4:=Go.Proofs.Tryz.isAgg4,
  z4:=Go.Proofs.Tryz.sizeOf4,
  v4:=Go.Proofs.Tryz.zeroValue4,
  t5:=Go.Proofs.Tryz.underlying5,
  a5:=Go.Proofs.Tryz.isAgg5,
  z5:=Go.Proofs.Tryz.sizeOf5,
  v5:=Go.Proofs.Tryz.zeroValue5,
  t9:=Go.Proofs.Tryz.underlying9,
  a9:=Go.Proofs.Tryz.isAgg9,
  z9:=Go.Proofs.Tryz.sizeOf9,
  v9:=Go.Proofs.Tryz.zeroValue9,
  t22:=Go.Proofs.Tryz.underlying27,
  a22:=Go.Proofs.Tryz.isAgg27,
  z22:=Go.Proofs.Tryz.sizeOf27,
  v22:=Go.Proofs.Tryz.zeroValue27,
  a24:=Go.Proofs.Tryz.isAgg36,
  z24:=Go.Proofs.Tryz.sizeOf36,
  t25:=Go.Proofs.Tryz.underlying167,
  a25:=Go.Proofs.Tryz.isAgg167,
  z25:=Go.Proofs.Tryz.sizeOf167,
  v25:=Go.Proofs.Tryz.zeroValue167,
  t39:=Go.Proofs.Tryz.underlying192,
  a39:=Go.Proofs.Tryz.isAgg192,
  z39:=Go.Proofs.Tryz.sizeOf192,
  v39:=Go.Proofs.Tryz.zeroValue192,
  t45:=Go.Proofs.Tryz.underlying205,
  a45:=Go.Proofs.Tryz.isAgg205,
  z45:=Go.Proofs.Tryz.sizeOf205,
  v45:=Go.Proofs.Tryz.zeroValue205,
  t46:=Go.Proofs.Tryz.underlying206,
  a46:=Go.Proofs.Tryz.isAgg206,
  z46:=Go.Proofs.Tryz.sizeOf206,
  v46:=Go.Proofs.Tryz.zeroValue206,
  t50:=Go.Proofs.Tryz.underlying39,
  a50:=Go.Proofs.Tryz.isAgg39,
  z50:=Go.Proofs.Tryz.sizeOf39,
  v50:=Go.Proofs.Tryz.zeroValue39,
  t53:=Go.Proofs.Tryz.underlying199,
  a53:=Go.Proofs.Tryz.isAgg199,
  z53:=Go.Proofs.Tryz.sizeOf199,
  v53:=Go.Proofs.Tryz.zeroValue199,
  t55:=Go.Proofs.Tryz.underlying94,
  a55:=Go.Proofs.Tryz.isAgg94,
  z55:=Go.Proofs.Tryz.sizeOf94,
  v55:=Go.Proofs.Tryz.zeroValue94,
  t66:=Go.Proofs.Tryz.underlying222,
  a66:=Go.Proofs.Tryz.isAgg222,
  z66:=Go.Proofs.Tryz.sizeOf222,
  v66:=Go.Proofs.Tryz.zeroValue222,
  t70:=Go.Proofs.Tryz.underlying226,
  a70:=Go.Proofs.Tryz.isAgg226,
  z70:=Go.Proofs.Tryz.sizeOf226,
  v70:=Go.Proofs.Tryz.zeroValue226,
  t76:=Go.Proofs.Tryz.underlying230,
  a76:=Go.Proofs.Tryz.isAgg230,
  z76:=Go.Proofs.Tryz.sizeOf230,
  v76:=Go.Proofs.Tryz.zeroValue230,
  t77:=Go.Proofs.Tryz.underlying231,
  a77:=Go.Proofs.Tryz.isAgg231,
  z77:=Go.Proofs.Tryz.sizeOf231,
  v77:=Go.Proofs.Tryz.zeroValue231 }
theorem tab:TabOk Tryz.prog (assoc tks) (assoc ars):=tab_of (by kernel_rfl)
theorem mixed:Tryz.prog.follows .mixedOrders=true:=by kernel_rfl
theorem C_q1q:Contract Tryz.prog 222 S_q1q:=
  con_sortF (enters_of Tryz.func222 (by kernel_rfl) rfl) (fun w v1 v2 xs ys h1 h2 l1 l2=>cmpH h1 h2 l1 l2) (fun n enc cf blk off cap w h1 hO hcmp hH hb hs=>Any.slices_SortFunc layg6 enc h1 cf hO 199 #[] blk off cap (idA n) w (enters_of Tryz.func199 (by kernel_rfl) rfl) hcmp hH hb hs) (AnyF.slices_SortFunc_none { layg6 with })
theorem C_q12q:Contract Tryz.prog 221 S_q12q:=
  con_sortI (enters_of Tryz.func221 (by kernel_rfl) rfl) (fun blk off cap zs w h1 h2 h3=>AnyM.slices_Sort_int layg5 blk off cap zs w h1 h2 h3) (fun p cap w=>AnyM.slices_Sort_int_none layg5 p cap w)
theorem C_laws_rBig_raw (N:Nat):Contract Tryz.prog 9 ⟨[(K_Su8,false)],[.bool],true,F_laws_rBig N⟩:=
  have E:Env Tryz.prog Γ_laws_rBig:=env_of tab trivial
  con_of (body:=bodyOf Tryz.f9) (Pc:=[]) E rfl mixed Tryz.func9 (by kernel_rfl) (by kernel_rfl) (by kernel_rfl) (by kernel_rfl) (fun A hA=>trivial) (fun _=>by kernel_rfl)
theorem C_laws_rBig:Contract Tryz.prog 9 S_laws_rBig:=Contract.less (fun N:Nat=>F_laws_rBig N) C_laws_rBig_raw (fun d r h=>⟨0,(F_laws_rBig_tot 0 d).trans h⟩)
theorem C_q39q_raw (N:Nat):Contract Tryz.prog 187 ⟨[(K_BPSu8iu64q,true)],[I],true,F_q39q N⟩:=
  have E:Env Tryz.prog Γ_q39q:=env_of tab trivial
  con_of (body:=bodyOf Tryz.f187) (Pc:=[]) E rfl mixed Tryz.func187 (by kernel_rfl) (by kernel_rfl) (by kernel_rfl) (by kernel_rfl) (fun A hA=>trivial) (fun _=>by kernel_rfl)
theorem C_q39q:Contract Tryz.prog 187 S_q39q:=C_q39q_raw 0
theorem C_q31q_raw (N:Nat):Contract Tryz.prog 91 ⟨[(K_BPSu8iu64q,true),(I,false)],[I],true,F_q31q N⟩:=
  have E:Env Tryz.prog Γ_q31q:=env_of tab ⟨C_q39q,trivial⟩
  con_of (body:=bodyOf Tryz.f91) (Pc:=[]) E rfl mixed Tryz.func91 (by kernel_rfl) (by kernel_rfl) (by kernel_rfl) (by kernel_rfl) (fun A hA=>trivial) (fun _=>by kernel_rfl)
theorem C_q31q:Contract Tryz.prog 91 S_q31q:=C_q31q_raw 0
theorem C_q43q_raw (N:Nat):Contract Tryz.prog 89 ⟨[(K_BPSu8iu64q,true),(I,false)],[.bool],true,F_q43q N⟩:=
  have E:Env Tryz.prog Γ_q43q:=env_of tab ⟨C_q31q,trivial⟩
  con_of (body:=bodyOf Tryz.f89) (Pc:=[]) E rfl mixed Tryz.func89 (by kernel_rfl) (by kernel_rfl) (by kernel_rfl) (by kernel_rfl) (fun A hA=>trivial) (fun _=>by kernel_rfl)
theorem C_q43q:Contract Tryz.prog 89 S_q43q:=C_q43q_raw 0
theorem C_q27q_raw (N:Nat):Contract Tryz.prog 133 ⟨[(K_BPSu8iu64q,true),(K_Si,false)],[I],true,F_q27q N⟩:=
  have E:Env Tryz.prog Γ_q27q:=env_of tab ⟨C_q31q,trivial⟩
  con_of (body:=bodyOf Tryz.f133) (Pc:=[]) E rfl mixed Tryz.func133 (by kernel_rfl) (by kernel_rfl) (by kernel_rfl) (by kernel_rfl) (fun A hA=>trivial) (fun _=>by kernel_rfl)
theorem C_q27q:Contract Tryz.prog 133 S_q27q:=C_q27q_raw 0
theorem C_q59q_raw (N:Nat):Contract Tryz.prog 238 ⟨[(I,false),(I,false)],[I],true,F_q59q N⟩:=
  have E:Env Tryz.prog Γ_q59q:=env_of tab trivial
  con_of (body:=bodyOf Tryz.f238) (Pc:=[]) E rfl mixed Tryz.func238 (by kernel_rfl) (by kernel_rfl) (by kernel_rfl) (by kernel_rfl) (fun A hA=>trivial) (fun _=>by kernel_rfl)
theorem C_q59q:Contract Tryz.prog 238 S_q59q:=Contract.less (fun N:Nat=>F_q59q N) C_q59q_raw (fun d r h=>⟨0,(F_q59q_tot 0 d).trans h⟩)
theorem C_q76q_raw (N:Nat):Contract Tryz.prog 185 ⟨[(I,false)],[K_PiSPiiqq],true,F_q76q N⟩:=
  have E:Env Tryz.prog Γ_q76q:=env_of tab trivial
  con_of (body:=bodyOf Tryz.f185) (Pc:=[(0,⟨q76q_l0_h,q76q_l0_o,q76q_l0 N N⟩)]) E rfl mixed Tryz.func185 (by kernel_rfl) (by kernel_rfl) (by kernel_rfl) (by kernel_rfl) (fun A hA=>⟨pc_of (body:=loopOf Tryz.f185 0) (inner:=[]) E mixed hA (by kernel_rfl) (by kernel_rfl) (by kernel_rfl) trivial (fun _=>rfl) (fun _ _=>by kernel_rfl) N,trivial⟩) (fun _=>by kernel_rfl)
theorem C_q76q:Contract Tryz.prog 185 S_q76q:=Contract.less (fun N:Nat=>F_q76q N) C_q76q_raw pickF_lim
theorem C_q51q_raw (N:Nat):Contract Tryz.prog 200 ⟨[(K_Piiq,false),(K_Piiq,false)],[.bool],true,F_q51q N⟩:=
  have E:Env Tryz.prog Γ_q51q:=env_of tab trivial
  con_of (body:=bodyOf Tryz.f200) (Pc:=[]) E rfl mixed Tryz.func200 (by kernel_rfl) (by kernel_rfl) (by kernel_rfl) (by kernel_rfl) (fun A hA=>trivial) (fun _=>by kernel_rfl)
theorem C_q51q:Contract Tryz.prog 200 S_q51q:=Contract.less (fun N:Nat=>F_q51q N) C_q51q_raw (fun d r h=>⟨0,(F_q51q_tot 0 d).trans h⟩)
theorem C_spec_l2Put_raw (N:Nat):Contract Tryz.prog 186 ⟨[(K_SPiiq,false),(K_Piiq,false)],[K_SPiiq],true,F_spec_l2Put N⟩:=
  have E:Env Tryz.prog Γ_spec_l2Put:=env_of tab ⟨C_q51q,trivial⟩
  con_of (body:=bodyOf Tryz.f186) (Pc:=[(0,⟨spec_l2Put_l0_h,spec_l2Put_l0_o,spec_l2Put_l0 N N⟩)]) E rfl mixed Tryz.func186 (by kernel_rfl) (by kernel_rfl) (by kernel_rfl) (by kernel_rfl) (fun A hA=>⟨pc_of (body:=loopOf Tryz.f186 0) (inner:=[]) E mixed hA (by kernel_rfl) (by kernel_rfl) (by kernel_rfl) trivial (fun _=>rfl) (fun _ _=>by kernel_rfl) N,trivial⟩) (fun _=>by kernel_rfl)
theorem C_spec_l2Put:Contract Tryz.prog 186 S_spec_l2Put:=Contract.less (fun N:Nat=>F_spec_l2Put N) C_spec_l2Put_raw l2Put_lim
theorem C_q67q_raw (N:Nat):Contract Tryz.prog 90 ⟨[(I,false)],[K_PiSPiiqq],true,F_q67q N⟩:=
  have E:Env Tryz.prog Γ_q67q:=env_of tab ⟨C_q76q,⟨C_spec_l2Put,trivial⟩⟩
  con_of (body:=bodyOf Tryz.f90) (Pc:=[]) E rfl mixed Tryz.func90 (by kernel_rfl) (by kernel_rfl) (by kernel_rfl) (by kernel_rfl) (fun A hA=>trivial) (fun _=>by kernel_rfl)
theorem C_q67q:Contract Tryz.prog 90 S_q67q:=C_q67q_raw 0
theorem C_q32q_raw (N:Nat):Contract Tryz.prog 239 ⟨[(I,false)],[K_PiSPiiqq],true,F_q32q N⟩:=
  have E:Env Tryz.prog Γ_q32q:=env_of tab trivial
  con_of (body:=bodyOf Tryz.f239) (Pc:=[(0,⟨q32q_l0_h,q32q_l0_o,q32q_l0 N N⟩)]) E rfl mixed Tryz.func239 (by kernel_rfl) (by kernel_rfl) (by kernel_rfl) (by kernel_rfl) (fun A hA=>⟨pc_of (body:=loopOf Tryz.f239 0) (inner:=[(2,⟨q32q_l2_h,q32q_l2_o,q32q_l2 N N⟩)]) E mixed hA (by kernel_rfl) (by kernel_rfl) (by kernel_rfl) ⟨pc_of (body:=loopOf Tryz.f239 2) (inner:=[]) E mixed hA (by kernel_rfl) (by kernel_rfl) (by kernel_rfl) trivial (fun _=>rfl) (fun _ _=>by kernel_rfl) N,trivial⟩ (fun _=>rfl) (fun _ _=>by kernel_rfl) N,trivial⟩) (fun _=>by kernel_rfl)
theorem C_q32q:Contract Tryz.prog 239 S_q32q:=Contract.less (fun N:Nat=>F_q32q N) C_q32q_raw pickF_lim
theorem C_q75q_raw (N:Nat):Contract Tryz.prog 201 ⟨[(I,false),(I,false)],[I],true,F_q75q N⟩:=
  have E:Env Tryz.prog Γ_q75q:=env_of tab trivial
  con_of (body:=bodyOf Tryz.f201) (Pc:=[]) E rfl mixed Tryz.func201 (by kernel_rfl) (by kernel_rfl) (by kernel_rfl) (by kernel_rfl) (fun A hA=>trivial) (fun _=>by kernel_rfl)
theorem C_q75q:Contract Tryz.prog 201 S_q75q:=Contract.less (fun N:Nat=>F_q75q N) C_q75q_raw (fun d r h=>⟨0,(F_q75q_tot 0 d).trans h⟩)
theorem C_q71q_raw (N:Nat):Contract Tryz.prog 240 ⟨[(K_PiSPiiqq,false),(I,false),(I,false)],[.bool],true,F_q71q N⟩:=
  have E:Env Tryz.prog Γ_q71q:=env_of tab trivial
  con_of (body:=bodyOf Tryz.f240) (Pc:=[(0,⟨q71q_l0_h,q71q_l0_o,q71q_l0 N N⟩)]) E rfl mixed Tryz.func240 (by kernel_rfl) (by kernel_rfl) (by kernel_rfl) (by kernel_rfl) (fun A hA=>⟨pc_of (body:=loopOf Tryz.f240 0) (inner:=[]) E mixed hA (by kernel_rfl) (by kernel_rfl) (by kernel_rfl) trivial (fun _=>rfl) (fun _ _=>by kernel_rfl) N,trivial⟩) (fun _=>by kernel_rfl)
theorem C_q71q:Contract Tryz.prog 240 S_q71q:=Contract.less (fun N:Nat=>F_q71q N) C_q71q_raw l2Near_lim
theorem C_q19q_raw (N:Nat):ContractG Tryz.prog 241 (⟨[(K_BPSu8iu64q,true),(K_PiSPiiqq,true)],[K_PiSPiiqq],true,F_q19q N⟩,{ gone:=[1],deep:=[] }):=
  have E:Env Tryz.prog Γ_q19q:=env_ofG tab ⟨C_q31q,⟨C_q27q,trivial⟩⟩ trivial (fun _ h=>by cases h) trivial (by kernel_rfl)
  con_ofG (body:=bodyOf Tryz.f241) (Pc:=[]) E mixed Tryz.func241 (by kernel_rfl) (by kernel_rfl) (by kernel_rfl) (by kernel_rfl) (fun A hA=>trivial) (fun _=>by kernel_rfl)
theorem C_q19q:ContractG Tryz.prog 241 (S_q19q,{ gone:=[1],deep:=[] }):=C_q19q_raw 0
theorem C_q15q_raw (N:Nat):Contract Tryz.prog 183 ⟨[(K_BPSu8iu64q,true),(I,false)],[K_PiSPiiqq],true,F_q15q N⟩:=
  have E:Env Tryz.prog Γ_q15q:=env_ofG tab ⟨C_q43q,⟨C_q67q,⟨C_q31q,⟨C_q27q,⟨C_q76q,⟨C_spec_l2Put,⟨C_q75q,⟨C_q59q,⟨C_q32q,⟨C_q71q,trivial⟩⟩⟩⟩⟩⟩⟩⟩⟩⟩ trivial (fun _ h=>by cases h) ⟨C_q19q,trivial⟩ (by kernel_rfl)
  con_of (body:=bodyOf Tryz.f183) (Pc:=[(1,⟨q15q_l1_h,q15q_l1_o,q15q_l1 N N⟩)]) E rfl mixed Tryz.func183 (by kernel_rfl) (by kernel_rfl) (by kernel_rfl) (by kernel_rfl) (fun A hA=>⟨pc_of (body:=loopOf Tryz.f183 1) (inner:=[(3,⟨q15q_l3_h,q15q_l3_o,q15q_l3 N N⟩)]) E mixed hA (by kernel_rfl) (by kernel_rfl) (by kernel_rfl) ⟨pc_of (body:=loopOf Tryz.f183 3) (inner:=[]) E mixed hA (by kernel_rfl) (by kernel_rfl) (by kernel_rfl) trivial (fun _=>rfl) (fun _ _=>by kernel_rfl) N,trivial⟩ (fun _=>rfl) (fun _ _=>by kernel_rfl) N,trivial⟩) (fun _=>by kernel_rfl)
theorem C_q15q:Contract Tryz.prog 183 S_q15q:=Contract.less (fun N:Nat=>F_q15q N) C_q15q_raw pickF_lim
theorem C_spec_l1In_raw (N:Nat):Contract Tryz.prog 148 ⟨[(I,false),(I,false),(I,false)],[.bool],true,F_spec_l1In N⟩:=
  have E:Env Tryz.prog Γ_spec_l1In:=env_of tab trivial
  con_of (body:=bodyOf Tryz.f148) (Pc:=[]) E rfl mixed Tryz.func148 (by kernel_rfl) (by kernel_rfl) (by kernel_rfl) (by kernel_rfl) (fun A hA=>trivial) (fun _=>by kernel_rfl)
theorem C_spec_l1In:Contract Tryz.prog 148 S_spec_l1In:=Contract.less (fun N:Nat=>F_spec_l1In N) C_spec_l1In_raw (fun d r h=>⟨0,(F_spec_l1In_tot 0 d).trans h⟩)
theorem C_q83q_raw (N:Nat):Contract Tryz.prog 115 ⟨[(K_PiSPiiqq,false)],[.bool],true,F_q83q N⟩:=
  have E:Env Tryz.prog Γ_q83q:=env_of tab ⟨C_spec_l1In,⟨C_q51q,trivial⟩⟩
  con_of (body:=bodyOf Tryz.f115) (Pc:=[(0,⟨q83q_l0_h,q83q_l0_o,q83q_l0 N N⟩)]) E rfl mixed Tryz.func115 (by kernel_rfl) (by kernel_rfl) (by kernel_rfl) (by kernel_rfl) (fun A hA=>⟨pc_of (body:=loopOf Tryz.f115 0) (inner:=[]) E mixed hA (by kernel_rfl) (by kernel_rfl) (by kernel_rfl) trivial (fun _=>rfl) (fun _ _=>by kernel_rfl) N,trivial⟩) (fun _=>by kernel_rfl)
theorem C_q83q:Contract Tryz.prog 115 S_q83q:=Contract.less (fun N:Nat=>F_q83q N) C_q83q_raw l2Good_lim
theorem C_q61q_raw (N:Nat):Contract Tryz.prog 98 ⟨[(K_PiSPiiqq,false),(I,false)],[.bool],true,F_q61q N⟩:=
  have E:Env Tryz.prog Γ_q61q:=env_of tab ⟨C_q83q,⟨C_spec_l1In,trivial⟩⟩
  con_of (body:=bodyOf Tryz.f98) (Pc:=[]) E rfl mixed Tryz.func98 (by kernel_rfl) (by kernel_rfl) (by kernel_rfl) (by kernel_rfl) (fun A hA=>trivial) (fun _=>by kernel_rfl)
theorem C_q61q:Contract Tryz.prog 98 S_q61q:=C_q61q_raw 0
theorem C_spec_l1Own_raw (N:Nat):Contract Tryz.prog 151 ⟨[(K_Si,false)],[K_Si],true,F_spec_l1Own N⟩:=
  have E:Env Tryz.prog Γ_spec_l1Own:=env_of tab trivial
  con_of (body:=bodyOf Tryz.f151) (Pc:=[]) E rfl mixed Tryz.func151 (by kernel_rfl) (by kernel_rfl) (by kernel_rfl) (by kernel_rfl) (fun A hA=>trivial) (fun _=>by kernel_rfl)
theorem C_spec_l1Own:Contract Tryz.prog 151 S_spec_l1Own:=C_spec_l1Own_raw 0
theorem C_q44q_raw (N:Nat):Contract Tryz.prog 159 ⟨[(I,false),(I,false)],[K_SSi],true,F_q44q N⟩:=
  have E:Env Tryz.prog Γ_q44q:=env_of tab ⟨C_spec_l1Own,trivial⟩
  con_of (body:=bodyOf Tryz.f159) (Pc:=[(0,⟨q44q_l0_h,q44q_l0_o,q44q_l0 N N⟩)]) E rfl mixed Tryz.func159 (by kernel_rfl) (by kernel_rfl) (by kernel_rfl) (by kernel_rfl) (fun A hA=>⟨pc_of (body:=loopOf Tryz.f159 0) (inner:=[(2,⟨q44q_l2_h,q44q_l2_o,q44q_l2 N N⟩)]) E mixed hA (by kernel_rfl) (by kernel_rfl) (by kernel_rfl) ⟨pc_of (body:=loopOf Tryz.f159 2) (inner:=[(4,⟨q44q_l4_h,q44q_l4_o,q44q_l4 N N⟩)]) E mixed hA (by kernel_rfl) (by kernel_rfl) (by kernel_rfl) ⟨pc_of (body:=loopOf Tryz.f159 4) (inner:=[]) E mixed hA (by kernel_rfl) (by kernel_rfl) (by kernel_rfl) trivial (fun _=>rfl) (fun _ _=>by kernel_rfl) N,trivial⟩ (fun _=>rfl) (fun _ _=>by kernel_rfl) N,trivial⟩ (fun _=>rfl) (fun _ _=>by kernel_rfl) N,trivial⟩) (fun _=>by kernel_rfl)
theorem C_q44q:Contract Tryz.prog 159 S_q44q:=Contract.less (fun N:Nat=>F_q44q N) C_q44q_raw l4Configs_lim
theorem C_q24q_raw (N:Nat):Contract Tryz.prog 208 ⟨[(K_PiSPiiqq,false),(I,false)],[K_Si],true,F_q24q N⟩:=
  have E:Env Tryz.prog Γ_q24q:=env_of tab ⟨C_q71q,trivial⟩
  con_of (body:=bodyOf Tryz.f208) (Pc:=[(0,⟨q24q_l0_h,q24q_l0_o,q24q_l0 N N⟩)]) E rfl mixed Tryz.func208 (by kernel_rfl) (by kernel_rfl) (by kernel_rfl) (by kernel_rfl) (fun A hA=>⟨pc_of (body:=loopOf Tryz.f208 0) (inner:=[]) E mixed hA (by kernel_rfl) (by kernel_rfl) (by kernel_rfl) trivial (fun _=>rfl) (fun _ _=>by kernel_rfl) N,trivial⟩) (fun _=>by kernel_rfl)
theorem C_q24q:Contract Tryz.prog 208 S_q24q:=Contract.less (fun N:Nat=>F_q24q N) C_q24q_raw l2Neighbors_lim
theorem C_spec_l1Put_raw (N:Nat):Contract Tryz.prog 92 ⟨[(K_Si,false),(I,false)],[K_Si],false,F_spec_l1Put N⟩:=
  have E:Env Tryz.prog Γ_spec_l1Put:=env_of tab trivial
  con_of (body:=bodyOf Tryz.f92) (Pc:=[(0,⟨spec_l1Put_l0_h,spec_l1Put_l0_o,spec_l1Put_l0 N N⟩)]) E rfl mixed Tryz.func92 (by kernel_rfl) (by kernel_rfl) (by kernel_rfl) (by kernel_rfl) (fun A hA=>⟨pc_of (body:=loopOf Tryz.f92 0) (inner:=[]) E mixed hA (by kernel_rfl) (by kernel_rfl) (by kernel_rfl) trivial (fun _=>rfl) (fun _ _=>by kernel_rfl) N,trivial⟩) (fun _=>by kernel_rfl)
theorem C_spec_l1Put:Contract Tryz.prog 92 S_spec_l1Put:=Contract.less (fun N:Nat=>F_spec_l1Put N) C_spec_l1Put_raw l1Put_lim
theorem C_q81q_raw (N:Nat):Contract Tryz.prog 124 ⟨[(K_PiSPiiqq,false),(I,false)],[K_Si],false,F_q81q N⟩:=
  have E:Env Tryz.prog Γ_q81q:=env_of tab ⟨C_spec_l1Put,⟨C_q24q,trivial⟩⟩
  con_of (body:=bodyOf Tryz.f124) (Pc:=[]) E rfl mixed Tryz.func124 (by kernel_rfl) (by kernel_rfl) (by kernel_rfl) (by kernel_rfl) (fun A hA=>trivial) (fun _=>by kernel_rfl)
theorem C_q81q:Contract Tryz.prog 124 S_q81q:=C_q81q_raw 0
theorem C_q47q_raw (N:Nat):Contract Tryz.prog 225 ⟨[(K_Si,false)],[K_Si],false,F_q47q N⟩:=
  have E:Env Tryz.prog Γ_q47q:=env_ofV tab trivial trivial (fun _ h=>by cases h)
  con_of (body:=bodyOf Tryz.f225) (Pc:=[(0,⟨q47q_l0_h,q47q_l0_o,q47q_l0 N N⟩)]) E rfl mixed Tryz.func225 (by kernel_rfl) (by kernel_rfl) (by kernel_rfl) (by kernel_rfl) (fun A hA=>⟨pc_of (body:=loopOf Tryz.f225 0) (inner:=[(2,⟨q47q_l2_h,q47q_l2_o,q47q_l2 N N⟩)]) E mixed hA (by kernel_rfl) (by kernel_rfl) (by kernel_rfl) ⟨pc_of (body:=loopOf Tryz.f225 2) (inner:=[]) E mixed hA (by kernel_rfl) (by kernel_rfl) (by kernel_rfl) trivial (fun _=>rfl) (fun _ _=>by kernel_rfl) N,trivial⟩ (fun _=>rfl) (fun _ _=>by kernel_rfl) N,trivial⟩) (fun _=>by kernel_rfl)
theorem C_q47q:Contract Tryz.prog 225 S_q47q:=Contract.less (fun N:Nat=>F_q47q N) C_q47q_raw l4Sorted_lim
theorem C_q84q_raw (N:Nat):Contract Tryz.prog 254 ⟨[(K_Si,false),(K_Si,false)],[.bool],true,F_q84q N⟩:=
  have E:Env Tryz.prog Γ_q84q:=env_of tab trivial
  con_of (body:=bodyOf Tryz.f254) (Pc:=[(0,⟨q84q_l0_h,q84q_l0_o,q84q_l0 N N⟩)]) E rfl mixed Tryz.func254 (by kernel_rfl) (by kernel_rfl) (by kernel_rfl) (by kernel_rfl) (fun A hA=>⟨pc_of (body:=loopOf Tryz.f254 0) (inner:=[]) E mixed hA (by kernel_rfl) (by kernel_rfl) (by kernel_rfl) trivial (fun _=>rfl) (fun _ _=>by kernel_rfl) N,trivial⟩) (fun _=>by kernel_rfl)
theorem C_q84q:Contract Tryz.prog 254 S_q84q:=Contract.less (fun N:Nat=>F_q84q N) C_q84q_raw l4Less_lim
theorem C_q85q_raw (N:Nat):Contract Tryz.prog 220 ⟨[(K_Si,false),(K_Si,false)],[.bool],true,F_q85q N⟩:=
  have E:Env Tryz.prog Γ_q85q:=env_of tab trivial
  con_of (body:=bodyOf Tryz.f220) (Pc:=[(0,⟨q85q_l0_h,q85q_l0_o,q85q_l0 N N⟩)]) E rfl mixed Tryz.func220 (by kernel_rfl) (by kernel_rfl) (by kernel_rfl) (by kernel_rfl) (fun A hA=>⟨pc_of (body:=loopOf Tryz.f220 0) (inner:=[]) E mixed hA (by kernel_rfl) (by kernel_rfl) (by kernel_rfl) trivial (fun _=>rfl) (fun _ _=>by kernel_rfl) N,trivial⟩) (fun _=>by kernel_rfl)
theorem C_q85q:Contract Tryz.prog 220 S_q85q:=Contract.less (fun N:Nat=>F_q85q N) C_q85q_raw l1Same_lim
theorem C_spec_l4Put_raw (N:Nat):Contract Tryz.prog 224 ⟨[(K_SSi,false),(K_Si,false)],[K_SSi],false,F_spec_l4Put N⟩:=
  have E:Env Tryz.prog Γ_spec_l4Put:=env_of tab ⟨C_q85q,⟨C_q84q,trivial⟩⟩
  con_of (body:=bodyOf Tryz.f224) (Pc:=[(0,⟨spec_l4Put_l0_h,spec_l4Put_l0_o,spec_l4Put_l0 N N⟩)]) E rfl mixed Tryz.func224 (by kernel_rfl) (by kernel_rfl) (by kernel_rfl) (by kernel_rfl) (fun A hA=>⟨pc_of (body:=loopOf Tryz.f224 0) (inner:=[]) E mixed hA (by kernel_rfl) (by kernel_rfl) (by kernel_rfl) trivial (fun _=>rfl) (fun _ _=>by kernel_rfl) N,trivial⟩) (fun _=>by kernel_rfl)
theorem C_spec_l4Put:Contract Tryz.prog 224 S_spec_l4Put:=Contract.less (fun N:Nat=>F_spec_l4Put N) C_spec_l4Put_raw l4Put_lim
theorem C_q60q_raw (N:Nat):Contract Tryz.prog 155 ⟨[(K_PiSPiiqq,false),(K_Si,false)],[K_SSi],false,F_q60q N⟩:=
  have E:Env Tryz.prog Γ_q60q:=env_ofV tab ⟨C_q81q,⟨C_spec_l1Own,⟨C_spec_l4Put,⟨C_q47q,trivial⟩⟩⟩⟩ trivial (fun _ h=>by cases h)
  con_of (body:=bodyOf Tryz.f155) (Pc:=[(0,⟨q60q_l0_h,q60q_l0_o,q60q_l0 N N⟩),(6,⟨q60q_l6_h,q60q_l6_o,q60q_l6 N N⟩)]) E rfl mixed Tryz.func155 (by kernel_rfl) (by kernel_rfl) (by kernel_rfl) (by kernel_rfl) (fun A hA=>⟨pc_of (body:=loopOf Tryz.f155 0) (inner:=[(2,⟨q60q_l2_h,q60q_l2_o,q60q_l2 N N⟩)]) E mixed hA (by kernel_rfl) (by kernel_rfl) (by kernel_rfl) ⟨pc_of (body:=loopOf Tryz.f155 2) (inner:=[(4,⟨q60q_l4_h,q60q_l4_o,q60q_l4 N N⟩)]) E mixed hA (by kernel_rfl) (by kernel_rfl) (by kernel_rfl) ⟨pc_of (body:=loopOf Tryz.f155 4) (inner:=[]) E mixed hA (by kernel_rfl) (by kernel_rfl) (by kernel_rfl) trivial (fun _=>rfl) (fun _ _=>by kernel_rfl) N,trivial⟩ (fun _=>rfl) (fun _ _=>by kernel_rfl) N,trivial⟩ (fun _=>rfl) (fun _ _=>by kernel_rfl) N,⟨pc_of (body:=loopOf Tryz.f155 6) (inner:=[]) E mixed hA (by kernel_rfl) (by kernel_rfl) (by kernel_rfl) trivial (fun _=>rfl) (fun _ _=>by kernel_rfl) N,trivial⟩⟩) (fun _=>by kernel_rfl)
theorem C_q60q:Contract Tryz.prog 155 S_q60q:=Contract.less (fun N:Nat=>F_q60q N) C_q60q_raw l4Moves_lim
theorem C_spec_l4At_raw (N:Nat):Contract Tryz.prog 149 ⟨[(K_SSi,false),(K_Si,false)],[I],true,F_spec_l4At N⟩:=
  have E:Env Tryz.prog Γ_spec_l4At:=env_of tab ⟨C_q85q,trivial⟩
  con_of (body:=bodyOf Tryz.f149) (Pc:=[(0,⟨spec_l4At_l0_h,spec_l4At_l0_o,spec_l4At_l0 N N⟩)]) E rfl mixed Tryz.func149 (by kernel_rfl) (by kernel_rfl) (by kernel_rfl) (by kernel_rfl) (fun A hA=>⟨pc_of (body:=loopOf Tryz.f149 0) (inner:=[]) E mixed hA (by kernel_rfl) (by kernel_rfl) (by kernel_rfl) trivial (fun _=>rfl) (fun _ _=>by kernel_rfl) N,trivial⟩) (fun _=>by kernel_rfl)
theorem C_spec_l4At:Contract Tryz.prog 149 S_spec_l4At:=Contract.less (fun N:Nat=>F_spec_l4At N) C_spec_l4At_raw l4At_lim
theorem C_q72q_raw (N:Nat):Contract Tryz.prog 99 ⟨[(K_PiSPiiqq,false),(I,false)],[K_PZSiSSiSSiq],false,F_q72q N⟩:=
  have E:Env Tryz.prog Γ_q72q:=env_ofG tab ⟨C_q81q,⟨C_spec_l4At,⟨C_q60q,⟨C_q44q,trivial⟩⟩⟩⟩ trivial (fun _ h=>by cases h) trivial (by kernel_rfl)
  con_of (body:=bodyOf Tryz.f99) (Pc:=[(0,⟨q72q_l0_h,q72q_l0_o,q72q_l0 N N⟩),(4,⟨q72q_l4_h,q72q_l4_o,q72q_l4 N N⟩)]) E rfl mixed Tryz.func99 (by kernel_rfl) (by kernel_rfl) (by kernel_rfl) (by kernel_rfl) (fun A hA=>⟨pc_of (body:=loopOf Tryz.f99 0) (inner:=[(2,⟨q72q_l2_h,q72q_l2_o,q72q_l2 N N⟩)]) E mixed hA (by kernel_rfl) (by kernel_rfl) (by kernel_rfl) ⟨pc_of (body:=loopOf Tryz.f99 2) (inner:=[]) E mixed hA (by kernel_rfl) (by kernel_rfl) (by kernel_rfl) trivial (fun _=>rfl) (fun _ _=>by kernel_rfl) N,trivial⟩ (fun _=>rfl) (fun _ _=>by kernel_rfl) N,⟨pc_of (body:=loopOf Tryz.f99 4) (inner:=[]) E mixed hA (by kernel_rfl) (by kernel_rfl) (by kernel_rfl) trivial (fun _=>rfl) (fun _ _=>by kernel_rfl) N,trivial⟩⟩) (fun _=>by kernel_rfl)
theorem C_q72q:Contract Tryz.prog 99 S_q72q:=Contract.less (fun N:Nat=>F_q72q N) C_q72q_raw l4Make_lim
theorem C_q74q_raw (N:Nat):Contract Tryz.prog 226 ⟨[(I,false),(I,false)],[K_Si],true,F_q74q N⟩:=
  have E:Env Tryz.prog Γ_q74q:=env_of tab trivial
  con_of (body:=bodyOf Tryz.f226) (Pc:=[(0,⟨q74q_l0_h,q74q_l0_o,q74q_l0 N N⟩)]) E rfl mixed Tryz.func226 (by kernel_rfl) (by kernel_rfl) (by kernel_rfl) (by kernel_rfl) (fun A hA=>⟨pc_of (body:=loopOf Tryz.f226 0) (inner:=[]) E mixed hA (by kernel_rfl) (by kernel_rfl) (by kernel_rfl) trivial (fun _=>rfl) (fun _ _=>by kernel_rfl) N,trivial⟩) (fun _=>by kernel_rfl)
theorem C_q74q:Contract Tryz.prog 226 S_q74q:=Contract.less (fun N:Nat=>F_q74q N) C_q74q_raw l2Bits_lim
theorem C_spec_l2All_raw (N:Nat):Contract Tryz.prog 207 ⟨[(K_PiSPiiqq,false)],[K_Si],true,F_spec_l2All N⟩:=
  have E:Env Tryz.prog Γ_spec_l2All:=env_of tab ⟨C_q74q,trivial⟩
  con_of (body:=bodyOf Tryz.f207) (Pc:=[]) E rfl mixed Tryz.func207 (by kernel_rfl) (by kernel_rfl) (by kernel_rfl) (by kernel_rfl) (fun A hA=>trivial) (fun _=>by kernel_rfl)
theorem C_spec_l2All:Contract Tryz.prog 207 S_spec_l2All:=C_spec_l2All_raw 0
theorem C_spec_l1Has_raw (N:Nat):Contract Tryz.prog 101 ⟨[(K_Si,false),(I,false)],[.bool],true,F_spec_l1Has N⟩:=
  have E:Env Tryz.prog Γ_spec_l1Has:=env_of tab trivial
  con_of (body:=bodyOf Tryz.f101) (Pc:=[(0,⟨spec_l1Has_l0_h,spec_l1Has_l0_o,spec_l1Has_l0 N N⟩)]) E rfl mixed Tryz.func101 (by kernel_rfl) (by kernel_rfl) (by kernel_rfl) (by kernel_rfl) (fun A hA=>⟨pc_of (body:=loopOf Tryz.f101 0) (inner:=[]) E mixed hA (by kernel_rfl) (by kernel_rfl) (by kernel_rfl) trivial (fun _=>rfl) (fun _ _=>by kernel_rfl) N,trivial⟩) (fun _=>by kernel_rfl)
theorem C_spec_l1Has:Contract Tryz.prog 101 S_spec_l1Has:=Contract.less (fun N:Nat=>F_spec_l1Has N) C_spec_l1Has_raw l1Has_lim
theorem C_q68q_raw (N:Nat):Contract Tryz.prog 206 ⟨[(K_Si,false),(K_Si,false)],[K_Si],true,F_q68q N⟩:=
  have E:Env Tryz.prog Γ_q68q:=env_of tab ⟨C_spec_l1Has,trivial⟩
  con_of (body:=bodyOf Tryz.f206) (Pc:=[(0,⟨q68q_l0_h,q68q_l0_o,q68q_l0 N N⟩)]) E rfl mixed Tryz.func206 (by kernel_rfl) (by kernel_rfl) (by kernel_rfl) (by kernel_rfl) (fun A hA=>⟨pc_of (body:=loopOf Tryz.f206 0) (inner:=[]) E mixed hA (by kernel_rfl) (by kernel_rfl) (by kernel_rfl) trivial (fun _=>rfl) (fun _ _=>by kernel_rfl) N,trivial⟩) (fun _=>by kernel_rfl)
theorem C_q68q:Contract Tryz.prog 206 S_q68q:=Contract.less (fun N:Nat=>F_q68q N) C_q68q_raw l11Rest_lim
theorem C_q45q_raw (N:Nat):Contract Tryz.prog 278 ⟨[(K_Si,false)],[I],true,F_q45q N⟩:=
  have E:Env Tryz.prog Γ_q45q:=env_of tab trivial
  con_of (body:=bodyOf Tryz.f278) (Pc:=[(0,⟨q45q_l0_h,q45q_l0_o,q45q_l0 N N⟩)]) E rfl mixed Tryz.func278 (by kernel_rfl) (by kernel_rfl) (by kernel_rfl) (by kernel_rfl) (fun A hA=>⟨pc_of (body:=loopOf Tryz.f278 0) (inner:=[]) E mixed hA (by kernel_rfl) (by kernel_rfl) (by kernel_rfl) trivial (fun _=>rfl) (fun _ _=>by kernel_rfl) N,trivial⟩) (fun _=>by kernel_rfl)
theorem C_q45q:Contract Tryz.prog 278 S_q45q:=Contract.less (fun N:Nat=>F_q45q N) C_q45q_raw pickF_lim
theorem C_q52q_raw (N:Nat):Contract Tryz.prog 279 ⟨[(K_PZSiSSiSSiq,false),(K_SPiSiiq,false),(I,false)],[K_SSi],true,F_q52q N⟩:=
  have E:Env Tryz.prog Γ_q52q:=env_of tab ⟨C_spec_l1Own,trivial⟩
  con_of (body:=bodyOf Tryz.f279) (Pc:=[(0,⟨q52q_l0_h,q52q_l0_o,q52q_l0 N N⟩)]) E rfl mixed Tryz.func279 (by kernel_rfl) (by kernel_rfl) (by kernel_rfl) (by kernel_rfl) (fun A hA=>⟨pc_of (body:=loopOf Tryz.f279 0) (inner:=[]) E mixed hA (by kernel_rfl) (by kernel_rfl) (by kernel_rfl) trivial (fun _=>rfl) (fun _ _=>by kernel_rfl) N,trivial⟩) (fun _=>by kernel_rfl)
theorem C_q52q:Contract Tryz.prog 279 S_q52q:=Contract.less (fun N:Nat=>F_q52q N) C_q52q_raw pickF_lim
theorem C_q56q_raw (N:Nat):Contract Tryz.prog 210 ⟨[(K_SSi,false),(K_Si,false),(K_Si,false)],[K_Si],false,F_q56q N⟩:=
  have E:Env Tryz.prog Γ_q56q:=env_ofV tab ⟨C_spec_l1Put,⟨C_q68q,trivial⟩⟩ trivial (fun _ h=>by cases h)
  con_of (body:=bodyOf Tryz.f210) (Pc:=[(0,⟨q56q_l0_h,q56q_l0_o,q56q_l0 N N⟩)]) E rfl mixed Tryz.func210 (by kernel_rfl) (by kernel_rfl) (by kernel_rfl) (by kernel_rfl) (fun A hA=>⟨pc_of (body:=loopOf Tryz.f210 0) (inner:=[(2,⟨q56q_l2_h,q56q_l2_o,q56q_l2 N N⟩)]) E mixed hA (by kernel_rfl) (by kernel_rfl) (by kernel_rfl) ⟨pc_of (body:=loopOf Tryz.f210 2) (inner:=[]) E mixed hA (by kernel_rfl) (by kernel_rfl) (by kernel_rfl) trivial (fun _=>rfl) (fun _ _=>by kernel_rfl) N,trivial⟩ (fun _=>rfl) (fun _ _=>by kernel_rfl) N,trivial⟩) (fun _=>by kernel_rfl)
theorem C_q56q:Contract Tryz.prog 210 S_q56q:=Contract.less (fun N:Nat=>F_q56q N) C_q56q_raw l11Next_lim
theorem C_q23q_raw (N:Nat):Contract Tryz.prog 259 ⟨[(K_PiSPiiqq,false),(I,false)],[K_SSi,.bool],true,F_q23q N⟩:=
  have E:Env Tryz.prog Γ_q23q:=env_ofV tab ⟨C_q72q,⟨C_q68q,⟨C_spec_l2All,⟨C_q56q,⟨C_q45q,⟨C_q52q,trivial⟩⟩⟩⟩⟩⟩ trivial (fun _ h=>by cases h)
  con_of (body:=bodyOf Tryz.f259) (Pc:=[(0,⟨q23q_l0_h,q23q_l0_o,q23q_l0 N N⟩),(2,⟨q23q_l2_h,q23q_l2_o,q23q_l2 N N⟩)]) E rfl mixed Tryz.func259 (by kernel_rfl) (by kernel_rfl) (by kernel_rfl) (by kernel_rfl) (fun A hA=>⟨pc_of (body:=loopOf Tryz.f259 0) (inner:=[]) E mixed hA (by kernel_rfl) (by kernel_rfl) (by kernel_rfl) trivial (fun _=>rfl) (fun _ _=>by kernel_rfl) N,⟨pc_of (body:=loopOf Tryz.f259 2) (inner:=[(4,⟨q23q_l4_h,q23q_l4_o,q23q_l4 N N⟩)]) E mixed hA (by kernel_rfl) (by kernel_rfl) (by kernel_rfl) ⟨pc_of (body:=loopOf Tryz.f259 4) (inner:=[]) E mixed hA (by kernel_rfl) (by kernel_rfl) (by kernel_rfl) trivial (fun _=>rfl) (fun _ _=>by kernel_rfl) N,trivial⟩ (fun _=>rfl) (fun _ _=>by kernel_rfl) N,trivial⟩⟩) (fun _=>by kernel_rfl)
theorem C_q23q:Contract Tryz.prog 259 S_q23q:=Contract.less (fun N:Nat=>F_q23q N) C_q23q_raw pickF_lim
theorem C_q7q_raw (N:Nat):Contract Tryz.prog 247 ⟨[(K_PiSPiiqq,false),(I,false)],[K_SSi,.bool],true,F_q7q N⟩:=
  have E:Env Tryz.prog Γ_q7q:=env_of tab ⟨C_q61q,⟨C_q23q,trivial⟩⟩
  con_of (body:=bodyOf Tryz.f247) (Pc:=[]) E rfl mixed Tryz.func247 (by kernel_rfl) (by kernel_rfl) (by kernel_rfl) (by kernel_rfl) (fun A hA=>trivial) (fun _=>by kernel_rfl)
theorem C_q7q:Contract Tryz.prog 247 S_q7q:=C_q7q_raw 0
theorem C_q16q_raw (N:Nat):Contract Tryz.prog 182 ⟨[(K_BPSu8iu64q,true)],[K_PiSPiiqq],true,F_q16q N⟩:=
  have E:Env Tryz.prog Γ_q16q:=env_of tab ⟨C_q15q,trivial⟩
  con_of (body:=bodyOf Tryz.f182) (Pc:=[]) E rfl mixed Tryz.func182 (by kernel_rfl) (by kernel_rfl) (by kernel_rfl) (by kernel_rfl) (fun A hA=>trivial) (fun _=>by kernel_rfl)
theorem C_q16q:Contract Tryz.prog 182 S_q16q:=C_q16q_raw 0
theorem C_q33q_raw (N:Nat):Contract Tryz.prog 93 ⟨[(K_BPSu8iu64q,true),(K_PiSPiiqq,false)],[I],true,F_q33q N⟩:=
  have E:Env Tryz.prog Γ_q33q:=env_of tab ⟨C_q43q,⟨C_q31q,⟨C_q27q,trivial⟩⟩⟩
  con_of (body:=bodyOf Tryz.f93) (Pc:=[]) E rfl mixed Tryz.func93 (by kernel_rfl) (by kernel_rfl) (by kernel_rfl) (by kernel_rfl) (fun A hA=>trivial) (fun _=>by kernel_rfl)
theorem C_q33q:Contract Tryz.prog 93 S_q33q:=C_q33q_raw 0
theorem C_q37q_raw (N:Nat):Contract Tryz.prog 184 ⟨[(K_BPSu8iu64q,true)],[I],true,F_q37q N⟩:=
  have E:Env Tryz.prog Γ_q37q:=env_of tab ⟨C_q43q,⟨C_q27q,trivial⟩⟩
  con_of (body:=bodyOf Tryz.f184) (Pc:=[]) E rfl mixed Tryz.func184 (by kernel_rfl) (by kernel_rfl) (by kernel_rfl) (by kernel_rfl) (fun A hA=>trivial) (fun _=>by kernel_rfl)
theorem C_q37q:Contract Tryz.prog 184 S_q37q:=C_q37q_raw 0
theorem C_q29q_raw (N:Nat):Contract Tryz.prog 213 ⟨[(K_BPSu8iu64q,true),(K_PiSPiiqq,false)],[K_Si],false,F_q29q N⟩:=
  have E:Env Tryz.prog Γ_q29q:=env_of tab ⟨C_q43q,⟨C_q33q,⟨C_q37q,⟨C_q47q,trivial⟩⟩⟩⟩
  con_of (body:=bodyOf Tryz.f213) (Pc:=[(0,⟨q29q_l0_h,q29q_l0_o,q29q_l0 N N⟩)]) E rfl mixed Tryz.func213 (by kernel_rfl) (by kernel_rfl) (by kernel_rfl) (by kernel_rfl) (fun A hA=>⟨pc_of (body:=loopOf Tryz.f213 0) (inner:=[]) E mixed hA (by kernel_rfl) (by kernel_rfl) (by kernel_rfl) trivial (fun _=>rfl) (fun _ _=>by kernel_rfl) N,trivial⟩) (fun _=>by kernel_rfl)
theorem C_q29q:Contract Tryz.prog 213 S_q29q:=Contract.less (fun N:Nat=>F_q29q N) C_q29q_raw pickF_lim
theorem C_q35q_raw (N:Nat):Contract Tryz.prog 212 ⟨[(K_BPSu8iu64q,true)],[K_PiSPiiqq,K_Si],false,F_q35q N⟩:=
  have E:Env Tryz.prog Γ_q35q:=env_ofG tab ⟨C_q43q,⟨C_q33q,⟨C_q16q,⟨C_q15q,⟨C_q29q,⟨C_q47q,trivial⟩⟩⟩⟩⟩⟩ trivial (fun _ h=>by cases h) trivial (by kernel_rfl)
  con_of (body:=bodyOf Tryz.f212) (Pc:=[]) E rfl mixed Tryz.func212 (by kernel_rfl) (by kernel_rfl) (by kernel_rfl) (by kernel_rfl) (fun A hA=>trivial) (fun _=>by kernel_rfl)
theorem C_q35q:Contract Tryz.prog 212 S_q35q:=C_q35q_raw 0
theorem C_q73q_raw (N:Nat):Contract Tryz.prog 132 ⟨[(K_PiSPiiqq,false),(I,false)],[.bool],true,F_q73q N⟩:=
  have E:Env Tryz.prog Γ_q73q:=env_of tab ⟨C_spec_l1In,trivial⟩
  con_of (body:=bodyOf Tryz.f132) (Pc:=[]) E rfl mixed Tryz.func132 (by kernel_rfl) (by kernel_rfl) (by kernel_rfl) (by kernel_rfl) (fun A hA=>trivial) (fun _=>by kernel_rfl)
theorem C_q73q:Contract Tryz.prog 132 S_q73q:=Contract.less (fun N:Nat=>F_q73q N) C_q73q_raw (fun d r h=>⟨0,(F_q73q_tot 0 d).trans h⟩)
theorem C_q77q_raw (N:Nat):Contract Tryz.prog 154 ⟨[(K_PiSPiiqq,false),(K_Si,false)],[.bool],true,F_q77q N⟩:=
  have E:Env Tryz.prog Γ_q77q:=env_of tab ⟨C_q73q,trivial⟩
  con_of (body:=bodyOf Tryz.f154) (Pc:=[(0,⟨q77q_l0_h,q77q_l0_o,q77q_l0 N N⟩)]) E rfl mixed Tryz.func154 (by kernel_rfl) (by kernel_rfl) (by kernel_rfl) (by kernel_rfl) (fun A hA=>⟨pc_of (body:=loopOf Tryz.f154 0) (inner:=[]) E mixed hA (by kernel_rfl) (by kernel_rfl) (by kernel_rfl) trivial (fun _=>rfl) (fun _ _=>by kernel_rfl) N,trivial⟩) (fun _=>by kernel_rfl)
theorem C_q77q:Contract Tryz.prog 154 S_q77q:=Contract.less (fun N:Nat=>F_q77q N) C_q77q_raw l4Cops_lim
theorem C_q34q_raw (N:Nat):Contract Tryz.prog 131 ⟨[(K_BPSu8iu64q,true)],[K_PiSPiiqq,K_SSi],false,F_q34q N⟩:=
  have E:Env Tryz.prog Γ_q34q:=env_of tab ⟨C_q31q,⟨C_q61q,⟨C_q27q,⟨C_spec_l1Own,⟨C_q77q,⟨C_q60q,⟨C_q35q,⟨C_q29q,trivial⟩⟩⟩⟩⟩⟩⟩⟩
  con_of (body:=bodyOf Tryz.f131) (Pc:=[(0,⟨q34q_l0_h,q34q_l0_o,q34q_l0 N N⟩),(3,⟨q34q_l3_h,q34q_l3_o,q34q_l3 N N⟩)]) E rfl mixed Tryz.func131 (by kernel_rfl) (by kernel_rfl) (by kernel_rfl) (by kernel_rfl) (fun A hA=>⟨pc_of (body:=loopOf Tryz.f131 0) (inner:=[]) E mixed hA (by kernel_rfl) (by kernel_rfl) (by kernel_rfl) trivial (fun _=>rfl) (fun _ _=>by kernel_rfl) N,⟨pc_of (body:=loopOf Tryz.f131 3) (inner:=[]) E mixed hA (by kernel_rfl) (by kernel_rfl) (by kernel_rfl) trivial (fun _=>rfl) (fun _ _=>by kernel_rfl) N,trivial⟩⟩) (fun _=>by kernel_rfl)
theorem C_q34q:Contract Tryz.prog 131 S_q34q:=Contract.less (fun N:Nat=>F_q34q N) C_q34q_raw pickF_lim
theorem C_q26q_raw (N:Nat):Contract Tryz.prog 202 ⟨[(K_BPSu8iu64q,true)],[K_PiSPiiqq,K_SSi],false,F_q26q N⟩:=
  have E:Env Tryz.prog Γ_q26q:=env_of tab ⟨C_q43q,⟨C_q31q,⟨C_q34q,⟨C_q15q,⟨C_q7q,trivial⟩⟩⟩⟩⟩
  con_of (body:=bodyOf Tryz.f202) (Pc:=[]) E rfl mixed Tryz.func202 (by kernel_rfl) (by kernel_rfl) (by kernel_rfl) (by kernel_rfl) (fun A hA=>trivial) (fun _=>by kernel_rfl)
theorem C_q26q:Contract Tryz.prog 202 S_q26q:=C_q26q_raw 0
theorem C_q14q_raw (N:Nat):Contract Tryz.prog 119 ⟨[(K_Su8,false)],[K_PiSPiiqq,K_SSi],false,F_q14q N⟩:=
  have E:Env Tryz.prog Γ_q14q:=env_of tab ⟨C_q26q,trivial⟩
  con_of (body:=bodyOf Tryz.f119) (Pc:=[]) E rfl mixed Tryz.func119 (by kernel_rfl) (by kernel_rfl) (by kernel_rfl) (by kernel_rfl) (fun A hA=>trivial) (fun _=>by kernel_rfl)
theorem C_q14q:Contract Tryz.prog 119 S_q14q:=C_q14q_raw 0
theorem C_q20q_raw (N:Nat):Contract Tryz.prog 35 ⟨[(K_Su8,false)],[K_PiSPiiqq,K_SSi],false,F_q20q N⟩:=
  have E:Env Tryz.prog Γ_q20q:=env_of tab ⟨C_q14q,trivial⟩
  con_of (body:=bodyOf Tryz.f35) (Pc:=[]) E rfl mixed Tryz.func35 (by kernel_rfl) (by kernel_rfl) (by kernel_rfl) (by kernel_rfl) (fun A hA=>trivial) (fun _=>by kernel_rfl)
theorem C_q20q:Contract Tryz.prog 35 S_q20q:=C_q20q_raw 0
theorem C_q79q_raw (N:Nat):Contract Tryz.prog 143 ⟨[(I,false),(I,false),(I,false)],[.bool],true,F_q79q N⟩:=
  have E:Env Tryz.prog Γ_q79q:=env_of tab trivial
  con_of (body:=bodyOf Tryz.f143) (Pc:=[]) E rfl mixed Tryz.func143 (by kernel_rfl) (by kernel_rfl) (by kernel_rfl) (by kernel_rfl) (fun A hA=>trivial) (fun _=>by kernel_rfl)
theorem C_q79q:Contract Tryz.prog 143 S_q79q:=Contract.less (fun N:Nat=>F_q79q N) C_q79q_raw (fun d r h=>⟨0,(F_q79q_tot 0 d).trans h⟩)
theorem C_q48q_raw (N:Nat):Contract Tryz.prog 258 ⟨[(I,false)],[.bool],true,F_q48q N⟩:=
  have E:Env Tryz.prog Γ_q48q:=env_of tab trivial
  con_of (body:=bodyOf Tryz.f258) (Pc:=[]) E rfl mixed Tryz.func258 (by kernel_rfl) (by kernel_rfl) (by kernel_rfl) (by kernel_rfl) (fun A hA=>trivial) (fun _=>by kernel_rfl)
theorem C_q48q:Contract Tryz.prog 258 S_q48q:=Contract.less (fun N:Nat=>F_q48q N) C_q48q_raw (fun d r h=>⟨0,(F_q48q_tot 0 d).trans h⟩)
theorem C_q30q_raw (N:Nat):Contract Tryz.prog 246 ⟨[(I,false),(I,false)],[I],true,F_q30q N⟩:=
  have E:Env Tryz.prog Γ_q30q:=env_of tab ⟨C_q48q,trivial⟩
  con_of (body:=bodyOf Tryz.f246) (Pc:=[]) E rfl mixed Tryz.func246 (by kernel_rfl) (by kernel_rfl) (by kernel_rfl) (by kernel_rfl) (fun A hA=>trivial) (fun _=>by kernel_rfl)
theorem C_q30q:Contract Tryz.prog 246 S_q30q:=Contract.less (fun N:Nat=>F_q30q N) C_q30q_raw (fun d r h=>⟨0,(F_q30q_tot 0 d).trans h⟩)
theorem C_q6q_raw (N:Nat):Contract Tryz.prog 199 ⟨[(K_Si,false),(K_Si,false)],[I],true,F_q6q N⟩:=
  have E:Env Tryz.prog Γ_q6q:=env_of tab ⟨C_q30q,trivial⟩
  con_of (body:=bodyOf Tryz.f199) (Pc:=[(0,⟨q6q_l0_h,q6q_l0_o,q6q_l0 N N⟩)]) E rfl mixed Tryz.func199 (by kernel_rfl) (by kernel_rfl) (by kernel_rfl) (by kernel_rfl) (fun A hA=>⟨pc_of (body:=loopOf Tryz.f199 0) (inner:=[]) E mixed hA (by kernel_rfl) (by kernel_rfl) (by kernel_rfl) trivial (fun _=>rfl) (fun _ _=>by kernel_rfl) N,trivial⟩) (fun _=>by kernel_rfl)
theorem C_q6q:Contract Tryz.prog 199 S_q6q:=Contract.less (fun N:Nat=>F_q6q N) C_q6q_raw compare_lim
theorem C_q65q_raw (N:Nat):Contract Tryz.prog 114 ⟨[(K_PiSPiiqq,false)],[.bool],true,F_q65q N⟩:=
  have E:Env Tryz.prog Γ_q65q:=env_of tab ⟨C_q79q,⟨C_q6q,trivial⟩⟩
  con_of (body:=bodyOf Tryz.f114) (Pc:=[(0,⟨q65q_l0_h,q65q_l0_o,q65q_l0 N N⟩)]) E rfl mixed Tryz.func114 (by kernel_rfl) (by kernel_rfl) (by kernel_rfl) (by kernel_rfl) (fun A hA=>⟨pc_of (body:=loopOf Tryz.f114 0) (inner:=[]) E mixed hA (by kernel_rfl) (by kernel_rfl) (by kernel_rfl) trivial (fun _=>rfl) (fun _ _=>by kernel_rfl) N,trivial⟩) (fun _=>by kernel_rfl)
theorem C_q65q:Contract Tryz.prog 114 S_q65q:=Contract.less (fun N:Nat=>F_q65q N) C_q65q_raw IsGraph_lim
theorem C_impl_netOf_raw (N:Nat):Contract Tryz.prog 95 ⟨[(K_PiSPiiqq,false)],[K_PSiq],true,F_impl_netOf N⟩:=
  have E:Env Tryz.prog Γ_impl_netOf:=env_of tab trivial
  con_of (body:=bodyOf Tryz.f95) (Pc:=[(0,⟨impl_netOf_l0_h,impl_netOf_l0_o,impl_netOf_l0 N N⟩)]) E rfl mixed Tryz.func95 (by kernel_rfl) (by kernel_rfl) (by kernel_rfl) (by kernel_rfl) (fun A hA=>⟨pc_of (body:=loopOf Tryz.f95 0) (inner:=[]) E mixed hA (by kernel_rfl) (by kernel_rfl) (by kernel_rfl) trivial (fun _=>rfl) (fun _ _=>by kernel_rfl) N,trivial⟩) (fun _=>by kernel_rfl)
theorem C_impl_netOf:Contract Tryz.prog 95 S_impl_netOf:=Contract.less (fun N:Nat=>F_impl_netOf N) C_impl_netOf_raw netOf_lim
theorem C_q42q_raw (N:Nat):Contract Tryz.prog 94 ⟨[(K_PiSPiiqq,false),(I,false)],[.bool],true,F_q42q N⟩:=
  have E:Env Tryz.prog Γ_q42q:=env_of tab ⟨C_q65q,⟨C_q79q,trivial⟩⟩
  con_of (body:=bodyOf Tryz.f94) (Pc:=[]) E rfl mixed Tryz.func94 (by kernel_rfl) (by kernel_rfl) (by kernel_rfl) (by kernel_rfl) (fun A hA=>trivial) (fun _=>by kernel_rfl)
theorem C_q42q:Contract Tryz.prog 94 S_q42q:=C_q42q_raw 0
theorem C_q41q_raw (N:Nat):Contract Tryz.prog 128 ⟨[(K_Si,false),(I,false),(I,false)],[.bool],true,F_q41q N⟩:=
  have E:Env Tryz.prog Γ_q41q:=env_of tab ⟨C_q79q,trivial⟩
  con_of (body:=bodyOf Tryz.f128) (Pc:=[(0,⟨q41q_l0_h,q41q_l0_o,q41q_l0 N N⟩)]) E rfl mixed Tryz.func128 (by kernel_rfl) (by kernel_rfl) (by kernel_rfl) (by kernel_rfl) (fun A hA=>⟨pc_of (body:=loopOf Tryz.f128 0) (inner:=[]) E mixed hA (by kernel_rfl) (by kernel_rfl) (by kernel_rfl) trivial (fun _=>rfl) (fun _ _=>by kernel_rfl) N,trivial⟩) (fun _=>by kernel_rfl)
theorem C_q41q:Contract Tryz.prog 128 S_q41q:=Contract.less (fun N:Nat=>F_q41q N) C_q41q_raw allWithin_lim
theorem C_q53q_raw (N:Nat):Contract Tryz.prog 106 ⟨[(K_PiSPiiqq,false),(K_Si,false)],[.bool],true,F_q53q N⟩:=
  have E:Env Tryz.prog Γ_q53q:=env_of tab ⟨C_q65q,⟨C_q41q,trivial⟩⟩
  con_of (body:=bodyOf Tryz.f106) (Pc:=[]) E rfl mixed Tryz.func106 (by kernel_rfl) (by kernel_rfl) (by kernel_rfl) (by kernel_rfl) (fun A hA=>trivial) (fun _=>by kernel_rfl)
theorem C_q53q:Contract Tryz.prog 106 S_q53q:=C_q53q_raw 0
theorem C_q63q_raw (N:Nat):Contract Tryz.prog 250 ⟨[(I,false),(I,false)],[.bool],true,F_q63q N⟩:=
  have E:Env Tryz.prog Γ_q63q:=env_of tab ⟨C_q48q,trivial⟩
  con_of (body:=bodyOf Tryz.f250) (Pc:=[]) E rfl mixed Tryz.func250 (by kernel_rfl) (by kernel_rfl) (by kernel_rfl) (by kernel_rfl) (fun A hA=>trivial) (fun _=>by kernel_rfl)
theorem C_q63q:Contract Tryz.prog 250 S_q63q:=Contract.less (fun N:Nat=>F_q63q N) C_q63q_raw (fun d r h=>⟨0,(F_q63q_tot 0 d).trans h⟩)
theorem C_q4q_raw (N:Nat):Contract Tryz.prog 218 ⟨[(K_Si,false)],[.bool],true,F_q4q N⟩:=
  have E:Env Tryz.prog Γ_q4q:=env_of tab ⟨C_q63q,trivial⟩
  con_of (body:=bodyOf Tryz.f218) (Pc:=[(0,⟨q4q_l0_h,q4q_l0_o,q4q_l0 N N⟩)]) E rfl mixed Tryz.func218 (by kernel_rfl) (by kernel_rfl) (by kernel_rfl) (by kernel_rfl) (fun A hA=>⟨pc_of (body:=loopOf Tryz.f218 0) (inner:=[]) E mixed hA (by kernel_rfl) (by kernel_rfl) (by kernel_rfl) trivial (fun _=>rfl) (fun _ _=>by kernel_rfl) N,trivial⟩) (fun _=>by kernel_rfl)
theorem C_q4q:Contract Tryz.prog 218 S_q4q:=Contract.less (fun N:Nat=>F_q4q N) C_q4q_raw isSorted_lim
theorem C_q64q_raw (N:Nat):Contract Tryz.prog 142 ⟨[(K_PiSPiiqq,false),(K_Si,false)],[.bool],true,F_q64q N⟩:=
  have E:Env Tryz.prog Γ_q64q:=env_of tab ⟨C_q42q,⟨C_q53q,⟨C_q4q,trivial⟩⟩⟩
  con_of (body:=bodyOf Tryz.f142) (Pc:=[]) E rfl mixed Tryz.func142 (by kernel_rfl) (by kernel_rfl) (by kernel_rfl) (by kernel_rfl) (fun A hA=>trivial) (fun _=>by kernel_rfl)
theorem C_q64q:Contract Tryz.prog 142 S_q64q:=C_q64q_raw 0
theorem C_q38q_raw (N:Nat):Contract Tryz.prog 130 ⟨[(K_PSiq,false),(I,false)],[I],true,F_q38q N⟩:=
  have E:Env Tryz.prog Γ_q38q:=env_of tab trivial
  con_of (body:=bodyOf Tryz.f130) (Pc:=[]) E rfl mixed Tryz.func130 (by kernel_rfl) (by kernel_rfl) (by kernel_rfl) (by kernel_rfl) (fun A hA=>trivial) (fun _=>by kernel_rfl)
theorem C_q38q:Contract Tryz.prog 130 S_q38q:=C_q38q_raw 0
theorem C_impl_setOf_raw (N:Nat):Contract Tryz.prog 127 ⟨[(I,false)],[K_Si],true,F_impl_setOf N⟩:=
  have E:Env Tryz.prog Γ_impl_setOf:=env_of tab trivial
  con_of (body:=bodyOf Tryz.f127) (Pc:=[(0,⟨impl_setOf_l0_h,impl_setOf_l0_o,impl_setOf_l0 N N⟩)]) E rfl mixed Tryz.func127 (by kernel_rfl) (by kernel_rfl) (by kernel_rfl) (by kernel_rfl) (fun A hA=>⟨pc_of (body:=loopOf Tryz.f127 0) (inner:=[]) E mixed hA (by kernel_rfl) (by kernel_rfl) (by kernel_rfl) trivial (fun _=>rfl) (fun _ _=>by kernel_rfl) N,trivial⟩) (fun _=>by kernel_rfl)
theorem C_impl_setOf:Contract Tryz.prog 127 S_impl_setOf:=Contract.less (fun N:Nat=>F_impl_setOf N) C_impl_setOf_raw setOf_lim
theorem C_q8q_raw (N:Nat):Contract Tryz.prog 146 ⟨[(K_Si,false)],[K_Si],true,F_q8q N⟩:=
  have E:Env Tryz.prog Γ_q8q:=env_of tab trivial
  con_of (body:=bodyOf Tryz.f146) (Pc:=[]) E rfl mixed Tryz.func146 (by kernel_rfl) (by kernel_rfl) (by kernel_rfl) (by kernel_rfl) (fun A hA=>trivial) (fun _=>by kernel_rfl)
theorem C_q8q:Contract Tryz.prog 146 S_q8q:=Contract.less (fun N:Nat=>F_q8q N) C_q8q_raw cloneI_lim
theorem C_q9q_raw (N:Nat):Contract Tryz.prog 204 ⟨[(K_Si,false),(K_Si,false)],[.bool],true,F_q9q N⟩:=
  have E:Env Tryz.prog Γ_q9q:=env_of tab trivial
  con_of (body:=bodyOf Tryz.f204) (Pc:=[(0,⟨q9q_l0_h,q9q_l0_o,q9q_l0 N N⟩)]) E rfl mixed Tryz.func204 (by kernel_rfl) (by kernel_rfl) (by kernel_rfl) (by kernel_rfl) (fun A hA=>⟨pc_of (body:=loopOf Tryz.f204 0) (inner:=[]) E mixed hA (by kernel_rfl) (by kernel_rfl) (by kernel_rfl) trivial (fun _=>rfl) (fun _ _=>by kernel_rfl) N,trivial⟩) (fun _=>by kernel_rfl)
theorem C_q9q:Contract Tryz.prog 204 S_q9q:=Contract.less (fun N:Nat=>F_q9q N) C_q9q_raw equalI_lim
theorem C_q0q:ContractG Tryz.prog 223 (S_q0q,{ gone:=[0],deep:=[] }):=con_compactF (enters_of Tryz.func223 (by kernel_rfl) rfl) (fun w v1 v2 xs ys h1 h2 l1 l2=>eqH h1 h2 l1 l2) compact74 compact74_small
theorem C_q21q_raw (N:Nat):Contract Tryz.prog 153 ⟨[(K_PSiq,false),(K_Si,false)],[K_SSi],true,F_q21q N⟩:=
  have E:Env Tryz.prog Γ_q21q:=env_ofG tab ⟨C_impl_setOf,⟨C_q38q,⟨C_q8q,⟨C_q12q,⟨C_q1q,trivial⟩⟩⟩⟩⟩ trivial (fun _ h=>by cases h) ⟨C_q0q,trivial⟩ (by kernel_rfl)
  con_of (body:=bodyOf Tryz.f153) (Pc:=[(0,⟨q21q_l0_h,q21q_l0_o,q21q_l0 N N⟩),(6,⟨q21q_l6_h,q21q_l6_o,q21q_l6 N N⟩)]) E rfl mixed Tryz.func153 (by kernel_rfl) (by kernel_rfl) (by kernel_rfl) (by kernel_rfl) (fun A hA=>⟨pc_of (body:=loopOf Tryz.f153 0) (inner:=[(2,⟨q21q_l2_h,q21q_l2_o,q21q_l2 N N⟩)]) E mixed hA (by kernel_rfl) (by kernel_rfl) (by kernel_rfl) ⟨pc_of (body:=loopOf Tryz.f153 2) (inner:=[(4,⟨q21q_l4_h,q21q_l4_o,q21q_l4 N N⟩)]) E mixed hA (by kernel_rfl) (by kernel_rfl) (by kernel_rfl) ⟨pc_of (body:=loopOf Tryz.f153 4) (inner:=[]) E mixed hA (by kernel_rfl) (by kernel_rfl) (by kernel_rfl) trivial (fun _=>rfl) (fun _ _=>by kernel_rfl) N,trivial⟩ (fun _=>rfl) (fun _ _=>by kernel_rfl) N,trivial⟩ (fun _=>rfl) (fun _ _=>by kernel_rfl) N,⟨pc_of (body:=loopOf Tryz.f153 6) (inner:=[]) E mixed hA (by kernel_rfl) (by kernel_rfl) (by kernel_rfl) trivial (fun _=>rfl) (fun _ _=>by kernel_rfl) N,trivial⟩⟩) (fun _=>by kernel_rfl)
theorem C_q21q:Contract Tryz.prog 153 S_q21q:=Contract.less (fun N:Nat=>F_q21q N) C_q21q_raw copMoves47_lim
theorem C_q55q_raw (N:Nat):Contract Tryz.prog 203 ⟨[(K_Si,false),(K_BSi,false)],[.bool],true,F_q55q N⟩:=
  have E:Env Tryz.prog Γ_q55q:=env_of tab ⟨C_q9q,trivial⟩
  con_of (body:=bodyOf Tryz.f203) (Pc:=[]) E rfl mixed Tryz.func203 (by kernel_rfl) (by kernel_rfl) (by kernel_rfl) (by kernel_rfl) (fun A hA=>trivial) (fun _=>by kernel_rfl)
theorem C_q55q:Contract Tryz.prog 203 S_q55q:=C_q55q_raw 0
theorem CV_q55q:ContractV Tryz.prog SV_q55q:=conV_0_1_1 C_q55q
theorem C_q3q_raw (N:Nat):Contract Tryz.prog 232 ⟨[(K_SSi,false),(K_F_q55q_qPBSiq,false)],[I],true,F_q3q N⟩:=
  have E:Env Tryz.prog Γ_q3q:=env_ofV tab trivial ⟨CV_q55q,trivial⟩ (fun _ h=>by cases h)
  con_of (body:=bodyOf Tryz.f232) (Pc:=[(0,⟨q3q_l0_h,q3q_l0_o,q3q_l0 N N⟩)]) E rfl mixed Tryz.func232 (by kernel_rfl) (by kernel_rfl) (by kernel_rfl) (by kernel_rfl) (fun A hA=>⟨pc_of (body:=loopOf Tryz.f232 0) (inner:=[]) E mixed hA (by kernel_rfl) (by kernel_rfl) (by kernel_rfl) trivial (fun _=>rfl) (fun _ _=>by kernel_rfl) N,trivial⟩) (fun _=>by kernel_rfl)
theorem C_q3q:Contract Tryz.prog 232 S_q3q:=Contract.less (fun N:Nat=>F_q3q N) C_q3q_raw idxWalk_lim
theorem C_q2q_raw (N:Nat):Contract Tryz.prog 167 ⟨[(K_SSi,false),(K_F_q55q_qPBSiq,false)],[.bool],true,F_q2q N⟩:=
  have E:Env Tryz.prog Γ_q2q:=env_of tab ⟨C_q3q,trivial⟩
  con_of (body:=bodyOf Tryz.f167) (Pc:=[]) E rfl mixed Tryz.func167 (by kernel_rfl) (by kernel_rfl) (by kernel_rfl) (by kernel_rfl) (fun A hA=>trivial) (fun _=>by kernel_rfl)
theorem C_q2q:Contract Tryz.prog 167 S_q2q:=C_q2q_raw 0
theorem C_q78q_raw (N:Nat):Contract Tryz.prog 120 ⟨[(K_PiSPiiqq,false),(K_SSi,false)],[.bool],true,F_q78q N⟩:=
  have E:Env Tryz.prog Γ_q78q:=env_ofV tab ⟨C_impl_netOf,⟨C_q65q,⟨C_q64q,⟨C_q79q,⟨C_q21q,⟨C_q2q,trivial⟩⟩⟩⟩⟩⟩ trivial (fun _ h=>by cases h)
  con_of (body:=bodyOf Tryz.f120) (Pc:=[(0,⟨q78q_l0_h,q78q_l0_o,q78q_l0 N N⟩)]) E rfl mixed Tryz.func120 (by kernel_rfl) (by kernel_rfl) (by kernel_rfl) (by kernel_rfl) (fun A hA=>⟨pc_of (body:=loopOf Tryz.f120 0) (inner:=[]) E mixed hA (by kernel_rfl) (by kernel_rfl) (by kernel_rfl) trivial (fun _=>rfl) (fun _ _=>by kernel_rfl) N,trivial⟩) (fun _=>by kernel_rfl)
theorem C_q78q:Contract Tryz.prog 120 S_q78q:=Contract.less (fun N:Nat=>F_q78q N) C_q78q_raw isWalk_lim
theorem C_q57q_raw (N:Nat):Contract Tryz.prog 205 ⟨[(K_PSiq,false)],[I],true,F_q57q N⟩:=
  have E:Env Tryz.prog Γ_q57q:=env_of tab trivial
  con_of (body:=bodyOf Tryz.f205) (Pc:=[]) E rfl mixed Tryz.func205 (by kernel_rfl) (by kernel_rfl) (by kernel_rfl) (by kernel_rfl) (fun A hA=>trivial) (fun _=>by kernel_rfl)
theorem C_q57q:Contract Tryz.prog 205 S_q57q:=C_q57q_raw 0
theorem C_q82q_raw (N:Nat):Contract Tryz.prog 157 ⟨[(K_Si,false)],[I],true,F_q82q N⟩:=
  have E:Env Tryz.prog Γ_q82q:=env_of tab trivial
  con_of (body:=bodyOf Tryz.f157) (Pc:=[(0,⟨q82q_l0_h,q82q_l0_o,q82q_l0 N N⟩)]) E rfl mixed Tryz.func157 (by kernel_rfl) (by kernel_rfl) (by kernel_rfl) (by kernel_rfl) (fun A hA=>⟨pc_of (body:=loopOf Tryz.f157 0) (inner:=[]) E mixed hA (by kernel_rfl) (by kernel_rfl) (by kernel_rfl) trivial (fun _=>rfl) (fun _ _=>by kernel_rfl) N,trivial⟩) (fun _=>by kernel_rfl)
theorem C_q82q:Contract Tryz.prog 157 S_q82q:=Contract.less (fun N:Nat=>F_q82q N) C_q82q_raw maskOf_lim
theorem C_q36q_raw (N:Nat):Contract Tryz.prog 156 ⟨[(K_PSiq,false),(I,false)],[I],true,F_q36q N⟩:=
  have E:Env Tryz.prog Γ_q36q:=env_of tab trivial
  con_of (body:=bodyOf Tryz.f156) (Pc:=[(0,⟨q36q_l0_h,q36q_l0_o,q36q_l0 N N⟩)]) E rfl mixed Tryz.func156 (by kernel_rfl) (by kernel_rfl) (by kernel_rfl) (by kernel_rfl) (fun A hA=>⟨pc_of (body:=loopOf Tryz.f156 0) (inner:=[]) E mixed hA (by kernel_rfl) (by kernel_rfl) (by kernel_rfl) trivial (fun _=>rfl) (fun _ _=>by kernel_rfl) N,trivial⟩) (fun _=>by kernel_rfl)
theorem C_q36q:Contract Tryz.prog 156 S_q36q:=Contract.less (fun N:Nat=>F_q36q N) C_q36q_raw around_lim
theorem C_q40q_raw (N:Nat):Contract Tryz.prog 121 ⟨[(K_PSiq,false),(K_SSi,false)],[K_Si,.bool],true,F_q40q N⟩:=
  have E:Env Tryz.prog Γ_q40q:=env_of tab ⟨C_impl_setOf,⟨C_q38q,⟨C_q36q,⟨C_q82q,⟨C_q57q,trivial⟩⟩⟩⟩⟩
  con_of (body:=bodyOf Tryz.f121) (Pc:=[(0,⟨q40q_l0_h,q40q_l0_o,q40q_l0 N N⟩),(2,⟨q40q_l2_h,q40q_l2_o,q40q_l2 N N⟩)]) E rfl mixed Tryz.func121 (by kernel_rfl) (by kernel_rfl) (by kernel_rfl) (by kernel_rfl) (fun A hA=>⟨pc_of (body:=loopOf Tryz.f121 0) (inner:=[]) E mixed hA (by kernel_rfl) (by kernel_rfl) (by kernel_rfl) trivial (fun _=>rfl) (fun _ _=>by kernel_rfl) N,⟨pc_of (body:=loopOf Tryz.f121 2) (inner:=[]) E mixed hA (by kernel_rfl) (by kernel_rfl) (by kernel_rfl) trivial (fun _=>rfl) (fun _ _=>by kernel_rfl) N,trivial⟩⟩) (fun _=>by kernel_rfl)
theorem C_q40q:Contract Tryz.prog 121 S_q40q:=Contract.less (fun N:Nat=>F_q40q N) C_q40q_raw netEsc_lim
theorem C_q49q_raw (N:Nat):Contract Tryz.prog 36 ⟨[(K_PiSPiiqq,false),(K_SSi,false)],[K_Si,.bool],true,F_q49q N⟩:=
  have E:Env Tryz.prog Γ_q49q:=env_of tab ⟨C_impl_netOf,⟨C_q78q,⟨C_q40q,trivial⟩⟩⟩
  con_of (body:=bodyOf Tryz.f36) (Pc:=[]) E rfl mixed Tryz.func36 (by kernel_rfl) (by kernel_rfl) (by kernel_rfl) (by kernel_rfl) (fun A hA=>trivial) (fun _=>by kernel_rfl)
theorem C_q49q:Contract Tryz.prog 36 S_q49q:=C_q49q_raw 0
theorem C_q66q_raw (N:Nat):Contract Tryz.prog 122 ⟨[(K_PiSPiiqq,false),(K_SSi,false)],[.bool],true,F_q66q N⟩:=
  have E:Env Tryz.prog Γ_q66q:=env_of tab ⟨C_q61q,⟨C_spec_l1In,⟨C_spec_l4At,⟨C_q77q,⟨C_q60q,trivial⟩⟩⟩⟩⟩
  con_of (body:=bodyOf Tryz.f122) (Pc:=[(0,⟨q66q_l0_h,q66q_l0_o,q66q_l0 N N⟩)]) E rfl mixed Tryz.func122 (by kernel_rfl) (by kernel_rfl) (by kernel_rfl) (by kernel_rfl) (fun A hA=>⟨pc_of (body:=loopOf Tryz.f122 0) (inner:=[]) E mixed hA (by kernel_rfl) (by kernel_rfl) (by kernel_rfl) trivial (fun _=>rfl) (fun _ _=>by kernel_rfl) N,trivial⟩) (fun _=>by kernel_rfl)
theorem C_q66q:Contract Tryz.prog 122 S_q66q:=Contract.less (fun N:Nat=>F_q66q N) C_q66q_raw l11Walk_lim
theorem C_q62q_raw (N:Nat):Contract Tryz.prog 123 ⟨[(K_PiSPiiqq,false),(K_SSi,false)],[K_SSi],false,F_q62q N⟩:=
  have E:Env Tryz.prog Γ_q62q:=env_ofV tab ⟨C_spec_l1Has,⟨C_q81q,⟨C_q68q,⟨C_spec_l2All,trivial⟩⟩⟩⟩ trivial (fun _ h=>by cases h)
  con_of (body:=bodyOf Tryz.f123) (Pc:=[(0,⟨q62q_l0_h,q62q_l0_o,q62q_l0 N N⟩)]) E rfl mixed Tryz.func123 (by kernel_rfl) (by kernel_rfl) (by kernel_rfl) (by kernel_rfl) (fun A hA=>⟨pc_of (body:=loopOf Tryz.f123 0) (inner:=[(2,⟨q62q_l2_h,q62q_l2_o,q62q_l2 N N⟩)]) E mixed hA (by kernel_rfl) (by kernel_rfl) (by kernel_rfl) ⟨pc_of (body:=loopOf Tryz.f123 2) (inner:=[(4,⟨q62q_l4_h,q62q_l4_o,q62q_l4 N N⟩)]) E mixed hA (by kernel_rfl) (by kernel_rfl) (by kernel_rfl) ⟨pc_of (body:=loopOf Tryz.f123 4) (inner:=[]) E mixed hA (by kernel_rfl) (by kernel_rfl) (by kernel_rfl) trivial (fun _=>rfl) (fun _ _=>by kernel_rfl) N,trivial⟩ (fun _=>rfl) (fun _ _=>by kernel_rfl) N,trivial⟩ (fun _=>rfl) (fun _ _=>by kernel_rfl) N,trivial⟩) (fun _=>by kernel_rfl)
theorem C_q62q:Contract Tryz.prog 123 S_q62q:=Contract.less (fun N:Nat=>F_q62q N) C_q62q_raw l11Back_lim
theorem C_q54q_raw (N:Nat):Contract Tryz.prog 37 ⟨[(K_PiSPiiqq,false),(K_SSi,false)],[K_Si,.bool],true,F_q54q N⟩:=
  have E:Env Tryz.prog Γ_q54q:=env_of tab ⟨C_spec_l1Has,⟨C_q83q,⟨C_q66q,⟨C_q62q,⟨C_q81q,trivial⟩⟩⟩⟩⟩
  con_of (body:=bodyOf Tryz.f37) (Pc:=[(0,⟨q54q_l0_h,q54q_l0_o,q54q_l0 N N⟩)]) E rfl mixed Tryz.func37 (by kernel_rfl) (by kernel_rfl) (by kernel_rfl) (by kernel_rfl) (fun A hA=>⟨pc_of (body:=loopOf Tryz.f37 0) (inner:=[(2,⟨q54q_l2_h,q54q_l2_o,q54q_l2 N N⟩)]) E mixed hA (by kernel_rfl) (by kernel_rfl) (by kernel_rfl) ⟨pc_of (body:=loopOf Tryz.f37 2) (inner:=[]) E mixed hA (by kernel_rfl) (by kernel_rfl) (by kernel_rfl) trivial (fun _=>rfl) (fun _ _=>by kernel_rfl) N,trivial⟩ (fun _=>rfl) (fun _ _=>by kernel_rfl) N,trivial⟩) (fun _=>by kernel_rfl)
theorem C_q54q:Contract Tryz.prog 37 S_q54q:=Contract.less (fun N:Nat=>F_q54q N) C_q54q_raw specEO_lim
theorem C_laws_rInts_raw (N:Nat):Contract Tryz.prog 38 ⟨[(K_Si,false),(K_Si,false)],[.bool],true,F_laws_rInts N⟩:=
  have E:Env Tryz.prog Γ_laws_rInts:=env_of tab trivial
  con_of (body:=bodyOf Tryz.f38) (Pc:=[(0,⟨laws_rInts_l0_h,laws_rInts_l0_o,laws_rInts_l0 N N⟩)]) E rfl mixed Tryz.func38 (by kernel_rfl) (by kernel_rfl) (by kernel_rfl) (by kernel_rfl) (fun A hA=>⟨pc_of (body:=loopOf Tryz.f38 0) (inner:=[]) E mixed hA (by kernel_rfl) (by kernel_rfl) (by kernel_rfl) trivial (fun _=>rfl) (fun _ _=>by kernel_rfl) N,trivial⟩) (fun _=>by kernel_rfl)
theorem C_laws_rInts:Contract Tryz.prog 38 S_laws_rInts:=Contract.less (fun N:Nat=>F_laws_rInts N) C_laws_rInts_raw rInts_lim
theorem C_q11q_raw (N:Nat):Contract Tryz.prog 209 ⟨[(K_PSiq,false),(I,false),(K_Si,false)],[I],true,F_q11q N⟩:=
  have E:Env Tryz.prog Γ_q11q:=env_of tab ⟨C_q36q,⟨C_q82q,trivial⟩⟩
  con_of (body:=bodyOf Tryz.f209) (Pc:=[]) E rfl mixed Tryz.func209 (by kernel_rfl) (by kernel_rfl) (by kernel_rfl) (by kernel_rfl) (fun A hA=>trivial) (fun _=>by kernel_rfl)
theorem C_q11q:Contract Tryz.prog 209 S_q11q:=C_q11q_raw 0
theorem C_q13q_raw (N:Nat):Contract Tryz.prog 125 ⟨[(K_PSiq,false),(K_SSi,false)],[K_Si],true,F_q13q N⟩:=
  have E:Env Tryz.prog Γ_q13q:=env_of tab ⟨C_q82q,⟨C_q57q,⟨C_q11q,trivial⟩⟩⟩
  con_of (body:=bodyOf Tryz.f125) (Pc:=[(0,⟨q13q_l0_h,q13q_l0_o,q13q_l0 N N⟩)]) E rfl mixed Tryz.func125 (by kernel_rfl) (by kernel_rfl) (by kernel_rfl) (by kernel_rfl) (fun A hA=>⟨pc_of (body:=loopOf Tryz.f125 0) (inner:=[]) E mixed hA (by kernel_rfl) (by kernel_rfl) (by kernel_rfl) trivial (fun _=>rfl) (fun _ _=>by kernel_rfl) N,trivial⟩) (fun _=>by kernel_rfl)
theorem C_q13q:Contract Tryz.prog 125 S_q13q:=Contract.less (fun N:Nat=>F_q13q N) C_q13q_raw netUns_lim
theorem C_q17q_raw (N:Nat):Contract Tryz.prog 39 ⟨[(K_PiSPiiqq,false),(K_SSi,false)],[.bool,.bool],true,F_q17q N⟩:=
  have E:Env Tryz.prog Γ_q17q:=env_of tab ⟨C_impl_netOf,⟨C_q78q,⟨C_q13q,trivial⟩⟩⟩
  con_of (body:=bodyOf Tryz.f39) (Pc:=[]) E rfl mixed Tryz.func39 (by kernel_rfl) (by kernel_rfl) (by kernel_rfl) (by kernel_rfl) (fun A hA=>trivial) (fun _=>by kernel_rfl)
theorem C_q17q:Contract Tryz.prog 39 S_q17q:=C_q17q_raw 0
theorem C_q58q_raw (N:Nat):Contract Tryz.prog 126 ⟨[(K_PiSPiiqq,false),(K_SSi,false)],[K_SSi],false,F_q58q N⟩:=
  have E:Env Tryz.prog Γ_q58q:=env_of tab ⟨C_q81q,⟨C_q68q,⟨C_spec_l2All,⟨C_q56q,trivial⟩⟩⟩⟩
  con_of (body:=bodyOf Tryz.f126) (Pc:=[(0,⟨q58q_l0_h,q58q_l0_o,q58q_l0 N N⟩),(2,⟨q58q_l2_h,q58q_l2_o,q58q_l2 N N⟩)]) E rfl mixed Tryz.func126 (by kernel_rfl) (by kernel_rfl) (by kernel_rfl) (by kernel_rfl) (fun A hA=>⟨pc_of (body:=loopOf Tryz.f126 0) (inner:=[]) E mixed hA (by kernel_rfl) (by kernel_rfl) (by kernel_rfl) trivial (fun _=>rfl) (fun _ _=>by kernel_rfl) N,⟨pc_of (body:=loopOf Tryz.f126 2) (inner:=[]) E mixed hA (by kernel_rfl) (by kernel_rfl) (by kernel_rfl) trivial (fun _=>rfl) (fun _ _=>by kernel_rfl) N,trivial⟩⟩) (fun _=>by kernel_rfl)
theorem C_q58q:Contract Tryz.prog 126 S_q58q:=Contract.less (fun N:Nat=>F_q58q N) C_q58q_raw l11Sets_lim
theorem C_q18q_raw (N:Nat):Contract Tryz.prog 40 ⟨[(K_PiSPiiqq,false),(K_SSi,false)],[.bool,.bool],true,F_q18q N⟩:=
  have E:Env Tryz.prog Γ_q18q:=env_of tab ⟨C_q83q,⟨C_q66q,⟨C_q58q,trivial⟩⟩⟩
  con_of (body:=bodyOf Tryz.f40) (Pc:=[]) E rfl mixed Tryz.func40 (by kernel_rfl) (by kernel_rfl) (by kernel_rfl) (by kernel_rfl) (fun A hA=>trivial) (fun _=>by kernel_rfl)
theorem C_q18q:Contract Tryz.prog 40 S_q18q:=C_q18q_raw 0
theorem C_q28q_raw (N:Nat):Contract Tryz.prog 41 ⟨[(K_PiSPiiqq,false),(K_SSi,false)],[K_SSi,.bool],true,F_q28q N⟩:=
  have E:Env Tryz.prog Γ_q28q:=env_of tab ⟨C_impl_netOf,⟨C_q78q,⟨C_q13q,⟨C_impl_setOf,trivial⟩⟩⟩⟩
  con_of (body:=bodyOf Tryz.f41) (Pc:=[(0,⟨q28q_l0_h,q28q_l0_o,q28q_l0 N N⟩)]) E rfl mixed Tryz.func41 (by kernel_rfl) (by kernel_rfl) (by kernel_rfl) (by kernel_rfl) (fun A hA=>⟨pc_of (body:=loopOf Tryz.f41 0) (inner:=[]) E mixed hA (by kernel_rfl) (by kernel_rfl) (by kernel_rfl) trivial (fun _=>rfl) (fun _ _=>by kernel_rfl) N,trivial⟩) (fun _=>by kernel_rfl)
theorem C_q28q:Contract Tryz.prog 41 S_q28q:=Contract.less (fun N:Nat=>F_q28q N) C_q28q_raw implUns_lim
theorem C_q25q_raw (N:Nat):Contract Tryz.prog 42 ⟨[(K_PiSPiiqq,false),(K_SSi,false)],[K_SSi,.bool],false,F_q25q N⟩:=
  have E:Env Tryz.prog Γ_q25q:=env_of tab ⟨C_q83q,⟨C_q66q,⟨C_q58q,trivial⟩⟩⟩
  con_of (body:=bodyOf Tryz.f42) (Pc:=[]) E rfl mixed Tryz.func42 (by kernel_rfl) (by kernel_rfl) (by kernel_rfl) (by kernel_rfl) (fun A hA=>trivial) (fun _=>by kernel_rfl)
theorem C_q25q:Contract Tryz.prog 42 S_q25q:=C_q25q_raw 0
theorem C_q70q_raw (N:Nat):Contract Tryz.prog 43 ⟨[(K_SSi,false),(K_SSi,false)],[.bool],true,F_q70q N⟩:=
  have E:Env Tryz.prog Γ_q70q:=env_of tab ⟨C_laws_rInts,trivial⟩
  con_of (body:=bodyOf Tryz.f43) (Pc:=[(0,⟨q70q_l0_h,q70q_l0_o,q70q_l0 N N⟩)]) E rfl mixed Tryz.func43 (by kernel_rfl) (by kernel_rfl) (by kernel_rfl) (by kernel_rfl) (fun A hA=>⟨pc_of (body:=loopOf Tryz.f43 0) (inner:=[]) E mixed hA (by kernel_rfl) (by kernel_rfl) (by kernel_rfl) trivial (fun _=>rfl) (fun _ _=>by kernel_rfl) N,trivial⟩) (fun _=>by kernel_rfl)
theorem C_q70q:Contract Tryz.prog 43 S_q70q:=Contract.less (fun N:Nat=>F_q70q N) C_q70q_raw rTable_lim
theorem C_q69q_raw (N:Nat):Contract Tryz.prog 44 ⟨[(K_PiSPiiqq,false),(K_SSi,false)],[.bool,.bool],true,F_q69q N⟩:=
  have E:Env Tryz.prog Γ_q69q:=env_of tab ⟨C_q65q,⟨C_q78q,trivial⟩⟩
  con_of (body:=bodyOf Tryz.f44) (Pc:=[]) E rfl mixed Tryz.func44 (by kernel_rfl) (by kernel_rfl) (by kernel_rfl) (by kernel_rfl) (fun A hA=>trivial) (fun _=>by kernel_rfl)
theorem C_q69q:Contract Tryz.prog 44 S_q69q:=C_q69q_raw 0
theorem C_q80q_raw (N:Nat):Contract Tryz.prog 45 ⟨[(K_PiSPiiqq,false),(K_SSi,false)],[.bool,.bool],true,F_q80q N⟩:=
  have E:Env Tryz.prog Γ_q80q:=env_of tab ⟨C_q61q,⟨C_q66q,trivial⟩⟩
  con_of (body:=bodyOf Tryz.f45) (Pc:=[]) E rfl mixed Tryz.func45 (by kernel_rfl) (by kernel_rfl) (by kernel_rfl) (by kernel_rfl) (fun A hA=>trivial) (fun _=>by kernel_rfl)
theorem C_q80q:Contract Tryz.prog 45 S_q80q:=C_q80q_raw 0
theorem C_q10q_raw (N:Nat):Contract Tryz.prog 211 ⟨[(K_Si,false),(I,false)],[I],true,F_q10q N⟩:=
  have E:Env Tryz.prog Γ_q10q:=env_of tab trivial
  con_of (body:=bodyOf Tryz.f211) (Pc:=[(0,⟨q10q_l0_h,q10q_l0_o,q10q_l0 N N⟩)]) E rfl mixed Tryz.func211 (by kernel_rfl) (by kernel_rfl) (by kernel_rfl) (by kernel_rfl) (fun A hA=>⟨pc_of (body:=loopOf Tryz.f211 0) (inner:=[]) E mixed hA (by kernel_rfl) (by kernel_rfl) (by kernel_rfl) trivial (fun _=>rfl) (fun _ _=>by kernel_rfl) N,trivial⟩) (fun _=>by kernel_rfl)
theorem C_q10q:Contract Tryz.prog 211 S_q10q:=Contract.less (fun N:Nat=>F_q10q N) C_q10q_raw index_lim
theorem C_q5q_raw (N:Nat):Contract Tryz.prog 129 ⟨[(K_Si,false),(I,false)],[.bool],true,F_q5q N⟩:=
  have E:Env Tryz.prog Γ_q5q:=env_of tab ⟨C_q10q,trivial⟩
  con_of (body:=bodyOf Tryz.f129) (Pc:=[]) E rfl mixed Tryz.func129 (by kernel_rfl) (by kernel_rfl) (by kernel_rfl) (by kernel_rfl) (fun A hA=>trivial) (fun _=>by kernel_rfl)
theorem C_q5q:Contract Tryz.prog 129 S_q5q:=C_q5q_raw 0
theorem C_q46q_raw (N:Nat):Contract Tryz.prog 46 ⟨[(K_PiSPiiqq,false),(K_SSi,false),(K_Si,false)],[.bool,.bool],true,F_q46q N⟩:=
  have E:Env Tryz.prog Γ_q46q:=env_of tab ⟨C_impl_netOf,⟨C_q78q,⟨C_q41q,⟨C_q5q,⟨C_q38q,trivial⟩⟩⟩⟩⟩
  con_of (body:=bodyOf Tryz.f46) (Pc:=[(0,⟨q46q_l0_h,q46q_l0_o,q46q_l0 N N⟩)]) E rfl mixed Tryz.func46 (by kernel_rfl) (by kernel_rfl) (by kernel_rfl) (by kernel_rfl) (fun A hA=>⟨pc_of (body:=loopOf Tryz.f46 0) (inner:=[]) E mixed hA (by kernel_rfl) (by kernel_rfl) (by kernel_rfl) trivial (fun _=>rfl) (fun _ _=>by kernel_rfl) N,trivial⟩) (fun _=>by kernel_rfl)
theorem C_q46q:Contract Tryz.prog 46 S_q46q:=Contract.less (fun N:Nat=>F_q46q N) C_q46q_raw implEsc_lim
theorem C_laws_rHas_raw (N:Nat):Contract Tryz.prog 47 ⟨[(K_Si,false),(I,false)],[.bool],true,F_laws_rHas N⟩:=
  have E:Env Tryz.prog Γ_laws_rHas:=env_of tab trivial
  con_of (body:=bodyOf Tryz.f47) (Pc:=[(0,⟨laws_rHas_l0_h,laws_rHas_l0_o,laws_rHas_l0 N N⟩)]) E rfl mixed Tryz.func47 (by kernel_rfl) (by kernel_rfl) (by kernel_rfl) (by kernel_rfl) (fun A hA=>⟨pc_of (body:=loopOf Tryz.f47 0) (inner:=[]) E mixed hA (by kernel_rfl) (by kernel_rfl) (by kernel_rfl) trivial (fun _=>rfl) (fun _ _=>by kernel_rfl) N,trivial⟩) (fun _=>by kernel_rfl)
theorem C_laws_rHas:Contract Tryz.prog 47 S_laws_rHas:=Contract.less (fun N:Nat=>F_laws_rHas N) C_laws_rHas_raw rHas_lim
theorem C_q22q_raw (N:Nat):Contract Tryz.prog 48 ⟨[(K_Su8,false)],[K_PiSPiiqq,K_SSi,K_Si],false,F_q22q N⟩:=
  have E:Env Tryz.prog Γ_q22q:=env_of tab ⟨C_q54q,⟨C_q31q,⟨C_q33q,⟨C_q34q,trivial⟩⟩⟩⟩
  con_of (body:=bodyOf Tryz.f48) (Pc:=[]) E rfl mixed Tryz.func48 (by kernel_rfl) (by kernel_rfl) (by kernel_rfl) (by kernel_rfl) (fun A hA=>trivial) (fun _=>by kernel_rfl)
theorem C_q22q:Contract Tryz.prog 48 S_q22q:=C_q22q_raw 0
theorem C_q50q_raw (N:Nat):Contract Tryz.prog 49 ⟨[(K_PiSPiiqq,false),(K_SSi,false),(K_Si,false)],[.bool,.bool],true,F_q50q N⟩:=
  have E:Env Tryz.prog Γ_q50q:=env_of tab ⟨C_spec_l1Has,⟨C_q83q,⟨C_q66q,⟨C_q81q,⟨C_q73q,trivial⟩⟩⟩⟩⟩
  con_of (body:=bodyOf Tryz.f49) (Pc:=[(0,⟨q50q_l0_h,q50q_l0_o,q50q_l0 N N⟩)]) E rfl mixed Tryz.func49 (by kernel_rfl) (by kernel_rfl) (by kernel_rfl) (by kernel_rfl) (fun A hA=>⟨pc_of (body:=loopOf Tryz.f49 0) (inner:=[]) E mixed hA (by kernel_rfl) (by kernel_rfl) (by kernel_rfl) trivial (fun _=>rfl) (fun _ _=>by kernel_rfl) N,trivial⟩) (fun _=>by kernel_rfl)
theorem C_q50q:Contract Tryz.prog 49 S_q50q:=Contract.less (fun N:Nat=>F_q50q N) C_q50q_raw specEsc_lim
theorem C_laws_FnBlindWalks_raw (N:Nat):Contract Tryz.prog 5 ⟨[(K_Su8,false)],[.bool],true,F_laws_FnBlindWalks N⟩:=
  have E:Env Tryz.prog Γ_laws_FnBlindWalks:=env_of tab ⟨C_laws_rBig,⟨C_q20q,⟨C_q49q,⟨C_q54q,⟨C_laws_rInts,⟨C_q17q,⟨C_q18q,⟨C_q28q,⟨C_q25q,⟨C_q70q,⟨C_q69q,⟨C_q80q,⟨C_q46q,⟨C_laws_rHas,⟨C_q22q,⟨C_q50q,trivial⟩⟩⟩⟩⟩⟩⟩⟩⟩⟩⟩⟩⟩⟩⟩⟩
  con_of (body:=bodyOf Tryz.f5) (Pc:=[(0,⟨laws_FnBlindWalks_l0_h,laws_FnBlindWalks_l0_o,laws_FnBlindWalks_l0 N N⟩)]) E rfl mixed Tryz.func5 (by kernel_rfl) (by kernel_rfl) (by kernel_rfl) (by kernel_rfl) (fun A hA=>⟨pc_of (body:=loopOf Tryz.f5 0) (inner:=[]) E mixed hA (by kernel_rfl) (by kernel_rfl) (by kernel_rfl) trivial (fun _=>rfl) (fun _ _=>by kernel_rfl) N,trivial⟩) (fun _=>by kernel_rfl)
theorem C_laws_FnBlindWalks:Contract Tryz.prog 5 S_laws_FnBlindWalks:=Contract.less (fun N:Nat=>F_laws_FnBlindWalks N) C_laws_FnBlindWalks_raw lawBlind_lim
end Go.V.W
