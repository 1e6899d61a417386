/- What the law FnBlindWalks leans on, part 6: an interpreter of the model as plain data, its soundness, the functions as it tells them, and their laws. -/
import Derived.Laws.CopyOwn
import Derived.Deep.OwnRows
import Derived.Test.YtnieoolfkakmdaaGreatProg
import Derived.IntWalk
import Derived.Lib.Builder
import Derived.Test.YtnieoolfkakmdaaGreatVE
set_option linter.unusedVariables false
set_option linter.unusedSimpArgs false
set_option maxRecDepth 100000
namespace Go.V.W
theorem wrap_nat {m:Nat} (h:m<9223372036854775808):IntKind.wrap .i64 (m:Int)=(m:Int):=Go.IntWalk.i64_in _ (by omega)
theorem ofInt_nat (m:Nat):BitVec.ofInt 64 (m:Int)=BitVec.ofNat 64 m:=by simp
theorem bits_or {a b:Nat} (ha:a<256) (hb:b<256):bits .or .i64 (a:Int) (b:Int)=((a|||b:Nat):Int):=by
 have hab:a|||b<256:=Nat.or_lt_two_pow (n:=8) ha hb
 have e:(BitVec.ofInt IntKind.i64.bits (a:Int)|||BitVec.ofInt IntKind.i64.bits (b:Int)).toNat=a|||b:=by
  show (BitVec.ofInt 64 (a:Int)|||BitVec.ofInt 64 (b:Int)).toNat=a|||b
  rw [ofInt_nat,ofInt_nat,BitVec.toNat_or,BitVec.toNat_ofNat,BitVec.toNat_ofNat,Nat.mod_eq_of_lt (by omega),Nat.mod_eq_of_lt (by omega)]
 unfold bits bitI
 simp only [Option.getD_some]
 rw [e]
 exact wrap_nat (by omega)
theorem bits_and {a b:Nat} (ha:a<256) (hb:b<256):bits .and .i64 (a:Int) (b:Int)=((a&&&b:Nat):Int):=by
 have hab:a&&&b<=a:=Nat.and_le_left
 have e:(BitVec.ofInt IntKind.i64.bits (a:Int)&&&BitVec.ofInt IntKind.i64.bits (b:Int)).toNat=a&&&b:=by
  show (BitVec.ofInt 64 (a:Int)&&&BitVec.ofInt 64 (b:Int)).toNat=a&&&b
  rw [ofInt_nat,ofInt_nat,BitVec.toNat_and,BitVec.toNat_ofNat,BitVec.toNat_ofNat,Nat.mod_eq_of_lt (by omega),Nat.mod_eq_of_lt (by omega)]
 unfold bits bitI
 simp only [Option.getD_some]
 rw [e]
 exact wrap_nat (by omega)
theorem shl_one {y:Nat} (h:y<8):shl .i64 1 (y:Int)=((2 ^ y:Nat):Int):=by
 have:y=0\/y=1\/y=2\/y=3\/y=4\/y=5\/y=6\/y=7:=by omega
 rcases this with rfl | rfl | rfl | rfl | rfl | rfl | rfl | rfl<;>decide
theorem pow_small {y:Nat} (h:y<8):2 ^ y<256:=by
 have:y=0\/y=1\/y=2\/y=3\/y=4\/y=5\/y=6\/y=7:=by omega
 rcases this with rfl | rfl | rfl | rfl | rfl | rfl | rfl | rfl<;>decide
theorem shr_nat {m y:Nat} (h:y<8):shr .i64 (m:Int) (y:Int)=((m>>>y:Nat):Int):=by
 unfold shr
 have e:min (y:Int).toNat IntKind.i64.bits=y:=by
  show min (y:Int).toNat 64=y
  rw [Int.toNat_natCast]
  omega
 rw [e,Nat.shiftRight_eq_div_pow,Int.fdiv_eq_ediv_of_nonneg _ (by
  have:=Nat.two_pow_pos y
  exact_mod_cast Nat.zero_le (2 ^ y))]
 norm_cast
theorem has_bit {m y:Nat} (hm:m<256) (h:y<8):(bits .and .i64 (shr .i64 (m:Int) (y:Int)) 1==(1:Int))=m.testBit y:=by
 have h1:m>>>y<256:=by
  rw [Nat.shiftRight_eq_div_pow]
  exact Nat.lt_of_le_of_lt (Nat.div_le_self _ _) hm
 rw [shr_nat h]
 have:=bits_and h1 (show 1<256 by omega)
 rw [show ((1:Nat):Int)=1 from rfl] at this
 rw [this,Nat.testBit_eq_decide_div_mod_eq,Nat.shiftRight_eq_div_pow,Nat.and_one_is_mod]
 have:m / 2 ^ y % 2=0\/m / 2 ^ y % 2=1:=by omega
 rcases this with h | h<;>simp [h]
def okN (n:Nat) (ms:List Nat):Prop:=ms.length=n /\ ∀x,ms.getD x 0<256
theorem okN_zero (n:Nat):okN n (List.replicate n 0):=by
 refine ⟨by simp,fun x => ?_⟩
 simp only [List.getD_eq_getElem?_getD,List.getElem?_replicate]
 split<;>simp
theorem getD_set (ms:List Nat) (a x v:Nat) (h:a<ms.length):(ms.set a v).getD x 0=if x=a then v else ms.getD x 0:=by
 simp only [List.getD_eq_getElem?_getD,List.getElem?_set]
 by_cases e:x=a
 ·subst e;simp [h]
 ·simp [e,Ne.symm e]
theorem orN_ok {n:Nat} {ms:List Nat} (h:okN n ms) {a b:Nat} (ha:a<n) (hb:b<8):okN n (orN ms a b):=by
 refine ⟨by simp [orN,h.1],fun x => ?_⟩
 unfold orN
 rw [getD_set _ _ _ _ (by rw [h.1];exact ha)]
 split
 ·exact Nat.or_lt_two_pow (n:=8) (h.2 a) (pow_small hb)
 ·exact h.2 x
theorem orN_bit {n:Nat} {ms:List Nat} (h:okN n ms) {a b:Nat} (ha:a<n) (x y:Nat):((orN ms a b).getD x 0).testBit y=((ms.getD x 0).testBit y||(decide (x=a)&&decide (y=b))):=by
 unfold orN
 rw [getD_set _ _ _ _ (by rw [h.1];exact ha)]
 by_cases e:x=a
 ·subst e
  simp only [if_true,Nat.testBit_or,Nat.testBit_two_pow,decide_true,Bool.true_and]
  congr 1
  by_cases e:y=b
  ·simp [e]
  ·simp [e,Ne.symm e]
 ·simp [e]
theorem edgeB_nat {n:Nat} {e:E} (h:edgeB (n:Int) e=true):e.1.toNat<e.2.1.toNat/\e.2.1.toNat<n/\e.1=(e.1.toNat:Int)/\e.2.1=(e.2.1.toNat:Int):=by
 unfold edgeB at h
 simp only [Bool.and_eq_true,decide_eq_true_eq] at h
 omega
theorem addN_ok {n:Nat} {ms:List Nat} (hn:n<=8) (h:okN n ms) {e:E} (he:edgeB (n:Int) e=true):okN n (addN ms e):=by
 obtain ⟨h1,h2,_,_⟩:=edgeB_nat he
 exact orN_ok (orN_ok h (by omega) (by omega)) h2 (by omega)
def isE (e:E) (x y:Nat):Bool:=(decide (x=e.1.toNat)&&decide (y=e.2.1.toNat))||(decide (x=e.2.1.toNat)&&decide (y=e.1.toNat))
theorem foldN_ok {n:Nat} (hn:n<=8):∀(es:List E) (ms:List Nat),okN n ms->es.all (edgeB (n:Int))=true->okN n (es.foldl addN ms) /\ ∀x y,((es.foldl addN ms).getD x 0).testBit y=((ms.getD x 0).testBit y||es.any (fun e=>isE e x y)):=by
 intro es
 induction es with
 | nil=>intro ms h _;exact ⟨h,fun x y=>by simp⟩
 | cons e es ih=>
  intro ms h he
  simp only [List.all_cons,Bool.and_eq_true] at he
  obtain ⟨h1,h2,_,_⟩:=edgeB_nat he.1
  obtain ⟨k1,k2⟩:=ih (addN ms e) (addN_ok hn h he.1) he.2
  refine ⟨k1,fun x y => ?_⟩
  rw [List.foldl_cons,k2 x y]
  unfold addN
  rw [orN_bit (orN_ok h (show e.1.toNat<n by omega) (by omega)) h2,orN_bit h (show e.1.toNat<n by omega)]
  simp only [List.any_cons,isE,Bool.or_assoc]
theorem netN_ok {n:Nat} (hn:n<=8) {es:List E} (h:es.all (edgeB (n:Int))=true):okN n (netN n es):=(foldN_ok hn es _ (okN_zero n) h).1
theorem netN_bit {n:Nat} (hn:n<=8) {es:List E} (h:es.all (edgeB (n:Int))=true) (x y:Nat):hasN (netN n es) x y=es.any (fun e=>isE e x y):=by
 unfold hasN netN
 rw [(foldN_ok hn es _ (okN_zero n) h).2 x y]
 have:((List.replicate n 0).getD x 0).testBit y=false:=by
  simp only [List.getD_eq_getElem?_getD,List.getElem?_replicate]
  split<;>simp
 rw [this,Bool.false_or]
theorem toI_from (ms:List Nat):fromI (toI ms)=ms:=by
 unfold fromI toI
 rw [List.map_map]
 exact List.map_id' _
theorem at_toI (ms:List Nat) (x:Nat):at_ (.int .i64) (toI ms) x=((ms.getD x 0:Nat):Int):=by
 unfold at_ toI
 simp only [List.getD_eq_getElem?_getD,List.getElem?_map]
 cases ms[x]?<;>rfl
theorem toI_set (ms:List Nat) (x v:Nat):List.set (toI ms) x (v:Int)=toI (ms.set x v):=by
 simp [toI,List.map_set]
theorem toI_len (ms:List Nat):(toI ms).length=ms.length:=by simp [toI]
end Go.V.W
namespace Go.V
end Go.V
namespace Go.V.W
open Go.Proofs Go.RowKit
def val (a0 F:Nat->Value) (L:Nat->Bool) (t:Nat):Value:=if t=8 then (if L 9=true then F 9 else a0 8) else if 38<=t/\t<=46 then (if L (t-38)=true then F (t-38) else a0 t) else a0 t
def dstv (j:Nat):Nat:=if j=9 then 8 else 38+j
theorem val_step (a0 F:Nat->Value) (L:Nat->Bool) {j:Nat} (hj:j<=9) (t:Nat):(if t=dstv j then F j else val a0 F L t)=val a0 F (fun i=>L i||decide (i=j)) t:=by
  unfold val dstv
  by_cases e9:j=9
  · subst e9
    simp only [if_true]
    by_cases et:t=8
    · simp [et]
    · simp only [et,if_false]
      by_cases er:38<=t/\t<=46
      · have:¬t-38=9:=by omega
        simp [er,this]
      · simp [er]
  · simp only [e9,if_false]
    by_cases et:t=8
    · subst et
      have h1:¬8=38+j:=by omega
      have h2:¬(9=j):=fun h=>e9 h.symm
      simp [h1,h2]
    · simp only [et,if_false]
      by_cases er:38<=t/\t<=46
      · simp only [er,and_self,if_true]
        by_cases ej:t=38+j
        · subst ej
          simp
        · have:¬t-38=j:=by omega
          simp [ej,this]
      · have:¬t=38+j:=by omega
        simp [er,this]
def rowL (n m:Nat) (x z:Value):List Value:=List.replicate m x++List.replicate (n-m) z
theorem put_getD {a:Act} {d t:Nat} {v:Value} (hd:d<a.tmps.size):(a.put (some d) v).tmps.getD t undef=if t=d then v else a.tmps.getD t undef:=by
  unfold Act.put
  by_cases e:t=d
  · subst e
    simp [Array.getD_eq_getD_getElem?,hd]
  · have e':d≠t:=fun h=>e h.symm
    simp [Array.getD_eq_getD_getElem?,Array.getElem?_setIfInBounds_ne e',e]
/-- What is held of the listed operations. -/
structure Phi (a0 F:Nat->Value) (df:List Deferred) (sz g n m c B:Nat) (x z:Value) (T:TypeId) (w0:World) (L:Nat->Bool) (a:Act) (w:World):Prop where
  size:a.tmps.size=sz
  defers:a.defers=df
  tmps:∀t,a.tmps.getD t undef=val a0 F L t
  row:w.heap[g]? = some (.cells (rowL n (if L 7=true then m+c else m) x z).toArray T (0,0))
  below:Below B w0 w
theorem Phi.fin {P:Program} {Q:Exit->Act->World->Prop} {a0 F:Nat->Value} {df:List Deferred} {g n m c B:Nat} {x z:Value} {T:TypeId} {w0 w w':World} {L:Nat->Bool} {a:Act} (h:Phi a0 F df 48 g n m c B x z T w0 L a w) {j:Nat} (hj:j<=9) {o:Oper} (hd:o.dst=some (dstv j))
    (hrun:(execOp a.eval o).run P w=.ok (.value (F j)) w') (hrow:w'.heap[g]? = some (.cells (rowL n (if (L 7||decide (7=j))=true then m+c else m) x z).toArray T (0,0))) (hB:Below B w0 w')
    (K:Act->World->Prop) (hK:∀a' w',Phi a0 F df 48 g n m c B x z T w0 (fun i=>L i||decide (i=j)) a' w'->K a' w'):o.wp P a w K Q:=by
  refine wp_value hrun (hK _ _ ⟨?_,?_,fun t => ?_,hrow,hB⟩)
  · rw [hd]
    simp [Act.put,h.size]
  · rw [hd]
    exact h.defers
  · rw [hd,put_getD (by rw [h.size];unfold dstv;split<;>omega),h.tmps t]
    exact val_step a0 F L hj t
end Go.V.W
namespace Go.V.W
open Go.Proofs
theorem containsAny_any (c:List UInt8):∀l:List UInt8,Lib.containsAny l c=l.any fun b=>c.contains b:=by
 intro l
 induction l with
 | nil=>simp [Lib.containsAny,Lib.indexAny]
 | cons b l ih=>
  unfold Lib.containsAny at ih |-
  unfold Lib.indexAny
  rw [List.any_cons,<- ih]
  by_cases hb:c.contains b=true
  ·have hb':b∈c:=by simpa using hb
   simp [hb']
  ·simp only [Bool.not_eq_true] at hb
   rw [hb]
   simp only [Bool.false_eq_true,if_false,Bool.false_or]
   have:=Lib.indexAny_ge c l
   by_cases he:Lib.indexAny l c = -1
   ·simp [he]
   ·have e1:(Lib.indexAny l c == -1)=false:=by simpa using he
    rw [e1]
    simp only [Bool.false_eq_true,if_false]
    have e2:(0<=Lib.indexAny l c):=by omega
    have e3:(0<=Lib.indexAny l c+1):=by omega
    simp [e2,e3]
end Go.V.W
namespace Go.V.W
open Go.Proofs
def specB (a b:ByteArray):Bool := !seq_ a (⟨#[]⟩:ByteArray)&&((a.data.toList.all (fun b=>printed1 b && !(b.toNat==35))&&decide ((a.size:Int)<=160))&&(!(a.data.toList.any (fun b=>((b.toNat:Int)==64)))&&(b.data.toList.all (fun b=>printed1 b && !(b.toNat==35))&&decide ((b.size:Int)<=200))))
def implB (a b:ByteArray):Bool:=((decide ((a.size:Int)>=1)&&decide ((a.size:Int)<=160))&&(printedB a && !Lib.containsAny a.data.toList [35,64]))&&(decide ((b.size:Int)<=200)&&(printedB b && !Lib.containsAny b.data.toList [35]))
theorem all_not (l:List UInt8) (p q:UInt8->Bool):l.all (fun b=>p b && !q b)=(l.all p && !l.any q):=by
 induction l with
 | nil=>rfl
 | cons b l ih=>
  simp only [List.all_cons,List.any_cons,ih]
  cases p b<;>cases q b<;>cases l.all p<;>cases l.any q<;>rfl
theorem any_or (l:List UInt8) (p q:UInt8->Bool):l.any (fun b=>p b||q b)=(l.any p||l.any q):=by
 induction l with
 | nil=>rfl
 | cons b l ih=>
  simp only [List.any_cons,ih]
  cases p b<;>cases q b<;>cases l.any p<;>cases l.any q<;>rfl
theorem has35 (l:List UInt8):Lib.containsAny l [35]=l.any (fun b=>b.toNat==35):=by
 rw [containsAny_any]
 congr 1
 funext b
 simp only [List.contains_cons,List.contains_nil,Bool.or_false]
 rw [Bool.eq_iff_iff]
 simp only [beq_iff_eq]
 exact ⟨fun h=>by rw [h];rfl,fun h=>UInt8.toNat_inj.1 h⟩
theorem has3564 (l:List UInt8):Lib.containsAny l [35,64]=(l.any (fun b=>b.toNat==35)||l.any (fun b=>((b.toNat:Int)==64))):=by
 rw [containsAny_any,<- any_or]
 congr 1
 funext b
 simp only [List.contains_cons,List.contains_nil,Bool.or_false]
 rw [Bool.eq_iff_iff]
 simp only [Bool.or_eq_true,beq_iff_eq]
 constructor
 ·rintro (h | h)
  ·left;rw [h];rfl
  ·right;rw [h];rfl
 ·rintro (h | h)
  ·left;exact UInt8.toNat_inj.1 h
  ·right
   have h64:b.toNat=64:=by omega
   exact UInt8.toNat_inj.1 (by rw [h64];rfl)
theorem empty_size (a:ByteArray):seq_ a (⟨#[]⟩:ByteArray) = !decide ((a.size:Int)>=1):=by
 unfold seq_
 have h1:a.toList=a.data.toList:=Lib.toList_data a
 have h2:(⟨#[]⟩:ByteArray).toList=[]:=Lib.toList_data _
 have h3:a.data.toList.length=a.size:=by simp
 rw [h1,h2]
 cases hl:a.data.toList with
 | nil=>
  rw [hl] at h3
  simp only [List.length_nil] at h3
  simp [<- h3]
 | cons x l=>
  rw [hl] at h3
  simp only [List.length_cons] at h3
  have:decide ((a.size:Int)>=1)=true:=by simp;omega
  rw [this]
  rfl
theorem same (a b:ByteArray):specB a b=implB a b:=by
 unfold specB implB
 rw [empty_size,all_not,all_not,has35,has3564]
 unfold printedB
 cases decide ((a.size:Int)>=1)<;>cases a.data.toList.all printed1<;>cases a.data.toList.any (fun b=>b.toNat==35)<;>cases a.data.toList.any (fun b=>((b.toNat:Int)==64))<;>cases decide ((a.size:Int)<=160)<;>cases decide ((b.size:Int)<=200)<;>cases b.data.toList.all printed1<;>cases b.data.toList.any (fun b=>b.toNat==35)<;>rfl
end Go.V.W
namespace Go.V.W
open Go.Proofs
theorem lim_max {n:Nat} (h:n<=lim):n<=maxLen:=by unfold lim at h;unfold maxLen;omega
end Go.V.W
namespace Go.V.W
open Go.Proofs
def allB (p:Nat->Bool):Nat->Nat->Bool
 | 0,_=>true
 | m+1,i=>p i&&allB p m (i+1)
theorem allB_iff {p:Nat->Bool}:∀{m i:Nat},allB p m i=true ↔ ∀j,i<=j->j<i+m->p j=true:=by
 intro m
 induction m with
 | zero=>intro i;simp only [allB,true_iff];intro j h1 h2;omega
 | succ m ih=>
  intro i
  simp only [allB,Bool.and_eq_true,ih]
  constructor
  ·rintro ⟨h1,h2⟩ j h3 h4
   by_cases e:j=i
   ·subst e;exact h1
   ·exact h2 j (by omega) (by omega)
  ·intro h
   exact ⟨h i (Nat.le_refl _) (by omega),fun j h1 h2=>h j (by omega) (by omega)⟩
theorem loop_all {H O:Type} {L:Nat->H->Option O} {r:(H->Option O)->H->Option O} (hL:∀k d,L (k+1) d=r (L k) d) {n:Nat} {mk:Nat->H} {p:Nat->Bool} {o f:O}
  (hr:∀back i,i<n->r back (mk i)=if p i=true then back (mk (i+1)) else some o) (hf:∀back,r back (mk n)=some f) :
  ∀k i,i<=n->n<=i+k->L (k+1) (mk i)=some (if allB p (n-i) i=true then f else o):=by
 intro k
 induction k with
 | zero=>
  intro i h1 h2
  have e:i=n:=by omega
  subst e
  rw [hL,hf,Nat.sub_self]
  rfl
 | succ k ih=>
  intro i h1 h2
  by_cases h:i<n
  ·rw [hL,hr _ i h,show n-i=(n-(i+1))+1 by omega]
   simp only [allB]
   by_cases hp:p i=true
   ·simp only [hp,if_true,Bool.true_and]
    exact ih (i+1) (by omega) (by omega)
   ·simp only [Bool.not_eq_true] at hp
    simp only [hp,Bool.false_eq_true,if_false,Bool.false_and]
  ·have e:i=n:=by omega
   subst e
   rw [hL,hf,Nat.sub_self]
   rfl
theorem wrap_down {i:Nat} (h:0<i) (hn:i<=maxLen):IntKind.wrap .i64 ((i:Int)-1)=((i-1:Nat):Int):=by
 unfold maxLen at hn
 rw [Go.IntWalk.i64_in _ (by omega)]
 omega
theorem lt_dec {i n:Nat} (h:i<n):decide ((i:Int)<(n:Int))=true:=by simp;omega
theorem lt_not (n:Nat):decide ((n:Int)<(n:Int))=false:=by simp
theorem pos_dec {i:Nat}:decide ((i:Int)>(0:Int))=decide (0<i):=by simp
theorem bool_eq_iff {a b:Bool} (h:a=true↔b=true):a=b:=by cases a<;>cases b<;>simp_all
theorem all_at {e:Kd} (l:List e.den) (q:e.den->Bool):allB (fun i=>q (at_ e l i)) l.length 0=l.all q:=by
 apply bool_eq_iff
 rw [allB_iff,List.all_eq_true]
 constructor
 ·intro h x hx
  obtain ⟨i,hi,rfl⟩:=List.getElem_of_mem hx
  have:=h i (by omega) (by omega)
  rw [at_get hi] at this
  exact this
 ·intro h j _ hj
  have hj:j<l.length:=by omega
  rw [at_get hj]
  exact h _ (List.getElem_mem hj)
theorem risingE_iff:∀l:List E,risingE l=true ↔ ∀j,0<j->j<l.length->lessE (at_ K_Piiq l (j-1)) (at_ K_Piiq l j)=true:=by
 intro l
 induction l with
 | nil=>simp only [risingE,true_iff];intro j _ h;exact absurd h (by simp)
 | cons a l ih=>
  cases l with
  | nil=>simp only [risingE,true_iff];intro j h1 h2;simp only [List.length_cons,List.length_nil] at h2;omega
  | cons b l=>
   simp only [risingE,Bool.and_eq_true,ih]
   constructor
   ·rintro ⟨h1,h2⟩ j h3 h4
    by_cases e:j=1
    ·subst e;exact h1
    ·have:=h2 (j-1) (by omega) (by simp only [List.length_cons] at h4 |-;omega)
     obtain ⟨k,rfl⟩:∃k,j=k+2:=⟨j-2,by omega⟩
     exact this
   ·intro h
    refine ⟨h 1 (by omega) (by simp),fun j h1 h2 => ?_⟩
    have:=h (j+1) (by omega) (by simp only [List.length_cons] at h2 |-;omega)
    obtain ⟨k,rfl⟩:∃k,j=k+1:=⟨j-1,by omega⟩
    exact this
theorem l1In_eq (x lo hi:Int) (u:Unit):g_spec_l1In (x,lo,hi,u)=(inB lo hi x,()):=by
 unfold g_spec_l1In inB
 by_cases h:lo<=x<;>simp [h]
theorem within_eq (x lo hi:Int) (u:Unit):g_q79q (x,lo,hi,u)=(inB lo hi x,()):=by
 unfold g_q79q inB
 by_cases h:lo<=x<;>simp [h]
theorem l2Before_eq (a b:E) (u:Unit):g_q51q (a,b,u)=(lessE a b,()):=by
 obtain ⟨a1,a2,_⟩:=a
 obtain ⟨b1,b2,_⟩:=b
 unfold g_q51q lessE
 by_cases h:a1<b1
 ·simp [h]
 ·by_cases h2:a1=b1<;>simp [h,h2]
theorem cmpI_eq (a b:Int) (u:Unit):g_q30q (a,b,u)=(if a<b then -1 else if b<a then 1 else 0,()):=by
 unfold g_q30q g_q48q
 by_cases h:a<b
 ·simp [h]
 ·by_cases h2:b<a<;>simp [h,h2]
theorem allWithin_lim (d) (r) (h:G_allWithin d=some r):∃N,F_q41q N d=some r:=by
 obtain ⟨l,lo,hi,_⟩:=d
 unfold G_allWithin at h
 split at h
 ·rename_i hl
  have hl:l.length<=lim:=of_decide_eq_true hl
  have hmx:=lim_max hl
  have h:=Option.some.inj h
  subst h
  refine ⟨l.length+1,?_⟩
  unfold F_q41q
  have:=loop_all (L:=q41q_l0 (l.length+1)) (r:=q41q_l0_r (l.length+1)) (fun _ _=>rfl) (n:=l.length) (mk:=fun i=>(lo,hi,l,(l.length:Int),(i:Int),())) (p:=fun i=>inB lo hi (at_ I l i)) (o:=.inl (false,())) (f:=.inr (.inl ()))
   (by
    intro back i hi'
    unfold q41q_l0_r
    simp only [lt_dec hi',if_true,idxIn_nat hi',Int.toNat_natCast,wrap_up hi' hmx,within_eq]
    cases hb:inB lo hi (at_ I l i)<;>rfl)
   (by intro back;unfold q41q_l0_r;simp only [lt_not,Bool.false_eq_true,if_false]) l.length 0 (by omega) (by omega)
  simp only [Int.natCast_zero] at this
  simp only [this,Nat.sub_zero,all_at (e:=I) l (inB lo hi)]
  cases (l.all (inB lo hi))<;>rfl
 ·cases h
def cmpW:List Int->List Int->Option Int
 | [],_=>none
 | _::_,[]=>some 1
 | a::l,b::m=>if a<b then some (-1) else if b<a then some 1 else cmpW l m
theorem cmpL_W:∀l m:List Int,cmpL l m=match cmpW l m with
  | some r=>r
  | none=>if l.length<m.length then -1 else 0:=by
 intro l
 induction l with
 | nil=>intro m;cases m<;>simp [cmpL,cmpW]
 | cons a l ih=>
  intro m
  cases m with
  | nil=>simp [cmpL,cmpW]
  | cons b m=>
   simp only [cmpL,cmpW]
   by_cases ha:a<b
   ·simp [ha]
   ·by_cases hb:b<a
    ·simp [ha,hb]
    ·simp only [ha,hb,if_false,ih m,List.length_cons,Nat.add_lt_add_iff_right]
theorem compare_l0 (N:Nat) (l m:List Int) (hl:l.length<=lim) (hm:m.length<=lim):∀n i,l.length<=i+n->i<=l.length->i<=m.length->q6q_l0 N (n+1) (l,m,l,(l.length:Int),(i:Int),()) = 
  match cmpW (l.drop i) (m.drop i) with
  | some r=>some (.inl (r,()))
  | none=>some (.inr (.inl (l,m,()))):=by
 have hmx:=lim_max hl
 intro n
 induction n with
 | zero=>
  intro i h1 h2 h3
  have e:i=l.length:=by omega
  subst e
  rw [List.drop_of_length_le (Nat.le_refl l.length)]
  simp [q6q_l0,q6q_l0_r,cmpW]
 | succ n ih=>
  intro i h1 h2 h3
  by_cases hi:i<l.length
  ·show q6q_l0_r N (q6q_l0 N (n+1)) (l,m,l,(l.length:Int),(i:Int),())=_
   unfold q6q_l0_r
   simp only [lt_dec hi,if_true,idxIn_nat hi,Int.toNat_natCast,wrap_up hi hmx]
   rw [List.drop_eq_getElem_cons hi]
   by_cases hi':i<m.length
   ·have hge:decide ((i:Int)>=(m.length:Int))=false:=by simp;omega
    rw [List.drop_eq_getElem_cons hi']
    simp only [hge,Bool.false_eq_true,if_false,idxIn_nat hi',if_true,cmpI_eq,at_get (e:=I) hi,at_get (e:=I) (l:=m) hi',List.get_eq_getElem,cmpW]
    by_cases ha:l[i]<m[i]
    ·simp [ha]
    ·by_cases hb:m[i]<l[i]
     ·simp [ha,hb]
     ·simp only [ha,hb,if_false,bne_self_eq_false,Bool.false_eq_true]
      exact ih (i+1) (by omega) (by omega) (by omega)
   ·have hge:decide ((i:Int)>=(m.length:Int))=true:=by simp;omega
    rw [List.drop_of_length_le (Nat.le_of_not_lt hi')]
    simp only [hge,if_true,cmpW]
  ·have e:i=l.length:=by omega
   subst e
   rw [List.drop_of_length_le (Nat.le_refl l.length)]
   simp [q6q_l0,q6q_l0_r,cmpW]
theorem compare_lim (d) (r) (h:G_compare d=some r):∃N,F_q6q N d=some r:=by
 obtain ⟨l,m,_⟩:=d
 unfold G_compare at h
 split at h
 ·rename_i hl
  simp only [Bool.and_eq_true] at hl
  have hm:m.length<=lim:=of_decide_eq_true hl.2
  have hl:l.length<=lim:=of_decide_eq_true hl.1
  have h:=Option.some.inj h
  subst h
  refine ⟨l.length+1,?_⟩
  unfold F_q6q
  have:=compare_l0 (l.length+1) l m hl hm l.length 0 (by omega) (by omega) (by omega)
  simp only [Int.natCast_zero,List.drop_zero] at this
  simp only [this,cmpL_W]
  cases cmpW l m with
  | some r=>rfl
  | none=>
   by_cases hlt:l.length<m.length
   ·have:decide ((l.length:Int)<(m.length:Int))=true:=by simp;omega
    simp only [Option.bind_some,this,if_true,hlt]
   ·have:decide ((l.length:Int)<(m.length:Int))=false:=by simp;omega
    simp only [Option.bind_some,this,Bool.false_eq_true,if_false,hlt]
 ·cases h
theorem graph_allB (n:Int) (l:List E):allB (fun i=>edgeB n (at_ K_Piiq l i)&&(!decide (0<i)||lessE (at_ K_Piiq l (i-1)) (at_ K_Piiq l i))) l.length 0=(l.all (edgeB n)&&risingE l):=by
 rw [<- all_at (e:=K_Piiq) l (edgeB n)]
 apply bool_eq_iff
 rw [Bool.and_eq_true,allB_iff,allB_iff,risingE_iff]
 simp only [Bool.and_eq_true,Bool.or_eq_true,Bool.not_eq_true',decide_eq_false_iff_not]
 constructor
 ·intro h
  exact ⟨fun j h1 h2=>(h j h1 h2).1,fun j h1 h2=>((h j (by omega) (by omega)).2).resolve_left (by omega)⟩
 ·rintro ⟨h1,h2⟩ j h3 h4
  refine ⟨h1 j h3 h4,?_⟩
  by_cases h0:0<j
  ·exact .inr (h2 j h0 (by omega))
  ·exact .inl h0
theorem cmp2 (a b:E):decide (cmpL [a.1,a.2.1] [b.1,b.2.1]>=0) = !lessE a b:=by
 obtain ⟨a1,a2,_⟩:=a
 obtain ⟨b1,b2,_⟩:=b
 simp only [cmpL,lessE]
 by_cases h1:a1<b1
 ·simp [h1]
 ·by_cases h2:b1<a1
  ·have:¬a1=b1:=by omega
   simp [h1,h2,this]
  ·have e:a1=b1:=by omega
   subst e
   by_cases h3:a2<b2
   ·simp [h3]
   ·by_cases h4:b2<a2<;>simp [h3,h4]
theorem edge_eq (n a b:Int):(inB 0 (n-1) a&&inB 0 (n-1) b&&decide (a<b))=(decide (0<=a)&&decide (a<b)&&decide (b<n)):=by
 apply bool_eq_iff
 simp only [inB,Bool.and_eq_true,decide_eq_true_eq]
 omega
theorem okL2 (a b:Int):okL [a,b]=true:=decide_eq_true (show 2<=lim by unfold lim;omega)
theorem IsGraph_lim (d) (r) (h:G_graph d=some r):∃N,F_q65q N d=some r:=by
 obtain ⟨⟨n,l,u⟩,_⟩:=d
 unfold G_graph at h
 split at h
 ·rename_i hl
  have hl:l.length<=lim:=of_decide_eq_true hl
  have hmx:=lim_max hl
  have h:=Option.some.inj h
  subst h
  refine ⟨l.length+1,?_⟩
  unfold F_q65q
  simp only [within_eq,graphB]
  cases hn:inB 0 8 n with
  | false=>
   simp only [inB] at hn
   simp only [Bool.not_false,if_true,hn,Bool.false_and]
  | true=>
   have hn':=hn
   simp only [inB] at hn'
   simp only [Bool.not_true,Bool.false_eq_true,if_false,hn',Bool.true_and]
   have:=loop_all (L:=q65q_l0 (l.length+1)) (r:=q65q_l0_r (l.length+1)) (fun _ _=>rfl) (n:=l.length) (mk:=fun i=>((n,l,u),l,(l.length:Int),(i:Int),())) (p:=fun i=>edgeB n (at_ K_Piiq l i)&&(!decide (0<i)||lessE (at_ K_Piiq l (i-1)) (at_ K_Piiq l i))) (o:=.inl (false,())) (f:=.inr (.inl ()))
    (by
     intro back i hi
     unfold q65q_l0_r
     simp only [lt_dec hi,if_true,idxIn_nat hi,Int.toNat_natCast,wrap_up hi hmx,pos_dec]
     by_cases c1:(at_ K_Piiq l i).1<0
     ·have c1':¬(0<=(at_ K_Piiq l i).1):=Int.not_le.2 c1
      simp only [c1,decide_true,if_true,edgeB,c1',decide_false,Bool.false_and,Bool.false_eq_true,if_false]
     ·have c1':(0<=(at_ K_Piiq l i).1):=Int.not_lt.1 c1
      by_cases c2:(at_ K_Piiq l i).1<(at_ K_Piiq l i).2.1
      ·have c2':¬((at_ K_Piiq l i).1>=(at_ K_Piiq l i).2.1):=Int.not_le.2 c2
       by_cases c3:(at_ K_Piiq l i).2.1<n
       ·have c3':¬((at_ K_Piiq l i).2.1>=n):=Int.not_le.2 c3
        by_cases h0:0<i
        ·have h1:i-1<l.length:=by omega
         simp only [c1,c1',c2,c2',c3,c3',edgeB,decide_true,decide_false,if_true,if_false,Bool.false_eq_true,Bool.true_and,h0,wrap_down h0 (show i<=maxLen by omega),idxIn_nat h1,Int.toNat_natCast,Bool.not_true,Bool.false_or,G_compare,okL2,Option.bind_some,cmp2]
         cases lessE (at_ K_Piiq l (i-1)) (at_ K_Piiq l i)<;>rfl
        ·simp only [c1,c1',c2,c2',c3,c3',edgeB,decide_true,decide_false,if_true,if_false,Bool.false_eq_true,Bool.true_and,h0,Bool.not_false,Bool.true_or]
       ·have c3':((at_ K_Piiq l i).2.1>=n):=Int.not_lt.1 c3
        simp only [c1,c1',c2,c2',c3,c3',edgeB,decide_true,decide_false,if_true,if_false,Bool.false_eq_true,Bool.and_false,Bool.false_and]
      ·have c2':((at_ K_Piiq l i).1>=(at_ K_Piiq l i).2.1):=Int.not_lt.1 c2
       simp only [c1,c1',c2,c2',edgeB,decide_true,decide_false,if_true,if_false,Bool.false_eq_true,Bool.and_false,Bool.false_and])
    (by intro back;unfold q65q_l0_r;simp only [lt_not,Bool.false_eq_true,if_false]) l.length 0 (by omega) (by omega)
   simp only [Int.natCast_zero] at this
   simp only [this,Nat.sub_zero,graph_allB]
   cases (l.all (edgeB n)&&risingE l)<;>rfl
 ·cases h
theorem l2Good_lim (d) (r) (h:G_graph d=some r):∃N,F_q83q N d=some r:=by
 obtain ⟨⟨n,l,u⟩,_⟩:=d
 unfold G_graph at h
 split at h
 ·rename_i hl
  have hl:l.length<=lim:=of_decide_eq_true hl
  have hmx:=lim_max hl
  have h:=Option.some.inj h
  subst h
  refine ⟨l.length+1,?_⟩
  unfold F_q83q
  have:=loop_all (L:=q83q_l0 (l.length+1)) (r:=q83q_l0_r (l.length+1)) (fun _ _=>rfl) (n:=l.length) (mk:=fun i=>((n,l,u),(i:Int),())) (p:=fun i=>(inB 0 (IntKind.wrap .i64 (n-1)) (at_ K_Piiq l i).1&&inB 0 (IntKind.wrap .i64 (n-1)) (at_ K_Piiq l i).2.1&&decide ((at_ K_Piiq l i).1<(at_ K_Piiq l i).2.1))&&(!decide (0<i)||lessE (at_ K_Piiq l (i-1)) (at_ K_Piiq l i))) (o:=.inl (false,())) (f:=.inr (.inl ((n,l,u),())))
    (by
     intro back i hi
     unfold q83q_l0_r
     simp only [lt_dec hi,if_true,idxIn_nat hi,Int.toNat_natCast,wrap_up hi hmx,pos_dec,l1In_eq,l2Before_eq]
     cases c1:inB 0 (IntKind.wrap .i64 (n-1)) (at_ K_Piiq l i).1 with
     | false=>rfl
     | true=>
      cases c2:inB 0 (IntKind.wrap .i64 (n-1)) (at_ K_Piiq l i).2.1 with
      | false=>rfl
      | true=>
       by_cases c3:(at_ K_Piiq l i).1<(at_ K_Piiq l i).2.1
       ·have c3':¬((at_ K_Piiq l i).1>=(at_ K_Piiq l i).2.1):=Int.not_le.2 c3
        by_cases h0:0<i
        ·have h1:i-1<l.length:=by omega
         simp only [c3,c3',decide_true,decide_false,if_true,if_false,Bool.false_eq_true,Bool.true_and,h0,wrap_down h0 (show i<=maxLen by omega),idxIn_nat h1,Int.toNat_natCast,Bool.not_true,Bool.false_or]
         cases lessE (at_ K_Piiq l (i-1)) (at_ K_Piiq l i)<;>rfl
        ·simp only [c3,c3',decide_true,decide_false,if_true,if_false,Bool.false_eq_true,Bool.true_and,h0,Bool.not_false,Bool.true_or,Bool.not_true]
       ·have c3':((at_ K_Piiq l i).1>=(at_ K_Piiq l i).2.1):=Int.not_lt.1 c3
        simp only [c3,c3',decide_true,decide_false,if_true,if_false,Bool.false_eq_true,Bool.true_and,Bool.false_and,Bool.not_true])
    (by intro back;unfold q83q_l0_r;simp only [lt_not,Bool.false_eq_true,if_false]) l.length 0 (by omega) (by omega)
  simp only [Int.natCast_zero] at this
  simp only [this,Nat.sub_zero,graphB]
  cases hn:inB 0 8 n with
  | false=>
   have hn':=hn
   simp only [inB] at hn'
   simp only [hn',Bool.false_and]
   split<;>simp [l1In_eq,hn]
  | true=>
   have hn':=hn
   simp only [inB] at hn'
   simp only [hn',Bool.true_and]
   simp only [Bool.and_eq_true,decide_eq_true_eq] at hn'
   have hw:IntKind.wrap .i64 (n-1)=n-1:=wrap_in _ (by omega) (by omega)
   have hp:(fun i=>(inB 0 (IntKind.wrap .i64 (n-1)) (at_ K_Piiq l i).1&&inB 0 (IntKind.wrap .i64 (n-1)) (at_ K_Piiq l i).2.1&&decide ((at_ K_Piiq l i).1<(at_ K_Piiq l i).2.1))&&(!decide (0<i)||lessE (at_ K_Piiq l (i-1)) (at_ K_Piiq l i)))=(fun i=>edgeB n (at_ K_Piiq l i)&&(!decide (0<i)||lessE (at_ K_Piiq l (i-1)) (at_ K_Piiq l i))):=by
    funext i
    congr 1
    rw [hw]
    exact edge_eq n _ _
   simp only [hp,graph_allB]
   cases (l.all (edgeB n)&&risingE l)<;>simp [l1In_eq,hn]
 ·cases h
end Go.V.W
namespace Go.V.W
open Go.Proofs
theorem okL_of {α:Type} {l:List α} (h:l.length<=1048576):okL l=true:=decide_eq_true (by unfold lim;omega)
theorem graphB_n {n:Int} {l:List E} {u:Unit} (h:graphB (n,l,u)=true):0<=n/\n<=8:=by
 unfold graphB at h
 simp only [Bool.and_eq_true,decide_eq_true_eq] at h
 exact ⟨h.1.1.1,h.1.1.2⟩
end Go.V.W
namespace Go.V.W
open Go.Proofs
theorem okL_lim {α:Type} {l:List α} (h:okL l=true):l.length<=lim:=of_decide_eq_true h
end Go.V.W
namespace Go.V.W
open Go.Proofs
theorem all_at_of {e:Kd} {l:List e.den} {q:e.den->Bool} (h:l.all q=true) {i:Nat} (hi:i<l.length):q (at_ e l i)=true:=by
 rw [at_get hi]
 exact List.all_eq_true.1 h _ (List.get_mem l ⟨i,hi⟩)
theorem loop_idx {H O:Type} {L:Nat->H->Option O} {r:(H->Option O)->H->Option O} (hL:∀k d,L (k+1) d=r (L k) d) {e:Kd} (l:List e.den) {mk:Nat->H} {q:e.den->Bool} {o:Nat->O} {f:O}
  (hr:∀back i,i<l.length->r back (mk i)=if q (at_ e l i)=true then some (o i) else back (mk (i+1))) (hf:∀back,r back (mk l.length)=some f) :
  ∀k i,i<=l.length->l.length<=i+k->L (k+1) (mk i)=some (match idxN q (l.drop i) i with | some j=>o j | none=>f):=by
 intro k
 induction k with
 | zero=>
  intro i h1 h2
  have e:i=l.length:=by omega
  subst e
  rw [hL,hf,List.drop_of_length_le (Nat.le_refl _)]
  rfl
 | succ k ih=>
  intro i h1 h2
  by_cases h:i<l.length
  ·rw [hL,hr _ i h,List.drop_eq_getElem_cons h]
   simp only [idxN]
   have e:at_ e l i=l[i]:=at_get h
   rw [e]
   by_cases hq:q l[i]=true
   ·simp only [hq,if_true]
   ·simp only [hq,if_false]
    exact ih (i+1) (by omega) (by omega)
  ·have e:i=l.length:=by omega
   subst e
   rw [hL,hf,List.drop_of_length_le (Nat.le_refl _)]
   rfl
theorem idxI_ge {α:Type} (q:α->Bool):∀(l:List α) (i:Nat),decide (idxI (idxN q l i)>=0)=l.any q:=by
 intro l
 induction l with
 | nil=>intro i;rfl
 | cons x l ih=>
  intro i
  simp only [idxN,List.any_cons]
  by_cases h:q x=true
  ·simp [h,idxI]
  ·have h':q x=false:=by simpa using h
   simp only [h,if_false,h',Bool.false_or,ih]
   exact ih (i+1)
theorem okLL_of {l:List (List Int)} (h:okLL l=true):okL l=true/\l.all okL=true:=by
 unfold okLL at h
 simpa only [Bool.and_eq_true] using h
theorem okLL_small {l:List (List Int)} (h1:l.length<=1048576) (h2:l.all (fun x=>decide (x.length<=1048576))=true):okLL l=true:=by
 unfold okLL
 rw [Bool.and_eq_true]
 exact ⟨okL_of h1,List.all_eq_true.2 fun x hx=>okL_of (of_decide_eq_true (List.all_eq_true.1 h2 x hx))⟩
end Go.V.W
namespace Go.V.W
open Go.Proofs
theorem edge_nat {n:Nat} {e:E} (h:edgeB (n:Int) e=true):∃a b:Nat,a<b/\b<n/\e=((a:Int),(b:Int),()):=by
 obtain ⟨h1,h2,h3,h4⟩:=edgeB_nat h
 exact ⟨_,_,h1,h2,by rw [<- h3,<- h4]⟩
theorem toI_zero (n:Nat):List.replicate n (0:Int)=toI (List.replicate n 0):=by simp [toI]
theorem nonneg_dec (y:Nat):decide (0<=(y:Int))=true:=by simp
theorem netOf_l0 (N:Nat) (n:Nat) (hn:n<=8) (z:Nt) (u:Unit) (es:List E) (hl:es.length<=lim) (he:es.all (edgeB (n:Int))=true):∀k j (ms:List Nat),okN n ms->es.length<=j+k->j<=es.length ->
  impl_netOf_l0 N (k+1) (z,(toI ms,u),es,(es.length:Int),(j:Int),())=some (.inl (z,(toI ((es.drop j).foldl addN ms),u),())):=by
 intro k
 induction k with
 | zero=>
  intro j ms hm h1 h2
  have e:j=es.length:=by omega
  subst e
  rw [List.drop_of_length_le (Nat.le_refl _)]
  simp [impl_netOf_l0,impl_netOf_l0_r]
 | succ k ih=>
  intro j ms hm h1 h2
  by_cases hj:j<es.length
  ·have hee:edgeB (n:Int) (at_ K_Piiq es j)=true:=all_at_of (e:=K_Piiq) he hj
   have hat:at_ K_Piiq es j=es[j]:=at_get (e:=K_Piiq) hj
   obtain ⟨a,b,hab,hb,hx⟩:=edge_nat hee
   have k1:=addN_ok hn hm hee
   have ha8:a<8:=by omega
   have hb8:b<8:=by omega
   have o1:=orN_ok hm (show a<n by omega) hb8
   show impl_netOf_l0_r N (impl_netOf_l0 N (k+1)) (z,(toI ms,u),es,(es.length:Int),(j:Int),())=_
   unfold impl_netOf_l0_r
   have i1:idxIn (a:Int) ms.length=true:=idxIn_nat (by rw [hm.1];omega)
   have i2:idxIn (b:Int) ms.length=true:=idxIn_nat (by rw [hm.1];omega)
   have p1:=pow_small hb8
   have p2:=pow_small ha8
   simp only [lt_dec hj,if_true,idxIn_nat hj,Int.toNat_natCast,wrap_up hj (lim_max hl),hx,toI_len,i1,i2,nonneg_dec,shl_one hb8,shl_one ha8,at_toI,bits_or (hm.2 a) p1,toI_set,List.length_set]
   have hb2:(ms.set a (ms.getD a 0|||2 ^ b)).getD b 0<256:=o1.2 b
   simp only [bits_or hb2 p2,toI_set]
   rw [List.drop_eq_getElem_cons hj,List.foldl_cons,<- hat,hx]
   have hadd:addN ms ((a:Int),(b:Int),())=(ms.set a (ms.getD a 0|||2 ^ b)).set b ((ms.set a (ms.getD a 0|||2 ^ b)).getD b 0|||2 ^ a):=by
    simp only [addN,orN,Int.toNat_natCast]
   rw [hx] at k1
   rw [hadd] at k1 |-
   exact ih (j+1) _ k1 (by omega) (by omega)
  ·have e:j=es.length:=by omega
   subst e
   rw [List.drop_of_length_le (Nat.le_refl _)]
   simp [impl_netOf_l0,impl_netOf_l0_r]
theorem netOf_lim (d) (r) (h:G_netOf d=some r):∃N,F_impl_netOf N d=some r:=by
 obtain ⟨⟨n,es,u⟩,w⟩:=d
 unfold G_netOf at h
 split at h
 ·rename_i hc
  simp only [Bool.and_eq_true,decide_eq_true_eq] at hc
  obtain ⟨⟨⟨h0,h8⟩,hl⟩,he⟩:=hc
  have h:=Option.some.inj h
  subst h
  obtain ⟨m,rfl⟩:∃m:Nat,n=(m:Int):=⟨n.toNat,by omega⟩
  have hm8:m<=8:=by omega
  refine ⟨es.length+1,?_⟩
  unfold F_impl_netOf
  have hc:(decide (0<=(m:Int))&&decide ((m:Int)<=(m:Int))&&decide ((m:Int)<=(lim:Int)))=true:=by
   have a1:(m:Int)<=(lim:Int):=by unfold lim;omega
   simp only [a1,nonneg_dec,decide_true,Bool.and_self,Int.le_refl]
  have:=netOf_l0 (es.length+1) m hm8 (([]:List Int),()) () es (okL_lim hl) he es.length 0 _ (okN_zero m) (by omega) (by omega)
  simp only [Int.natCast_zero,List.drop_zero] at this
  simp only [hc,if_true,Int.toNat_natCast,toI_zero,this,Option.bind_some]
  rfl
 ·cases h
theorem l1Has_lim (d) (r) (h:G_l1Has d=some r):∃N,F_spec_l1Has N d=some r:=by
 obtain ⟨l,x,_⟩:=d
 unfold G_l1Has at h
 split at h
 ·rename_i hl
  have hl:l.length<=lim:=okL_lim hl
  have h:=Option.some.inj h
  subst h
  refine ⟨l.length+1,?_⟩
  unfold F_spec_l1Has
  have:=loop_idx (L:=spec_l1Has_l0 (l.length+1)) (r:=spec_l1Has_l0_r (l.length+1)) (fun _ _=>rfl) (e:=I) l (mk:=fun i=>(l,x,(i:Int),())) (q:=fun y=>y==x) (o:=fun _=>.inl (true,())) (f:=.inr (.inl ()))
   (by
    intro back i hi
    unfold spec_l1Has_l0_r
    simp only [lt_dec hi,if_true,idxIn_nat hi,Int.toNat_natCast,wrap_up hi (lim_max hl)])
   (by intro back;unfold spec_l1Has_l0_r;simp only [lt_not,Bool.false_eq_true,if_false]) l.length 0 (by omega) (by omega)
  simp only [Int.natCast_zero,List.drop_zero] at this
  have hge:=idxI_ge (fun y=>y==x) l 0
  simp only [this,Option.bind_some,<- hge]
  cases idxN (fun y=>y==x) l 0 with
  | none=>rfl
  | some j=>simp [idxI]
 ·cases h
theorem index_lim (d) (r) (h:G_index d=some r):∃N,F_q10q N d=some r:=by
 obtain ⟨l,x,_⟩:=d
 unfold G_index at h
 split at h
 ·rename_i hl
  have hl:l.length<=lim:=okL_lim hl
  have h:=Option.some.inj h
  subst h
  refine ⟨l.length+1,?_⟩
  unfold F_q10q
  have:=loop_idx (L:=q10q_l0 (l.length+1)) (r:=q10q_l0_r (l.length+1)) (fun _ _=>rfl) (e:=I) l (mk:=fun i=>(l,x,(l.length:Int),(i:Int),())) (q:=fun y=>x==y) (o:=fun i=>.inl ((i:Int),())) (f:=.inr (.inl ()))
   (by
    intro back i hi
    unfold q10q_l0_r
    simp only [lt_dec hi,if_true,idxIn_nat hi,Int.toNat_natCast,wrap_up hi (lim_max hl)])
   (by intro back;unfold q10q_l0_r;simp only [lt_not,Bool.false_eq_true,if_false]) l.length 0 (by omega) (by omega)
  simp only [Int.natCast_zero,List.drop_zero] at this
  simp only [this,Option.bind_some]
  cases idxN (fun y=>x==y) l 0<;>rfl
 ·cases h
theorem inB_iff {lo hi x:Int}:inB lo hi x=true↔lo<=x/\x<=hi:=by simp [inB]
theorem graphB_edges {n:Int} {l:List E} {u:Unit} (h:graphB (n,l,u)=true):l.all (edgeB n)=true/\risingE l=true:=by
 unfold graphB at h
 simp only [Bool.and_eq_true] at h
 exact ⟨h.1.2,h.2⟩
end Go.V.W
namespace Go.V.W
open Go.Proofs
theorem smallN_nat {l:List Int} (h:smallN l=true):l=toI (fromI l)/\okN l.length (fromI l)/\l.length<=8:=by
 unfold smallN at h
 simp only [Bool.and_eq_true,decide_eq_true_eq,List.all_eq_true] at h
 refine ⟨?_,⟨by simp [fromI],fun x => ?_⟩,h.1⟩
 ·unfold toI fromI
  rw [List.map_map]
  have:∀m∈l,((fun m:Nat=>(m:Int))∘Int.toNat) m=m:=fun m hm=>by
   have:=h.2 m hm
   simp only [Function.comp]
   omega
  exact (List.map_congr_left this).trans (List.map_id' l) |>.symm
 ·unfold fromI
  simp only [List.getD_eq_getElem?_getD,List.getElem?_map]
  cases hx:l[x]? with
  | none=>simp
  | some m=>
   have:=h.2 m (List.mem_of_getElem? hx)
   simp only [Option.map_some,Option.getD_some]
   omega
end Go.V.W
namespace Go.V.W
theorem setF_congr {p q:Nat->Bool}:∀{k x:Nat},(∀y,x<=y->y<x+k->p y=q y)->setF p k x=setF q k x:=by
 intro k
 induction k with
 | zero=>intro x _;rfl
 | succ k ih=>
  intro x h
  simp only [setF,h x (Nat.le_refl _) (by omega),ih (x:=x+1) fun y h1 h2=>h y (by omega) (by omega)]
theorem setF_mem {p:Nat->Bool}:∀{k x:Nat} {z:Int},z∈setF p k x ↔ ∃y:Nat,x<=y/\y<x+k/\p y=true/\z=(y:Int):=by
 intro k
 induction k with
 | zero=>intro x z;simp only [setF,List.not_mem_nil,false_iff];rintro ⟨y,h1,h2,_⟩;omega
 | succ k ih=>
  intro x z
  unfold setF
  by_cases h:p x=true
  ·rw [if_pos h,List.mem_cons,ih]
   constructor
   ·rintro (rfl | ⟨y,h1,h2,h3,h4⟩)
    ·exact ⟨x,Nat.le_refl _,by omega,h,rfl⟩
    ·exact ⟨y,by omega,by omega,h3,h4⟩
   ·rintro ⟨y,h1,h2,h3,h4⟩
    by_cases e:y=x
    ·subst e;exact .inl h4
    ·exact .inr ⟨y,by omega,by omega,h3,h4⟩
  ·rw [if_neg h,ih]
   constructor
   ·rintro ⟨y,h1,h2,h3,h4⟩
    exact ⟨y,by omega,by omega,h3,h4⟩
   ·rintro ⟨y,h1,h2,h3,h4⟩
    by_cases e:y=x
    ·subst e;exact absurd h3 h
    ·exact ⟨y,by omega,by omega,h3,h4⟩
theorem setF_len {p:Nat->Bool}:∀{k x:Nat},(setF p k x).length<=k:=by
 intro k
 induction k with
 | zero=>intro x;simp [setF]
 | succ k ih=>
  intro x
  unfold setF
  split
  ·have:=ih (x:=x+1);simp;omega
  ·have:=ih (x:=x+1);omega
theorem putL_low {p:Nat->Bool} {z:Nat}:∀{k y:Nat},z<y->putL (z:Int) (setF p k y)=(z:Int)::setF p k y:=by
 intro k
 induction k with
 | zero=>intro y _;rfl
 | succ k ih=>
  intro y h
  unfold setF
  split
  ·have h1:¬(y:Int)<(z:Int):=by omega
   have h2:¬(y:Int)=(z:Int):=by omega
   simp only [putL,h1,h2,if_false]
  ·exact ih (by omega)
theorem putL_set {p:Nat->Bool} {z:Nat}:∀{k x:Nat},x<=z->z<x+k->putL (z:Int) (setF p k x)=setF (fun y=>p y||decide (y=z)) k x:=by
 intro k
 induction k with
 | zero=>intro x h1 h2;omega
 | succ k ih=>
  intro x h1 h2
  by_cases e:x=z
  ·subst e
   have hc:setF (fun y=>p y||decide (y=x)) k (x+1)=setF p k (x+1):=setF_congr fun y h1 h2=>by
    have:¬y=x:=by omega
    simp [this]
   by_cases hp:p x=true
   ·simp only [setF,hp,if_true,decide_true,Bool.or_self,hc,putL]
    have:¬(x:Int)<(x:Int):=by omega
    simp only [this,if_false,if_true]
   ·have hp':p x=false:=by simpa using hp
    simp only [setF,hp',Bool.false_eq_true,if_false,decide_true,Bool.or_true,if_true,hc]
    exact putL_low (by omega)
  ·have hd:decide (x=z)=false:=by simp [e]
   have hlt:(x:Int)<(z:Int):=by omega
   by_cases hp:p x=true
   ·simp only [setF,hp,if_true,hd,Bool.or_false,putL,hlt,ih (x:=x+1) (by omega) (by omega)]
   ·have hp':p x=false:=by simpa using hp
    simp only [setF,hp',hd,Bool.or_false,Bool.false_eq_true,if_false,ih (x:=x+1) (by omega) (by omega)]
theorem putAll_set {n:Nat}:∀(bs:List Int) (p:Nat->Bool),(∀z∈bs,∃y:Nat,y<n/\z=(y:Int))->putAll (setF p n 0) bs=setF (fun y=>p y||bs.any (fun z=>z==(y:Int))) n 0:=by
 intro bs
 induction bs with
 | nil=>intro p _;exact setF_congr fun y _ _=>by simp
 | cons z bs ih=>
  intro p h
  obtain ⟨y0,h1,rfl⟩:=h z (by simp)
  show putAll (putL (y0:Int) (setF p n 0)) bs=_
  rw [putL_set (Nat.zero_le _) (by omega),ih _ fun z hz=>h z (by simp [hz])]
  refine setF_congr fun y _ _ => ?_
  simp only [List.any_cons,Bool.or_assoc]
  congr 2
  by_cases e:y=y0
  ·simp [e]
  ·have:¬(y0:Int)=(y:Int):=by omega
   simp [e,this]
theorem any_setF {p:Nat->Bool} {n y:Nat} (hy:y<n):(setF p n 0).any (fun z=>z==(y:Int))=p y:=by
 apply Bool.eq_iff_iff.2
 rw [List.any_eq_true]
 constructor
 ·rintro ⟨z,hz,h⟩
  obtain ⟨u,_,h2,h3,rfl⟩:=setF_mem.1 hz
  have:(u:Int)=(y:Int):=by simpa using h
  have:u=y:=by omega
  subst this
  exact h3
 ·intro h
  exact ⟨(y:Int),setF_mem.2 ⟨y,Nat.zero_le _,by omega,h,rfl⟩,by simp⟩
theorem ballL_set {n:Nat} {es:List E} {x:Nat} (hx:x<n):ballL n es (x:Int)=setF (fun y=>nearI es (x:Int) (y:Int)||decide (y=x)) n 0:=by
 unfold ballL
 exact putL_set (Nat.zero_le _) (by omega)
theorem setF_nat {p:Nat->Bool} {n:Nat}:∀z∈setF p n 0,∃y:Nat,y<n/\z=(y:Int):=by
 intro z hz
 obtain ⟨y,_,h2,_,h4⟩:=setF_mem.1 hz
 exact ⟨y,by omega,h4⟩
theorem setF_empty {n x:Nat}:setF (fun _=>false) n x=[]:=by
 induction n generalizing x with
 | zero=>rfl
 | succ n ih=>simp [setF,ih]
def isM (n:Nat) (m:Nat) (p:Nat->Bool):Prop:=m<256 /\ ∀y,m.testBit y=(decide (y<n)&&p y)
theorem arN_bit {n:Nat} {ms:List Nat} (hm:okN n ms) (s:Nat):∀k x o,o<256->arN ms s k x o<256 /\ ∀y,(arN ms s k x o).testBit y=(o.testBit y||(List.range' x k).any fun u=>s.testBit u&&(ms.getD u 0).testBit y):=by
 intro k
 induction k with
 | zero=>intro x o h;exact ⟨h,fun y=>by simp [arN]⟩
 | succ k ih=>
  intro x o h
  have ho:(if s.testBit x=true then o|||ms.getD x 0 else o)<256:=by
   split
   ·exact Nat.or_lt_two_pow (n:=8) h (hm.2 x)
   ·exact h
  obtain ⟨k1,k2⟩:=ih (x+1) _ ho
  refine ⟨k1,fun y => ?_⟩
  show (arN ms s k (x+1) (if s.testBit x=true then o|||ms.getD x 0 else o)).testBit y=_
  rw [k2 y,List.range'_succ,List.any_cons,<- Bool.or_assoc]
  congr 1
  by_cases hs:s.testBit x=true
  ·simp [hs]
  ·simp [hs]
theorem isE_near (es:List E) {n:Nat} (h:es.all (edgeB (n:Int))=true) (x y:Nat):es.any (fun e=>isE e x y)=nearI es (x:Int) (y:Int):=by
 unfold nearI
 apply Bool.eq_iff_iff.2
 simp only [List.any_eq_true,isE,Bool.or_eq_true,Bool.and_eq_true,decide_eq_true_eq,beq_iff_eq]
 constructor
 ·rintro ⟨e,he,h1⟩
  obtain ⟨k1,k2,k3,k4⟩:=edgeB_nat (List.all_eq_true.1 h e he)
  exact ⟨e,he,by omega⟩
 ·rintro ⟨e,he,h1⟩
  obtain ⟨k1,k2,k3,k4⟩:=edgeB_nat (List.all_eq_true.1 h e he)
  exact ⟨e,he,by omega⟩
theorem near_lt {es:List E} {n:Nat} (h:es.all (edgeB (n:Int))=true) {x y:Nat} (hn:nearI es (x:Int) (y:Int)=true):y<n:=by
 unfold nearI at hn
 simp only [List.any_eq_true,Bool.or_eq_true,Bool.and_eq_true,beq_iff_eq] at hn
 obtain ⟨e,he,h1⟩:=hn
 obtain ⟨k1,k2,k3,k4⟩:=edgeB_nat (List.all_eq_true.1 h e he)
 omega
theorem around_isM {n:Nat} (hn:n<=8) {es:List E} (h:es.all (edgeB (n:Int))=true) {m:Nat} {p:Nat->Bool} (hm:isM n m p):isM n (arN (netN n es) m n 0 m) (stepP es n p):=by
 obtain ⟨k1,k2⟩:=arN_bit (netN_ok hn h) m n 0 m hm.1
 refine ⟨k1,fun y => ?_⟩
 rw [k2 y,hm.2 y]
 unfold stepP
 rw [<- List.range_eq_range']
 apply Bool.eq_iff_iff.2
 simp only [Bool.or_eq_true,Bool.and_eq_true,List.any_eq_true,List.mem_range,decide_eq_true_eq]
 have hb:∀u,((netN n es).getD u 0).testBit y=nearI es (u:Int) (y:Int):=fun u=>by
  have:=netN_bit hn h u y
  unfold hasN at this
  rw [this,isE_near es h]
 constructor
 ·rintro (⟨h1,h2⟩ | ⟨u,h1,h2,h3⟩)
  ·exact ⟨h1,.inl h2⟩
  ·rw [hb] at h3
   rw [hm.2 u] at h2
   simp only [Bool.and_eq_true,decide_eq_true_eq] at h2
   exact ⟨near_lt h h3,.inr ⟨u,h1,h2.2,h3⟩⟩
 ·rintro ⟨h1,h2 | ⟨u,h2,h3,h4⟩⟩
  ·exact .inl ⟨h1,h2⟩
  ·refine .inr ⟨u,h2,?_,by rw [hb];exact h4⟩
   rw [hm.2 u]
   simp [h2,h3]
theorem setF_split {p:Nat->Bool}:∀(a b x:Nat),setF p (a+b) x=setF p a x++setF p b (x+a):=by
 intro a
 induction a with
 | zero=>intro b x;simp [setF]
 | succ a ih=>
  intro b x
  rw [show a+1+b=(a+b)+1 by omega]
  simp only [setF,ih,show x+1+a=x+(a+1) by omega]
  split<;>simp
theorem setF_mask {n m:Nat} {p:Nat->Bool} (hn:n<=8) (hm:isM n m p):setF (fun y=>m.testBit y) 8 0=setF p n 0:=by
 rw [show 8=n+(8-n) by omega,setF_split]
 have h1:setF (fun y=>m.testBit y) n 0=setF p n 0:=setF_congr fun y _ h=>by
  rw [hm.2 y]
  have:y<n:=by omega
  simp [this]
 have h2:setF (fun y=>m.testBit y) (8-n) (0+n)=[]:=by
  rw [<- setF_empty (n:=8-n) (x:=0+n)]
  exact setF_congr fun y h _=>by
   rw [hm.2 y]
   have:¬y<n:=by omega
   simp [this]
 rw [h1,h2,List.append_nil]
end Go.V.W
namespace Go.V.W
open Go.Proofs
theorem l2Near_lim (d) (r) (h:G_l2Near d=some r):∃N,F_q71q N d=some r:=by
 obtain ⟨g,a,b,_⟩:=d
 unfold G_l2Near at h
 split at h
 ·rename_i hl
  have hl:g.2.1.length<=lim:=okL_lim hl
  have h:=Option.some.inj h
  subst h
  refine ⟨g.2.1.length+1,?_⟩
  unfold F_q71q
  have:=loop_idx (L:=q71q_l0 (g.2.1.length+1)) (r:=q71q_l0_r (g.2.1.length+1)) (fun _ _=>rfl) (e:=K_Piiq) g.2.1 (mk:=fun i=>(a,b,g,(i:Int),())) (q:=fun e=>(e.1==a&&e.2.1==b)||(e.1==b&&e.2.1==a)) (o:=fun _=>.inl (true,())) (f:=.inr (.inl ()))
   (by
    intro back i hi
    unfold q71q_l0_r
    simp only [lt_dec hi,if_true,idxIn_nat hi,Int.toNat_natCast,wrap_up hi (lim_max hl)]
    rcases Bool.eq_false_or_eq_true ((at_ K_Piiq g.2.1 i).1==a) with c1 | c1<;>rcases Bool.eq_false_or_eq_true ((at_ K_Piiq g.2.1 i).2.1==b) with c2 | c2<;>rcases Bool.eq_false_or_eq_true ((at_ K_Piiq g.2.1 i).1==b) with c3 | c3<;>rcases Bool.eq_false_or_eq_true ((at_ K_Piiq g.2.1 i).2.1==a) with c4 | c4 <;>
     simp only [c1,c2,c3,c4,if_true,if_false,Bool.false_eq_true,Bool.and_true,Bool.and_false,Bool.or_true,Bool.or_false,Bool.true_or,Bool.or_self,Bool.and_self])
   (by intro back;unfold q71q_l0_r;simp only [lt_not,Bool.false_eq_true,if_false]) g.2.1.length 0 (by omega) (by omega)
  simp only [Int.natCast_zero,List.drop_zero] at this
  have hge:=idxI_ge (fun e:E=>(e.1==a&&e.2.1==b)||(e.1==b&&e.2.1==a)) g.2.1 0
  simp only [this,Option.bind_some,nearI,<- hge]
  cases idxN (fun e:E=>(e.1==a&&e.2.1==b)||(e.1==b&&e.2.1==a)) g.2.1 0 with
  | none=>rfl
  | some j=>simp [idxI]
 ·cases h
theorem l2Neighbors_l0 (N:Nat) (g:Gr) (x:Int) (n:Nat) (hN:g.1=(n:Int)) (hn:n<=8) (ho:okL g.2.1=true):∀(k y f:Nat) (A:List Int),y+k=n->k<f->A.length+k<=1000 ->
  q24q_l0 N f (x,g,A,(y:Int),())=some (.inl (A++setF (fun y=>nearI g.2.1 x (y:Int)) k y,())):=by
 intro k
 induction k with
 | zero=>
  intro y f A h1 h2 h3
  obtain ⟨f,rfl⟩:∃m,f=m+1:=⟨f-1,by omega⟩
  have e:y=n:=by omega
  subst e
  simp [q24q_l0,q24q_l0_r,setF,hN]
 | succ k ih=>
  intro y f A h1 h2 h3
  obtain ⟨f,rfl⟩:∃m,f=m+1:=⟨f-1,by omega⟩
  have hy:y<n:=by omega
  show q24q_l0_r N (q24q_l0 N f) (x,g,A,(y:Int),())=_
  unfold q24q_l0_r
  have hw:IntKind.wrap .i64 ((y:Int)+1)=((y+1:Nat):Int):=by
   rw [wrap_in _ (by omega) (by omega)]
   rfl
  have hle:decide (A.length+List.length [(y:Int)]<=lim)=true:=by
   unfold lim
   simp
   omega
  simp only [hN,lt_dec hy,if_true,G_l2Near,ho,Option.bind_some,hle,hw]
  unfold setF
  by_cases hh:nearI g.2.1 x (y:Int)=true
  ·rw [if_pos hh,if_pos hh,ih (y+1) f _ (by omega) (by omega) (by simp;omega)]
   simp
  ·rw [if_neg hh,if_neg hh]
   exact ih (y+1) f A (by omega) (by omega) (by omega)
theorem l2Neighbors_lim (d) (r) (h:G_l2Neighbors d=some r):∃N,F_q24q N d=some r:=by
 obtain ⟨g,x,_⟩:=d
 unfold G_l2Neighbors at h
 split at h
 ·rename_i hc
  simp only [Bool.and_eq_true,decide_eq_true_eq] at hc
  obtain ⟨⟨h1,h2⟩,h3⟩:=hc
  have h:=Option.some.inj h
  subst h
  refine ⟨20,?_⟩
  unfold F_q24q
  have:=l2Neighbors_l0 20 g x g.1.toNat (by omega) (by omega) h1 g.1.toNat 0 20 [] (by omega) (by omega) (by simp;omega)
  simp only [Int.natCast_zero,List.nil_append] at this
  simp only [this,Option.bind_some]
 ·cases h
def lowN (x:Int):List Int->Nat
 | []=>0
 | a::l=>if a<x then lowN x l+1 else 0
theorem lowN_le (x:Int):∀l,lowN x l<=l.length:=by
 intro l
 induction l with
 | nil=>simp [lowN]
 | cons a l ih=>simp only [lowN];split<;>simp;omega
theorem l1Put_l0 (N:Nat) (l:List Int) (x:Int) (hl:l.length<=1000):∀(k i f:Nat),i+k=l.length->k<f->spec_l1Put_l0 N f (l,x,(i:Int),())=some (.inl (l,x,((i+lowN x (l.drop i):Nat):Int),())):=by
 have hmx:l.length<=maxLen:=by unfold maxLen;omega
 intro k
 induction k with
 | zero=>
  intro i f h1 h2
  obtain ⟨f,rfl⟩:∃m,f=m+1:=⟨f-1,by omega⟩
  have e:i=l.length:=by omega
  subst e
  rw [List.drop_of_length_le (Nat.le_refl _)]
  simp [spec_l1Put_l0,spec_l1Put_l0_r,lowN]
 | succ k ih=>
  intro i f h1 h2
  obtain ⟨f,rfl⟩:∃m,f=m+1:=⟨f-1,by omega⟩
  have hi:i<l.length:=by omega
  show spec_l1Put_l0_r N (spec_l1Put_l0 N f) (l,x,(i:Int),())=_
  unfold spec_l1Put_l0_r
  have e:at_ I l i=l[i]:=at_get (e:=I) hi
  rw [List.drop_eq_getElem_cons hi]
  simp only [lt_dec hi,if_true,idxIn_nat hi,Int.toNat_natCast,wrap_up hi hmx,e,lowN]
  by_cases c:l[i]<x
  ·simp only [c,decide_true,if_true]
   rw [ih (i+1) f (by omega) (by omega)]
   congr 5
   omega
  ·simp only [c,decide_false,Bool.false_eq_true,if_false,Nat.add_zero]
theorem putL_low' (x:Int):∀l:List Int,putL x l=if h:lowN x l<l.length then (if l[lowN x l]=x then l else l.take (lowN x l)++[x]++l.drop (lowN x l)) else l++[x]:=by
 intro l
 induction l with
 | nil=>rfl
 | cons a l ih=>
  simp only [putL,lowN]
  by_cases c:a<x
  ·simp only [c,if_true,ih,List.length_cons,Nat.add_lt_add_iff_right,List.getElem_cons_succ,List.take_succ_cons,List.drop_succ_cons]
   split
   ·split<;>simp
   ·simp
  ·by_cases c2:a=x
   ·simp [c,c2]
   ·simp [c,c2]
theorem l1Put_lim (d) (r) (h:G_l1Put d=some r):∃N,F_spec_l1Put N d=some r:=by
 obtain ⟨l,x,_⟩:=d
 unfold G_l1Put at h
 split at h
 ·rename_i hl
  have hl:l.length<=1000:=of_decide_eq_true hl
  have h:=Option.some.inj h
  subst h
  refine ⟨l.length+1,?_⟩
  unfold F_spec_l1Put
  have:=l1Put_l0 (l.length+1) l x hl l.length 0 (l.length+1) (by omega) (by omega)
  simp only [Int.natCast_zero,List.drop_zero,Nat.zero_add] at this
  have hk:=lowN_le x l
  generalize hkk:lowN x l=k at this hk
  simp only [this,Option.bind_some,putL_low',hkk]
  have hL:(lim:Int)=1099511627776:=rfl
  have c0:(decide (0<=(0:Int))&&decide ((0:Int)<=(k:Int))&&decide ((k:Int)<=(l.length:Int)))=true:=by simp;omega
  have c1:decide (List.length ([]:List Int)+List.length (sub_ l (0:Int) (k:Int))<=lim)=true:=by unfold lim sub_;simp;omega
  have c2:decide (List.length (([]:List Int)++sub_ l (0:Int) (k:Int))+List.length [x]<=lim)=true:=by unfold lim sub_;simp;omega
  have c3:(decide (0<=(k:Int))&&decide ((k:Int)<=(l.length:Int))&&decide ((l.length:Int)<=(l.length:Int)))=true:=by simp;omega
  have c4:decide (List.length (([]:List Int)++sub_ l (0:Int) (k:Int)++[x])+List.length (sub_ l (k:Int) (l.length:Int))<=lim)=true:=by unfold lim sub_;simp;omega
  have e1:sub_ l (0:Int) (k:Int)=l.take k:=by simp [sub_]
  have e2:sub_ l (k:Int) (l.length:Int)=l.drop k:=by simp [sub_]
  by_cases hlt:k<l.length
  ·have e:at_ I l k=l[k]:=at_get (e:=I) hlt
   simp only [lt_dec hlt,if_true,idxIn_nat hlt,Int.toNat_natCast,e,hlt,dite_true,c0,c1,c2,c3,c4]
   by_cases c:l[k]=x
   ·simp [c]
   ·have c':(l[k]==x)=false:=by simpa using c
    simp only [c',c,Bool.false_eq_true,if_false,e1,e2,List.nil_append]
  ·have hlt':decide ((k:Int)<(l.length:Int))=false:=by simp;omega
   have ek:k=l.length:=by omega
   simp only [hlt',Bool.false_eq_true,if_false,c0,c1,c2,c3,c4,if_true,hlt,dite_false,e1,e2,List.nil_append]
   subst ek
   simp
   unfold lim
   omega
 ·cases h
theorem putL_len (x:Int):∀l:List Int,(putL x l).length<=l.length+1:=by
 intro l
 induction l with
 | nil=>simp [putL]
 | cons a l ih=>
  simp only [putL]
  split
  ·simp;omega
  ·split<;>simp
theorem ball_len {n:Nat} {es:List E} {x:Int}:(ballL n es x).length<=n+1:=by
 unfold ballL
 have h1:=putL_len x (setF (fun y=>nearI es x (y:Int)) n 0)
 have h2:=setF_len (p:=fun y=>nearI es x (y:Int)) (k:=n) (x:=0)
 omega
theorem putAll_len:∀(bs o:List Int),(putAll o bs).length<=o.length+bs.length:=by
 intro bs
 induction bs with
 | nil=>intro o;simp [putAll]
 | cons z bs ih=>
  intro o
  have h1:=ih (putL z o)
  have h2:=putL_len z o
  show (putAll (putL z o) bs).length<=_
  simp only [List.length_cons]
  omega
theorem shr_bit {m y:Nat} (hm:m<256) (h:y<8):(bits .and .i64 (shr .i64 (m:Int) (y:Int)) 1==(1:Int))=m.testBit y:=has_bit hm h
theorem around_l0 (N:Nat) (ms:List Nat) (n:Nat) (hm:okN n ms) (hn:n<=8) (s:Nat) (hs:s<256):∀(k x f o:Nat),o<256->x+k=n->k<f ->
  q36q_l0 N f ((s:Int),(o:Int),toI ms,(n:Int),(x:Int),())=some (.inl (((arN ms s k x o:Nat):Int),())):=by
 intro k
 induction k with
 | zero=>
  intro x f o h0 h1 h2
  obtain ⟨f,rfl⟩:∃m,f=m+1:=⟨f-1,by omega⟩
  have e:x=n:=by omega
  subst e
  simp [q36q_l0,q36q_l0_r,arN]
 | succ k ih=>
  intro x f o h0 h1 h2
  obtain ⟨f,rfl⟩:∃m,f=m+1:=⟨f-1,by omega⟩
  have hx:x<n:=by omega
  show q36q_l0_r N (q36q_l0 N f) ((s:Int),(o:Int),toI ms,(n:Int),(x:Int),())=_
  unfold q36q_l0_r
  have hw:IntKind.wrap .i64 ((x:Int)+1)=((x+1:Nat):Int):=by
   rw [wrap_in _ (by omega) (by omega)]
   rfl
  have i1:idxIn (x:Int) ms.length=true:=idxIn_nat (by rw [hm.1];exact hx)
  simp only [lt_dec hx,if_true,toI_len,i1,nonneg_dec,shr_bit hs (show x<8 by omega),Int.toNat_natCast,at_toI,bits_or h0 (hm.2 x),hw,arN]
  by_cases hb:s.testBit x=true
  ·rw [if_pos hb,if_pos hb]
   exact ih (x+1) f _ (Nat.or_lt_two_pow (n:=8) h0 (hm.2 x)) (by omega) (by omega)
  ·rw [if_neg hb,if_neg hb]
   exact ih (x+1) f o h0 (by omega) (by omega)
theorem around_lim (d) (r) (h:G_around d=some r):∃N,F_q36q N d=some r:=by
 obtain ⟨⟨l,u⟩,s,_⟩:=d
 unfold G_around at h
 split at h
 ·rename_i hc
  simp only [Bool.and_eq_true,decide_eq_true_eq] at hc
  obtain ⟨⟨h1,h2⟩,h3⟩:=hc
  obtain ⟨e,hm,h8⟩:=smallN_nat h1
  have h:=Option.some.inj h
  subst h
  refine ⟨20,?_⟩
  unfold F_q36q
  have hs:s=(s.toNat:Int):=by omega
  have:=around_l0 20 (fromI l) l.length hm h8 s.toNat (by omega) l.length 0 20 s.toNat (by omega) (by omega) (by omega)
  rw [<- e,<- hs] at this
  simp only [Int.natCast_zero] at this
  simp only [this,Option.bind_some]
 ·cases h
theorem setOf_l0 (N:Nat) (s:Nat) (hs:s<256):∀(k x f:Nat) (A:List Int),x+k=8->k<f->A.length+k<=100 ->
  impl_setOf_l0 N f ((s:Int),A,(x:Int),())=some (.inl (A++setF (fun y=>s.testBit y) k x,())):=by
 intro k
 induction k with
 | zero=>
  intro x f A h1 h2 h3
  obtain ⟨f,rfl⟩:∃m,f=m+1:=⟨f-1,by omega⟩
  have e:x=8:=by omega
  subst e
  have:shr .i64 (s:Int) ((8:Nat):Int)=0:=by
   unfold shr
   have e:min ((8:Nat):Int).toNat IntKind.i64.bits=8:=by decide
   rw [e,Int.fdiv_eq_ediv_of_nonneg _ (by decide)]
   omega
  show impl_setOf_l0_r N (impl_setOf_l0 N f) ((s:Int),A,((8:Nat):Int),())=_
  unfold impl_setOf_l0_r
  have h8:decide (0<=((8:Nat):Int))=true:=by decide
  have hz:((0:Int) != 0)=false:=by decide
  simp only [h8,if_true,this,hz,Bool.false_eq_true,if_false,setF,List.append_nil]
 | succ k ih=>
  intro x f A h1 h2 h3
  obtain ⟨f,rfl⟩:∃m,f=m+1:=⟨f-1,by omega⟩
  have hx:x<8:=by omega
  show impl_setOf_l0_r N (impl_setOf_l0 N f) ((s:Int),A,(x:Int),())=_
  unfold impl_setOf_l0_r
  have hw:IntKind.wrap .i64 ((x:Int)+1)=((x+1:Nat):Int):=by
   rw [wrap_in _ (by omega) (by omega)]
   rfl
  have hle:decide (A.length+List.length [(x:Int)]<=lim)=true:=by
   unfold lim
   simp
   omega
  simp only [nonneg_dec,if_true,shr_bit hs hx,hle,hw]
  by_cases hz:s>>>x=0
  ·have e1:(shr .i64 (s:Int) (x:Int) != (0:Int))=false:=by rw [shr_nat hx,hz];decide
   simp only [e1,Bool.false_eq_true,if_false]
   have e2:setF (fun y=>s.testBit y) (k+1) x=[]:=by
    rw [<- setF_empty (n:=k+1) (x:=x)]
    refine setF_congr fun y h _ => ?_
    have:s<2 ^ x:=by
     rw [Nat.shiftRight_eq_div_pow] at hz
     exact (Nat.div_eq_zero_iff_lt (Nat.two_pow_pos x)).1 hz
    exact Nat.testBit_lt_two_pow (Nat.lt_of_lt_of_le this (Nat.pow_le_pow_right (by omega) h))
   rw [e2,List.append_nil]
  ·have e1:(shr .i64 (s:Int) (x:Int) != (0:Int))=true:=by
    rw [shr_nat hx]
    have:((s>>>x:Nat):Int)≠0:=fun e=>hz (by exact_mod_cast e)
    simpa using this
   simp only [e1,if_true]
   unfold setF
   by_cases hb:s.testBit x=true
   ·rw [if_pos hb,if_pos hb,ih (x+1) f _ (by omega) (by omega) (by simp;omega)]
    simp
   ·rw [if_neg hb,if_neg hb]
    exact ih (x+1) f A (by omega) (by omega) (by omega)
theorem setOf_lim (d) (r) (h:G_setOf d=some r):∃N,F_impl_setOf N d=some r:=by
 obtain ⟨s,_⟩:=d
 unfold G_setOf at h
 split at h
 ·rename_i hc
  simp only [Bool.and_eq_true,decide_eq_true_eq] at hc
  have h:=Option.some.inj h
  subst h
  refine ⟨20,?_⟩
  unfold F_impl_setOf
  have:=setOf_l0 20 s.toNat (by omega) 8 0 20 [] (by omega) (by omega) (by simp)
  rw [show ((s.toNat:Nat):Int)=s by omega] at this
  simp only [Int.natCast_zero,List.nil_append] at this
  simp only [this,Option.bind_some]
 ·cases h
end Go.V.W
namespace Go.V.W
open Go.Proofs
theorem small_toI {n:Nat} {ms:List Nat} (hok:okN n ms) (hn:n<=8):smallN (toI ms)=true:=by
 unfold smallN
 simp only [toI_len,hok.1,Bool.and_eq_true,decide_eq_true_eq,List.all_eq_true]
 refine ⟨hn,fun m hm => ?_⟩
 unfold toI at hm
 obtain ⟨x,hx,rfl⟩:=List.mem_map.1 hm
 obtain ⟨i,hi,rfl⟩:=List.getElem_of_mem hx
 have:=hok.2 i
 simp only [List.getD_eq_getElem?_getD,List.getElem?_eq_getElem hi,Option.getD_some] at this
 omega
end Go.V.W
namespace Go.V.W
theorem near_symm (es:List E) (a b:Int):nearI es a b=nearI es b a:=by
 unfold nearI
 congr 1
 funext e
 cases (e.1==a&&e.2.1==b)<;>cases (e.1==b&&e.2.1==a)<;>rfl
theorem isM_congr {n m:Nat} {p q:Nat->Bool} (h:∀y,y<n->p y=q y) (hm:isM n m p):isM n m q:=by
 refine ⟨hm.1,fun y => ?_⟩
 rw [hm.2 y]
 by_cases hy:y<n
 ·rw [h y hy]
 ·simp [hy]
end Go.V.W
namespace Go.V.W
open Go.Proofs
theorem ball_eq (g:Gr) (n:Nat) (hg:g.1=(n:Int)) (hn:n<=8) (ho:okL g.2.1=true) (z:Int):F_q81q 0 (g,z,())=some (ballL n g.2.1 z,()):=by
 unfold F_q81q G_l2Neighbors G_l1Put
 have a2:okS1 (setF (fun y=>nearI g.2.1 z (y:Int)) n 0)=true:=by
  have:=setF_len (p:=fun y=>nearI g.2.1 z (y:Int)) (k:=n) (x:=0)
  exact decide_eq_true (by omega)
 have a3:(okL g.2.1&&decide (0<=(n:Int))&&decide ((n:Int)<=8))=true:=by
  rw [ho]
  simp
  omega
 simp only [hg,a3,if_true,Int.toNat_natCast,Option.bind_some,a2,ballL]
theorem isM_and {n m m':Nat} {p q:Nat->Bool} (h1:isM n m p) (h2:isM n m' q):isM n (m&&&m') (fun y=>p y&&q y):=by
 refine ⟨Nat.lt_of_le_of_lt Nat.and_le_left h1.1,fun y => ?_⟩
 rw [Nat.testBit_and,h1.2 y,h2.2 y]
 show _=(decide (y<n)&&(p y&&q y))
 cases decide (y<n)<;>cases p y<;>cases q y<;>rfl
end Go.V.W
namespace Go.V.W
theorem tabL_row {n c:Nat} (f:Nat->Nat->Int) (h:c<n):(tabL n f)[c]? = some ((List.range n).map fun r=>f c r):=by
 unfold tabL
 rw [List.getElem?_map,List.getElem?_range h]
 rfl
theorem rowR_get {n r:Nat} (g:Nat->Int) (h:r<n):((List.range n).map g)[r]? = some (g r):=by
 rw [List.getElem?_map,List.getElem?_range h]
 rfl
theorem tab2_tabL {n c r:Nat} (f:Nat->Nat->Int) (hc:c<n) (hr:r<n):tab2 (tabL n f) (c:Int) (r:Int)=f c r:=by
 unfold tab2
 simp only [Int.toNat_natCast,List.getD_eq_getElem?_getD,tabL_row f hc,Option.getD_some,rowR_get _ hr]
theorem worst_congr {f g:Int->Int}:∀{l:List Int} {m:Int},(∀x∈l,f x=g x)->worstL f l m=worstL g l m:=by
 intro l
 induction l with
 | nil=>intro m _;rfl
 | cons b bs ih=>
  intro m h
  simp only [worstL,h b (by simp)]
  rw [ih fun x hx=>h x (by simp [hx])]
theorem worst_spec (f:Int->Int):∀(l:List Int) (m:Int),(∃x∈l,f x<0)/\worstL f l m = -1\/(∀x∈l,0<=f x/\f x<=worstL f l m)/\m<=worstL f l m/\(worstL f l m=m \/ ∃x∈l,worstL f l m=f x):=by
 intro l
 induction l with
 | nil=>intro m;exact .inr ⟨fun x hx=>by simp at hx,Int.le_refl _,.inl rfl⟩
 | cons b bs ih=>
  intro m
  simp only [worstL]
  by_cases hb:f b<0
  ·rw [if_pos hb]
   exact .inl ⟨⟨b,by simp,hb⟩,rfl⟩
  ·rw [if_neg hb]
   rcases ih (if m<f b then f b else m) with ⟨⟨x,hx,h1⟩,h2⟩ | ⟨h1,h2,h3⟩
   ·exact .inl ⟨⟨x,by simp [hx],h1⟩,h2⟩
   ·have hge:m<=(if m<f b then f b else m)/\f b<=(if m<f b then f b else m):=by split<;>omega
    refine .inr ⟨fun x hx => ?_,by omega,?_⟩
    ·rcases List.mem_cons.1 hx with rfl | hx
     ·omega
     ·exact h1 x hx
    ·rcases h3 with h3 | ⟨x,hx,h3⟩
     ·by_cases hm:m<f b
      ·rw [if_pos hm] at h3 |-
       exact .inr ⟨b,by simp,h3⟩
      ·rw [if_neg hm] at h3 |-
       exact .inl h3
     ·exact .inr ⟨x,by simp [hx],h3⟩
def okBall (n:Nat) (ball:Int->List Int):Prop := ∀x:Nat,x<n -> ∀z∈ball (x:Int),∃y:Nat,y<n/\z=(y:Int)
structure InvT (n:Nat) (ball:Int->List Int) (t:Nat) (f:Nat->Nat->Int):Prop where
 pos:1<=t
 low:∀c r,c<n->r<n -> -1<=f c r
 high:∀c r,c<n->r<n->f c r<(t:Int)
 none:∀c r,c<n->r<n->f c r<0 -> ∀b∈ball (c:Int),¬(0<=afterT ball (tabL n f) b (r:Int)/\afterT ball (tabL n f) b (r:Int)<(t:Int)-1)
theorem after_high {n:Nat} {ball:Int->List Int} (hb:okBall n ball) {t:Nat} {f:Nat->Nat->Int} (hI:InvT n ball t f) {c r:Nat} (hc:c<n) (hr:r<n) {b:Int} (hbm:b∈ball (c:Int)):afterT ball (tabL n f) b (r:Int)<=(t:Int)-1:=by
 have hp:=hI.pos
 unfold afterT
 split
 ·omega
 ·obtain ⟨b',hb1,rfl⟩:=hb c hc b hbm
  rcases worst_spec (tab2 (tabL n f) (b':Int)) (ball (r:Int)) 0 with ⟨_,h⟩ | ⟨_,_,h | ⟨x,hx,h⟩⟩
  ·omega
  ·omega
  ·obtain ⟨y,hy,rfl⟩:=hb r hr x hx
   rw [tab2_tabL f hb1 hy] at h
   have:=hI.high b' y hb1 hy
   omega
theorem InvT.next {n:Nat} {ball:Int->List Int} (hb:okBall n ball) {t:Nat} {f:Nat->Nat->Int} (hI:InvT n ball t f):InvT n ball (t+1) (stepF n ball (t:Int) f):=by
 have hp:=hI.pos
 refine ⟨by omega,fun c r hc hr => ?_,fun c r hc hr => ?_,fun c r hc hr hf b hbm => ?_⟩
 ·unfold stepF
  split
  ·omega
  ·exact hI.low c r hc hr
 ·unfold stepF
  split
  ·omega
  ·have:=hI.high c r hc hr;omega
 ·rintro ⟨h1,h2⟩
  have hst:stepF n ball (t:Int) f c r=f c r/\canF n ball f c r=false:=by
   unfold stepF at hf |-
   by_cases hcan:canF n ball f c r=true
   ·rw [if_pos hcan] at hf;omega
   ·rw [if_neg hcan]
    exact ⟨rfl,by simpa using hcan⟩
  rw [hst.1] at hf
  have hno:∀b∈ball (c:Int),¬0<=afterT ball (tabL n f) b (r:Int):=by
   intro b hbm h
   have:=hst.2
   unfold canF at this
   simp only [hf,decide_true,Bool.true_and] at this
   have ht:((ball (c:Int)).any fun b=>decide (0<=afterT ball (tabL n f) b (r:Int)))=true:=List.any_eq_true.2 ⟨b,hbm,decide_eq_true h⟩
   rw [ht] at this
   cases this
  refine hno b hbm ?_
  unfold afterT at h1 h2 |-
  by_cases hbr:b=(r:Int)
  ·rw [if_pos hbr]
   exact Int.le_refl _
  ·rw [if_neg hbr] at h1 h2 |-
   obtain ⟨b',hb1,rfl⟩:=hb c hc b hbm
   rcases worst_spec (tab2 (tabL n (stepF n ball (t:Int) f)) (b':Int)) (ball (r:Int)) 0 with ⟨_,h⟩ | ⟨hall,_,_⟩
   ·omega
   ·have e:worstL (tab2 (tabL n f) (b':Int)) (ball (r:Int)) 0=worstL (tab2 (tabL n (stepF n ball (t:Int) f)) (b':Int)) (ball (r:Int)) 0:=by
     refine worst_congr fun x hx => ?_
     obtain ⟨y,hy,rfl⟩:=hb r hr x hx
     have:=hall (y:Int) hx
     rw [tab2_tabL _ hb1 hy] at this
     rw [tab2_tabL _ hb1 hy,tab2_tabL _ hb1 hy]
     by_cases hcan:canF n ball f b' y=true
     ·have e:stepF n ball (t:Int) f b' y=(t:Int):=if_pos hcan
      rw [e] at this
      omega
     ·exact (if_neg hcan).symm
    rw [e]
    exact h1
theorem InvT.start (n:Nat) (ball:Int->List Int):InvT n ball 1 startF:=by
 refine ⟨Nat.le_refl _,fun c r _ _ => ?_,fun c r _ _ => ?_,fun c r _ _ _ b _ h => ?_⟩
 ·unfold startF;split<;>omega
 ·unfold startF;split<;>omega
 ·omega
end Go.V.W
namespace Go.V.W
open Go.Proofs
theorem grB_parts {g:Gr} (h:grB g=true):okL g.2.1=true/\g.1=(g.1.toNat:Int)/\g.1.toNat<=8/\g.2.1.all (edgeB (g.1.toNat:Int))=true:=by
 unfold grB at h
 simp only [Bool.and_eq_true,decide_eq_true_eq] at h
 obtain ⟨⟨⟨h1,h2⟩,h3⟩,h4⟩:=h
 have e:g.1=(g.1.toNat:Int):=by omega
 exact ⟨h1,e,by omega,by rw [<- e];exact h4⟩
theorem ballF_len (n:Nat) (es:List E) (x:Int):(ballF n es x).length<=n:=setF_len
theorem ball_some {g:Gr} (h:grB g=true) {x:Nat} (hx:x<g.1.toNat):F_q81q 0 (g,(x:Int),())=some (ballF g.1.toNat g.2.1 (x:Int),()):=by
 obtain ⟨h1,h2,h3,h4⟩:=grB_parts h
 rw [ball_eq g g.1.toNat h2 h3 h1,ballL_set hx]
 show some (setF _ _ _,())=some (setF _ _ _,())
 congr 2
 exact setF_congr fun y _ _=>by
  congr 1
  exact decide_eq_decide.2 (by omega)
theorem inB_nat {n:Int} {x:Int} (hn:n=(n.toNat:Int)) (h:inB 0 (n-1) x=true):x=(x.toNat:Int)/\x.toNat<n.toNat:=by
 have:=inB_iff.1 h
 omega
theorem range_snocT (n:Nat) (g:Nat->List Int):(List.range n).map g++[g n]=(List.range (n+1)).map g:=by simp [List.range_succ]
theorem wrap8 {i n:Nat} (h:i<n) (hn:n<=8):IntKind.wrap .i64 ((i:Int)+1)=((i+1:Nat):Int):=by
 rw [wrap_in _ (by omega) (by omega)]
 rfl
theorem map_set (n r:Nat) (g:Nat->Int) (v:Int):((List.range n).map g).set r v=(List.range n).map fun j=>if j=r then v else g j:=by
 apply List.ext_getElem
 ·simp
 ·intro i h1 h2
  simp only [List.length_set,List.length_map,List.length_range] at h1
  rw [List.getElem_set]
  by_cases e:r=i
  ·subst e;simp
  ·have e':¬i=r:=fun h=>e h.symm
   simp [e,e']
theorem own_some (l:List Int) (h:l.length<=1000):F_spec_l1Own 0 (l,())=some (l,()):=by
 unfold F_spec_l1Own
 have:decide (List.length ([]:List Int)+List.length l<=lim)=true:=by unfold lim;simp;omega
 simp only [this,if_true,List.nil_append]
end Go.V.W
namespace Go.V.W
open Go.Proofs
theorem netB_parts {l:List Int} (h:netB l=true):l=toI (fromI l)/\okN l.length (fromI l)/\l.length<=8 /\ ∀x,x<l.length->(fromI l).getD x 0<2 ^ l.length:=by
 unfold netB at h
 simp only [Bool.and_eq_true,List.all_eq_true,decide_eq_true_eq] at h
 obtain ⟨h1,h2⟩:=h
 obtain ⟨e,hm,h8⟩:=smallN_nat h1
 refine ⟨e,hm,h8,fun x hx => ?_⟩
 have hx':x<(fromI l).length:=by rw [hm.1];exact hx
 have h3:=h2 l[x] (List.getElem_mem hx)
 simp only [List.getD_eq_getElem?_getD,List.getElem?_eq_getElem hx',Option.getD_some]
 have e2:(fromI l)[x]=l[x].toNat:=by simp [fromI]
 rw [e2]
 have:0<2 ^ l.length:=Nat.two_pow_pos _
 omega
theorem two_lt {x n:Nat} (h:x<n):2 ^ x<2 ^ n:=Nat.pow_lt_pow_right (by omega) h
theorem maskM {l:List Int} (h:netB l=true) {x:Nat} (hx:x<l.length):(fromI l).getD x 0|||2 ^ x<256/\(fromI l).getD x 0|||2 ^ x<2 ^ l.length:=by
 obtain ⟨e,hm,h8,hb⟩:=netB_parts h
 exact ⟨Nat.or_lt_two_pow (n:=8) (hm.2 x) (pow_small (by omega)),Nat.or_lt_two_pow (hb x hx) (two_lt hx)⟩
theorem ballM_len (l:List Int) (x:Int):(ballM l x).length<=8:=setF_len
theorem closedM {l:List Int} (h:netB l=true) (u:Unit) {x:Nat} (hx:x<l.length):F_q38q 0 ((l,u),(x:Int),())=some ((((fromI l).getD x 0|||2 ^ x:Nat):Int),()):=by
 obtain ⟨e,hm,h8,hb⟩:=netB_parts h
 unfold F_q38q
 have i1:idxIn (x:Int) l.length=true:=idxIn_nat hx
 have e1:at_ I l x=(((fromI l).getD x 0:Nat):Int):=by
  have:=at_toI (fromI l) x
  rw [<- e] at this
  exact this
 simp only [i1,if_true,nonneg_dec,Int.toNat_natCast,e1,shl_one (show x<8 by omega),bits_or (hm.2 x) (pow_small (show x<8 by omega))]
theorem setOfM {l:List Int} (h:netB l=true) {x:Nat} (hx:x<l.length):G_setOf ((((fromI l).getD x 0|||2 ^ x:Nat):Int),())=some (ballM l (x:Int),()):=by
 have hm:=(maskM h hx).1
 unfold G_setOf
 have b2:decide ((((fromI l).getD x 0|||2 ^ x:Nat):Int)<256)=true:=by
  simp only [decide_eq_true_eq]
  omega
 simp only [nonneg_dec,b2,Bool.and_self,if_true,Int.toNat_natCast]
 rfl
theorem inB_len {n:Nat} {x:Int} (h:inB 0 ((n:Int)-1) x=true):x=(x.toNat:Int)/\x.toNat<n:=by
 have:=inB_iff.1 h
 omega
theorem at_midS (pre:Tab) (x:List Int) (post:Tab):at_ K_Si (pre++x::post) pre.length=x:=by
 rw [at_get (e:=K_Si) (by simp)]
 simp
theorem set_midS (pre:Tab) (x y:List Int) (post:Tab):List.set (pre++x::post) pre.length y=pre++y::post:=by simp
theorem netB_net {n:Nat} (hn:n<=8) {es:List E} (h:es.all (edgeB (n:Int))=true):netB (toI (netN n es))=true/\(toI (netN n es)).length=n:=by
 have hok:=netN_ok hn h
 have hl:(toI (netN n es)).length=n:=by rw [toI_len,hok.1]
 refine ⟨?_,hl⟩
 unfold netB
 rw [small_toI hok hn,Bool.true_and,List.all_eq_true,hl]
 intro m hm
 unfold toI at hm
 obtain ⟨a,ha,rfl⟩:=List.mem_map.1 hm
 obtain ⟨i,hi,rfl⟩:=List.getElem_of_mem ha
 have hlt:(netN n es)[i]<2 ^ n:=by
  refine Nat.lt_pow_two_of_testBit _ fun j hj => ?_
  have hb:=netN_bit hn h i j
  unfold hasN at hb
  simp only [List.getD_eq_getElem?_getD,List.getElem?_eq_getElem hi,Option.getD_some] at hb
  rw [hb,isE_near es h]
  cases hnr:nearI es (i:Int) (j:Int) with
  | false=>rfl
  | true=>have:=near_lt h hnr;omega
 simp only [decide_eq_true_eq]
 omega
theorem ball_same {n:Nat} (hn:n<=8) {es:List E} (h:es.all (edgeB (n:Int))=true) {x:Nat} (hx:x<n):ballM (toI (netN n es)) (x:Int)=ballF n es (x:Int):=by
 unfold ballM ballF
 have hok:=netN_ok hn h
 have hM:isM n ((netN n es).getD x 0|||2 ^ x) (fun y=>nearI es (x:Int) (y:Int)||decide ((y:Int)=(x:Int))):=by
  refine ⟨Nat.or_lt_two_pow (n:=8) (hok.2 x) (pow_small (by omega)),fun w => ?_⟩
  rw [Nat.testBit_or,Nat.testBit_two_pow]
  have hb:=netN_bit hn h x w
  unfold hasN at hb
  rw [hb,isE_near es h]
  apply Bool.eq_iff_iff.2
  simp only [Bool.or_eq_true,Bool.and_eq_true,decide_eq_true_eq]
  constructor
  ·rintro (h' | h')
   ·exact ⟨near_lt h h',.inl h'⟩
   ·subst h'
    exact ⟨hx,.inr rfl⟩
  ·rintro ⟨h1,h2 | h2⟩
   ·exact .inl h2
   ·exact .inr (by omega)
 simp only [toI_from,Int.toNat_natCast]
 exact setF_mask hn hM
theorem graph_grB {n:Int} {l:List E} {v:Unit} (h:graphB (n,l,v)=true) (hl:okL l=true):grB (n,l,v)=true:=by
 have h8:=graphB_n h
 have he:=(graphB_edges h).1
 unfold grB
 have e1:decide (0<=n)=true:=by simp;omega
 have e2:decide (n<=8)=true:=by simp;omega
 simp only [hl,e1,e2,he,Bool.and_self]
end Go.V.W
namespace Go.V.W
open Go.Proofs
theorem loop_keep {H O γ α:Type} {L:Nat->H->Option O} {r:(H->Option O)->H->Option O} (hL:∀k d,L (k+1) d=r (L k) d) (l:List γ) {mk:Nat->List α->H} {f:γ->List α} (hf1:∀x,(f x).length<=1) {o:List α->O}
  (hr:∀back i (hi:i<l.length) A,A.length<=i->r back (mk i A)=back (mk (i+1) (A++f l[i]))) (hf:∀back A,A.length<=l.length->r back (mk l.length A)=some (o A)) :
  ∀k,l.length<=k->L (k+1) (mk 0 [])=some (o (l.flatMap f)):=by
 have key:∀k i A,i<=l.length->l.length<=i+k->A.length<=i->L (k+1) (mk i A)=some (o (A++(l.drop i).flatMap f)):=by
  intro k
  induction k with
  | zero=>
   intro i A h1 h2 h3
   have e:i=l.length:=by omega
   subst e
   rw [hL,hf _ _ h3,List.drop_of_length_le (Nat.le_refl _)]
   simp
  | succ k ih=>
   intro i A h1 h2 h3
   by_cases h:i<l.length
   ·have hh:=hf1 l[i]
    rw [hL,hr _ i h A h3,ih (i+1) _ (by omega) (by omega) (by simp;omega),List.drop_eq_getElem_cons h,List.flatMap_cons,List.append_assoc]
   ·have e:i=l.length:=by omega
    subst e
    rw [hL,hf _ _ h3,List.drop_of_length_le (Nat.le_refl _)]
    simp
 intro k h
 have:=key k 0 [] (Nat.zero_le _) (by omega) (Nat.le_refl _)
 simpa using this
theorem flat_filter {α:Type} (p:α->Bool):∀l:List α,(l.flatMap fun y=>if p y=true then [y] else [])=l.filter p:=by
 intro l
 induction l with
 | nil=>rfl
 | cons x l ih=>
  rw [List.flatMap_cons,ih,List.filter_cons]
  split<;>simp
theorem flat_setF (p:Nat->Bool):∀k x,((List.range' x k).flatMap fun y=>if p y=true then [(y:Int)] else [])=setF p k x:=by
 intro k
 induction k with
 | zero=>intro x;rfl
 | succ k ih=>
  intro x
  rw [List.range'_succ,List.flatMap_cons,ih]
  show _=if p x=true then (x:Int)::setF p k (x+1) else setF p k (x+1)
  split<;>simp
theorem one_len {α:Type} {c:Prop} [Decidable c] {x:α}:(if c then [x] else []).length<=1:=by split<;>simp
theorem nat_of {n:Int} (h:0<=n):∃a:Nat,n=(a:Int):=⟨n.toNat,by omega⟩
theorem l2Bits_lim (d) (r) (h:G_l2Bits d=some r):∃N,F_q74q N d=some r:=by
 obtain ⟨n,m,_⟩:=d
 unfold G_l2Bits at h
 split at h
 ·rename_i hc
  simp only [Bool.and_eq_true] at hc
  obtain ⟨hn,hm⟩:=hc
  have hn:=inB_iff.1 hn
  have hm:=inB_iff.1 hm
  obtain ⟨a,rfl⟩:=nat_of hn.1
  obtain ⟨b,rfl⟩:=nat_of hm.1
  have h:=Option.some.inj h
  subst h
  refine ⟨20,?_⟩
  unfold F_q74q
  have:=loop_keep (L:=q74q_l0 20) (r:=q74q_l0_r 20) (fun _ _=>rfl) (List.range' 0 a) (mk:=fun i A=>((a:Int),(b:Int),A,(i:Int),())) (f:=fun y=>if b.testBit y=true then [(y:Int)] else []) (o:=fun A=>.inl (A,())) (fun x=>one_len) (by
    intro back i hi A hA
    simp only [List.length_range'] at hi
    unfold q74q_l0_r
    have hle:decide (A.length+List.length [(i:Int)]<=lim)=true:=by unfold lim;simp;omega
    simp only [lt_dec hi,if_true,nonneg_dec,has_bit (show b<256 by omega) (show i<8 by omega),hle,wrap8 hi (by omega),List.getElem_range',Nat.one_mul,Nat.zero_add]
    by_cases hb:b.testBit i=true
    ·simp only [hb,if_true]
    ·simp only [hb,if_false,List.append_nil,Bool.false_eq_true])
   (by
    intro back A hA
    unfold q74q_l0_r
    simp only [List.length_range',lt_not,Bool.false_eq_true,if_false]) 19 (by simp;omega)
  rw [flat_setF] at this
  simp only [Int.natCast_zero] at this
  simp only [this,Option.bind_some,Int.toNat_natCast]
 ·cases h
theorem before_eq (a b:E) (u:Unit):g_q51q (a,b,u)=(lessE a b,()):=by
 unfold g_q51q lessE
 by_cases h:a.1<b.1
 ·simp [h]
 ·by_cases h2:a.1=b.1
  ·simp [h2]
  ·simp [h,h2]
theorem insE_low (e:E):∀l:List E,∃k,k<=l.length/\(∀j (hj:j<l.length),j<k->lessE l[j] e=true)/\(∀hk:k<l.length,lessE l[k] e=false)/\insE e l=l.take k++[e]++l.drop k:=by
 intro l
 induction l with
 | nil=>exact ⟨0,Nat.le_refl _,fun j hj=>absurd hj (by simp),fun hk=>absurd hk (by simp),rfl⟩
 | cons a l ih=>
  by_cases h:lessE a e=true
  ·obtain ⟨k,h1,h2,h3,h4⟩:=ih
   refine ⟨k+1,by simp;exact h1,fun j hj hjk => ?_,fun hk => ?_,?_⟩
   ·cases j with
    | zero=>exact h
    | succ j=>exact h2 j (by simpa using hj) (by omega)
   ·exact h3 (by simpa using hk)
   ·simp only [insE,h,if_true,h4,List.take_succ_cons,List.drop_succ_cons,List.cons_append]
  ·refine ⟨0,Nat.zero_le _,fun j hj hjk=>absurd hjk (by omega),fun hk=>by simpa using h,?_⟩
   simp only [insE,h,if_false,List.take_zero,List.drop_zero,List.nil_append,List.singleton_append,Bool.false_eq_true]
theorem l2Put_lim (d) (r) (h:G_l2Put d=some r):∃N,F_spec_l2Put N d=some r:=by
 obtain ⟨l,e,_⟩:=d
 unfold G_l2Put at h
 split at h
 ·rename_i hc
  have hl:l.length<=1000:=of_decide_eq_true hc
  have hmx:l.length<=maxLen:=by unfold maxLen;omega
  have h:=Option.some.inj h
  subst h
  obtain ⟨k,h1,h2,h3,h4⟩:=insE_low e l
  refine ⟨l.length+2,?_⟩
  have key:∀q i f,i+q=k->q<f->spec_l2Put_l0 (l.length+2) f (l,e,(i:Int),())=some (.inl (l,e,(k:Int),())):=by
   intro q
   induction q with
   | zero=>
    intro i f e1 e2
    obtain ⟨f,rfl⟩:∃m,f=m+1:=⟨f-1,by omega⟩
    have ei:i=k:=by omega
    subst ei
    show spec_l2Put_l0_r _ _ _=_
    unfold spec_l2Put_l0_r
    by_cases hi:i<l.length
    ·have ea:at_ K_Piiq l i=l[i]:=at_get (e:=K_Piiq) hi
     simp only [lt_dec hi,if_true,idxIn_nat hi,Int.toNat_natCast,ea,before_eq,h3 hi,Bool.false_eq_true,if_false]
    ·have ei:i=l.length:=by omega
     subst ei
     simp only [lt_not,Bool.false_eq_true,if_false]
   | succ q ih=>
    intro i f e1 e2
    obtain ⟨f,rfl⟩:∃m,f=m+1:=⟨f-1,by omega⟩
    have hi:i<l.length:=by omega
    show spec_l2Put_l0_r _ _ _=_
    unfold spec_l2Put_l0_r
    have ea:at_ K_Piiq l i=l[i]:=at_get (e:=K_Piiq) hi
    simp only [lt_dec hi,if_true,idxIn_nat hi,Int.toNat_natCast,ea,before_eq,h2 i hi (by omega),wrap_up hi hmx]
    exact ih (i+1) f (by omega) (by omega)
  have:=key k 0 (l.length+2) (by omega) (by omega)
  simp only [Int.natCast_zero] at this
  unfold F_spec_l2Put
  have c1:(decide (0<=(0:Int))&&decide ((0:Int)<=(k:Int))&&decide ((k:Int)<=(l.length:Int)))=true:=by simp;omega
  have s1:sub_ l 0 (k:Int)=l.take k:=by unfold sub_;simp
  have s2:sub_ l (k:Int) (l.length:Int)=l.drop k:=by unfold sub_;simp
  have c2:decide (List.length ([]:List E)+(l.take k).length<=lim)=true:=by unfold lim;simp;omega
  have c3:decide ((([]:List E)++l.take k).length+List.length [e]<=lim)=true:=by unfold lim;simp;omega
  have c4:(decide (0<=(k:Int))&&decide ((k:Int)<=(l.length:Int))&&decide ((l.length:Int)<=(l.length:Int)))=true:=by simp;omega
  have c5:decide ((([]:List E)++l.take k++[e]).length+(l.drop k).length<=lim)=true:=by unfold lim;simp;omega
  simp only [this,Option.bind_some,c1,if_true,s1,c2,c3,c4,s2,c5]
  rw [h4]
  simp
 ·cases h
theorem cloneI_lim (d) (r) (h:G_toIntS d=some r):∃N,F_q8q N d=some r:=by
 obtain ⟨l,_⟩:=d
 unfold G_toIntS at h
 split at h
 ·rename_i hl
  have hl:l.length<=lim:=of_decide_eq_true hl
  have h:=Option.some.inj h
  subst h
  refine ⟨0,?_⟩
  unfold F_q8q
  have h1:decide (List.length ([]:List Int)+l.length<=lim)=true:=by simp [hl]
  simp only [h1,if_true,List.nil_append]
  split
  ·rename_i h0
   have:l=[]:=List.length_eq_zero_iff.1 (of_decide_eq_true h0)
   subst this
   simp [both]
  ·rfl
 ·cases h
end Go.V.W
namespace Go.V.W
open Go.Proofs
theorem filter_setF (p:Nat->Bool) (q:Int->Bool):∀k x,(setF p k x).filter q=setF (fun y=>p y&&q (y:Int)) k x:=by
 intro k
 induction k with
 | zero=>intro x;rfl
 | succ k ih=>
  intro x
  show (if p x=true then (x:Int)::setF p k (x+1) else setF p k (x+1)).filter q=if (p x&&q (x:Int))=true then (x:Int)::setF (fun y=>p y&&q (y:Int)) k (x+1) else setF (fun y=>p y&&q (y:Int)) k (x+1)
  cases hp:p x with
  | false=>simp [ih]
  | true=>
   simp only [if_true,List.filter_cons,ih,Bool.true_and]
theorem all_mask {n:Nat} (h:n<=8):IntKind.wrap .i64 (shl .i64 1 (n:Int)-1)=((2 ^ n-1:Nat):Int)/\2 ^ n-1<=255:=by
 have:n=0\/n=1\/n=2\/n=3\/n=4\/n=5\/n=6\/n=7\/n=8:=by omega
 rcases this with rfl | rfl | rfl | rfl | rfl | rfl | rfl | rfl | rfl<;>decide
theorem all_some {n:Nat} (hn:n<=8) (es:List E) (u v:Unit):F_spec_l2All 0 (((n:Int),es,u),v)=some (setF (fun _=>true) n 0,()):=by
 unfold F_spec_l2All
 obtain ⟨m1,m2⟩:=all_mask hn
 have i1:inB 0 8 (n:Int)=true:=inB_iff.2 (by omega)
 have i2:inB 0 255 ((2 ^ n-1:Nat):Int)=true:=inB_iff.2 (by omega)
 simp only [nonneg_dec,if_true,m1,G_l2Bits,i1,i2,Bool.and_self,Option.bind_some,Int.toNat_natCast]
 congr 2
 refine setF_congr fun y _ hy => ?_
 rw [Nat.testBit_two_pow_sub_one]
 exact decide_eq_true (by omega)
theorem find_idx {α:Type} (p:α->Bool):∀l:List α,l.any p=true -> ∃j,∃hj:j<l.length,p l[j]=true/\(∀i (hi:i<l.length),i<j->p l[i]=false)/\l.find? p=some l[j]:=by
 intro l
 induction l with
 | nil=>intro h;cases h
 | cons a l ih=>
  intro h
  cases hp:p a with
  | true=>exact ⟨0,by simp,hp,fun i hi hij=>absurd hij (by omega),by simp [List.find?_cons,hp]⟩
  | false=>
   rw [List.any_cons,hp,Bool.false_or] at h
   obtain ⟨j,hj,h1,h2,h3⟩:=ih h
   refine ⟨j+1,by simp;exact hj,h1,fun i hi hij => ?_,?_⟩
   ·cases i with
    | zero=>exact hp
    | succ i=>exact h2 i (by simpa using hi) (by omega)
   ·rw [List.find?_cons,hp]
    exact h3
theorem ball_self {n:Nat} (es:List E) {x:Nat} (hx:x<n):(x:Int)∈ballF n es (x:Int):=setF_mem.2 ⟨x,Nat.zero_le _,by omega,by simp,rfl⟩
end Go.V.W
namespace Go.V.W
open Go.Proofs
theorem bit_255 (i:Nat):(255:Nat).testBit i=decide (i<8):=Nat.testBit_two_pow_sub_one 8 i
theorem bits_andNot {a b:Nat} (ha:a<256) (hb:b<256):bits .andNot .i64 (a:Int) (b:Int)=((a&&&(255^^^b):Nat):Int):=by
 have hab:a&&&(255^^^b)<=a:=Nat.and_le_left
 have e:(BitVec.ofInt IntKind.i64.bits (a:Int) &&& ~~~BitVec.ofInt IntKind.i64.bits (b:Int)).toNat=a&&&(255^^^b):=by
  show (BitVec.ofInt 64 (a:Int) &&& ~~~BitVec.ofInt 64 (b:Int)).toNat=a&&&(255^^^b)
  rw [ofInt_nat,ofInt_nat]
  refine Nat.eq_of_testBit_eq fun i => ?_
  rw [BitVec.testBit_toNat,BitVec.getLsbD_and,BitVec.getLsbD_not,BitVec.getLsbD_ofNat,BitVec.getLsbD_ofNat,Nat.testBit_and,Nat.testBit_xor,bit_255]
  by_cases h:i<8
  ·have h2:i<64:=by omega
   simp [h,h2]
  ·have:a.testBit i=false:=Nat.testBit_lt_two_pow (Nat.lt_of_lt_of_le (show a<2 ^ 8 from ha) (Nat.pow_le_pow_right (by omega) (by omega)))
   simp [this]
 unfold bits bitI
 simp only [Option.getD_some]
 rw [e]
 exact wrap_nat (by omega)
theorem maskN_fold (n:Nat) (hn:n<=8):∀(l:List Int) (s:Nat) (p:Nat->Bool),isM n s p->(∀y∈l,0<=y/\y<=(n:Int)-1)->isM n (l.foldl (fun a x=>a|||2 ^ x.toNat) s) (fun y=>p y||hasL l (y:Int)):=by
 intro l
 induction l with
 | nil=>intro s p h _;exact ⟨h.1,fun y=>by simp [h.2 y,hasL]⟩
 | cons x l ih=>
  intro s p h hl
  have hx:=hl x (by simp)
  rw [List.foldl_cons]
  have h2:isM n (s|||2 ^ x.toNat) (fun y=>p y||(x==(y:Int))):=by
   refine ⟨Nat.or_lt_two_pow (n:=8) h.1 (pow_small (by omega)),fun y => ?_⟩
   rw [Nat.testBit_or,h.2 y,Nat.testBit_two_pow,Bool.eq_iff_iff]
   simp only [Bool.or_eq_true,Bool.and_eq_true,decide_eq_true_eq,beq_iff_eq]
   constructor
   ·rintro (⟨a,b⟩ | a)
    ·exact ⟨a,.inl b⟩
    ·exact ⟨by omega,.inr (by omega)⟩
   ·rintro ⟨a,b | b⟩
    ·exact .inl ⟨a,b⟩
    ·exact .inr (by omega)
  have:=ih _ _ h2 fun y hy=>hl y (by simp [hy])
  refine ⟨this.1,fun y => ?_⟩
  rw [this.2 y]
  simp only [hasL,List.any_cons,Bool.or_assoc]
theorem maskN_isM {n:Nat} (hn:n<=8) {l:List Int} (h:∀y∈l,0<=y/\y<=(n:Int)-1):isM n (maskN l) (fun y=>hasL l (y:Int)):=by
 have:=maskN_fold n hn l 0 (fun _=>false) ⟨by omega,fun y=>by simp⟩ h
 exact ⟨this.1,fun y=>by rw [show maskN l=l.foldl (fun a x=>a|||2 ^ x.toNat) 0 from rfl,this.2 y];rfl⟩
theorem maskOf_l0 (N:Nat) (l:List Int) (hl:l.length<=lim) (hr:∀y∈l,0<=y/\y<=7):∀k i f (s:Nat),i+k=l.length->k<f->s<256 ->
  q82q_l0 N f ((s:Int),l,(l.length:Int),(i:Int),())=some (.inl ((((l.drop i).foldl (fun a x=>a|||2 ^ x.toNat) s:Nat):Int),())):=by
 intro k
 induction k with
 | zero=>
  intro i f s e1 e2 e3
  obtain ⟨f,rfl⟩:∃m,f=m+1:=⟨f-1,by omega⟩
  have e:i=l.length:=by omega
  subst e
  rw [List.drop_of_length_le (Nat.le_refl _)]
  simp [q82q_l0,q82q_l0_r]
 | succ k ih=>
  intro i f s e1 e2 e3
  obtain ⟨f,rfl⟩:∃m,f=m+1:=⟨f-1,by omega⟩
  have hi:i<l.length:=by omega
  have hx:=hr l[i] (List.getElem_mem hi)
  obtain ⟨y,ey⟩:=nat_of hx.1
  have ea:at_ I l i=(y:Int):=(at_get (e:=I) hi).trans ey
  have hy:y<8:=by omega
  show q82q_l0_r N (q82q_l0 N f) _=_
  unfold q82q_l0_r
  simp only [lt_dec hi,if_true,idxIn_nat hi,Int.toNat_natCast,ea,nonneg_dec,shl_one hy,bits_or e3 (pow_small hy),wrap_up hi (lim_max hl)]
  rw [ih (i+1) f _ (by omega) (by omega) (Nat.or_lt_two_pow (n:=8) e3 (pow_small hy)),List.drop_eq_getElem_cons hi,List.foldl_cons,ey,Int.toNat_natCast]
theorem maskOf_lim (d) (r) (h:G_maskOf d=some r):∃N,F_q82q N d=some r:=by
 obtain ⟨l,_⟩:=d
 unfold G_maskOf at h
 split at h
 ·rename_i hc
  simp only [Bool.and_eq_true] at hc
  have h:=Option.some.inj h
  subst h
  refine ⟨l.length+1,?_⟩
  unfold F_q82q
  have:=maskOf_l0 (l.length+1) l (okL_lim hc.1) (fun y hy=>inB_iff.1 (List.all_eq_true.1 hc.2 y hy)) l.length 0 (l.length+1) 0 (by omega) (by omega) (by omega)
  simp only [Int.natCast_zero,List.drop_zero] at this
  simp only [this,Option.bind_some]
  rfl
 ·cases h
theorem has_nodes (n:Int) (es:List E) (v u:Unit) (l:List Int) (ho:okL es=true) (hl:okL l=true):F_q53q 0 ((n,es,v),l,u)=some (graphB (n,es,v)&&l.all (inB 0 (n-1)),()):=by
 unfold F_q53q G_graph G_allWithin
 simp only [ho,hl,if_true,Option.bind_some]
 cases hg:graphB (n,es,v) with
 | false=>rfl
 | true=>
  have:=graphB_n hg
  have hw:IntKind.wrap .i64 (n-1)=n-1:=wrap_in _ (by omega) (by omega)
  simp only [if_true,hw,Bool.true_and,Option.bind_some]
theorem net_some {n:Nat} {es:List E} {v u:Unit} (hg:graphB ((n:Int),es,v)=true) (ho:okL es=true):G_netOf (((n:Int),es,v),u)=some ((toI (netN n es),()),()):=by
 obtain ⟨h0,h8⟩:=graphB_n hg
 obtain ⟨g1,g2⟩:=graphB_edges hg
 unfold G_netOf
 have a1:(decide (0<=(n:Int))&&decide ((n:Int)<=8)&&okL es&&es.all (edgeB (n:Int)))=true:=by simp only [h0,h8,ho,g1,decide_true,Bool.and_self]
 simp only [a1,if_true,Int.toNat_natCast]
theorem hasN_near {n:Nat} (hn:n<=8) {es:List E} (h:es.all (edgeB (n:Int))=true) (x y:Nat):hasN (netN n es) x y=nearI es (x:Int) (y:Int):=by rw [netN_bit hn h,isE_near es h]
end Go.V.W
namespace Go.V.W
open Go.Proofs
theorem rising_low:∀{l:List Int} {a:Int},risingB (a::l)=true -> ∀y∈l,a<y:=by
 intro l
 induction l with
 | nil=>intro a _ y hy;cases hy
 | cons b l ih=>
  intro a h y hy
  simp only [risingB,Bool.and_eq_true,decide_eq_true_eq] at h
  rcases List.mem_cons.1 hy with rfl | hy
  ·exact h.1
  ·have:=ih h.2 y hy
   omega
theorem rising_tail {l:List Int} {a:Int} (h:risingB (a::l)=true):risingB l=true:=by
 cases l with
 | nil=>rfl
 | cons b l=>
  simp only [risingB,Bool.and_eq_true] at h
  exact h.2
theorem hasL_setF {p:Nat->Bool} {n y:Nat} (hy:y<n):hasL (setF p n 0) (y:Int)=p y:=any_setF hy
def InvC (n:Nat) (ball:Int->List Int) (f:Nat->Nat->Int):Prop := ∀c r,c<n->r<n->1<=f c r -> ∃b∈ball (c:Int),0<=afterT ball (tabL n f) b (r:Int)/\afterT ball (tabL n f) b (r:Int)+1=f c r
theorem after_keep {n:Nat} {ball:Int->List Int} (hb:okBall n ball) {t:Nat} {f:Nat->Nat->Int} {b r:Nat} (hbn:b<n) (hr:r<n) (h:0<=afterT ball (tabL n f) (b:Int) (r:Int)) :
  afterT ball (tabL n (stepF n ball (t:Int) f)) (b:Int) (r:Int)=afterT ball (tabL n f) (b:Int) (r:Int):=by
 unfold afterT at h |-
 by_cases hbr:(b:Int)=(r:Int)
 ·rw [if_pos hbr,if_pos hbr]
 ·rw [if_neg hbr] at h |-
  rw [if_neg hbr]
  rcases worst_spec (tab2 (tabL n f) (b:Int)) (ball (r:Int)) 0 with ⟨_,h'⟩ | ⟨hall,_,_⟩
  ·omega
  ·refine worst_congr fun x hx => ?_
   obtain ⟨y,hy,rfl⟩:=hb r hr x hx
   have:=(hall (y:Int) hx).1
   rw [tab2_tabL _ hbn hy] at this
   rw [tab2_tabL _ hbn hy,tab2_tabL _ hbn hy]
   refine if_neg fun hcan => ?_
   unfold canF at hcan
   simp only [Bool.and_eq_true,decide_eq_true_eq] at hcan
   omega
theorem InvC.next {n:Nat} {ball:Int->List Int} (hb:okBall n ball) {t:Nat} {f:Nat->Nat->Int} (hI:InvT n ball t f) (hC:InvC n ball f):InvC n ball (stepF n ball (t:Int) f):=by
 intro c r hc hr h
 by_cases hcan:canF n ball f c r=true
 ·have e:stepF n ball (t:Int) f c r=(t:Int):=if_pos hcan
  rw [e]
  unfold canF at hcan
  simp only [Bool.and_eq_true,decide_eq_true_eq,List.any_eq_true] at hcan
  obtain ⟨hf,b,hbm,h0⟩:=hcan
  have h1:=hI.none c r hc hr hf b hbm
  have h2:=after_high hb hI hc hr hbm
  obtain ⟨b',hb1,rfl⟩:=hb c hc b hbm
  refine ⟨_,hbm,?_⟩
  rw [after_keep hb hb1 hr h0]
  omega
 ·have e:stepF n ball (t:Int) f c r=f c r:=if_neg hcan
  rw [e] at h |-
  obtain ⟨b,hbm,h0,h1⟩:=hC c r hc hr h
  obtain ⟨b',hb1,rfl⟩:=hb c hc b hbm
  refine ⟨_,hbm,?_⟩
  rw [after_keep hb hb1 hr h0]
  exact ⟨h0,h1⟩
end Go.V.W
namespace Go.V.W
open Go.Proofs
section moves
variable {a:Nat} {es:List E} {v:Unit}
theorem edges_of (hg:graphB ((a:Int),es,v)=true):a<=8/\es.all (edgeB (a:Int))=true/\risingE es=true:=by
 have:=graphB_n hg
 have:=graphB_edges hg
 exact ⟨by omega,this.1,this.2⟩
theorem closed_bit (hg:graphB ((a:Int),es,v)=true) {c:Nat} (hc:c<a) (u w:Unit):∃k:Nat,k<256/\F_q38q 0 ((toI (netN a es),u),(c:Int),w)=some ((k:Int),()) /\ ∀y,y<a->k.testBit y=hasL (ballF a es (c:Int)) (y:Int):=by
 obtain ⟨ha,g1,g2⟩:=edges_of hg
 obtain ⟨nb,nl⟩:=netB_net ha g1
 have hc':c<(toI (netN a es)).length:=by rw [nl];exact hc
 refine ⟨_,(maskM nb hc').1,closedM nb u hc',fun y hy => ?_⟩
 rw [<- ball_same ha g1 hc]
 unfold ballM
 rw [Int.toNat_natCast]
 exact (hasL_setF (p:=fun y=>((fromI (toI (netN a es))).getD c 0|||2 ^ c).testBit y) (show y<8 by omega)).symm
theorem has_bit0 {k y:Nat} (hk:k<256) (h:y<8):(bits .and .i64 (shr .i64 (k:Int) (y:Int)) 1==(0:Int)) = !k.testBit y:=by
 have h1:k>>>y<256:=by
  rw [Nat.shiftRight_eq_div_pow]
  exact Nat.lt_of_le_of_lt (Nat.div_le_self _ _) hk
 have h2:=has_bit hk h
 rw [shr_nat h] at h2 |-
 have:=bits_and h1 (show 1<256 by omega)
 rw [show ((1:Nat):Int)=1 from rfl] at this
 rw [this] at h2 |-
 rw [<- h2,Nat.and_one_is_mod]
 have:k>>>y % 2=0\/k>>>y % 2=1:=by omega
 rcases this with h | h<;>simp [h]
end moves
end Go.V.W
namespace Go.V.W
open Go.Proofs
theorem same_drop {α:Type} {l m:List α} {i:Nat} (hi:i<l.length) (hi':i<m.length):(l.drop i=m.drop i)=(l[i]=m[i]/\l.drop (i+1)=m.drop (i+1)):=by
 rw [List.drop_eq_getElem_cons hi,List.drop_eq_getElem_cons hi',List.cons.injEq]
theorem l1Same_lim (d) (r) (h:G_l1Same d=some r):∃N,F_q85q N d=some r:=by
 obtain ⟨l,m,_⟩:=d
 unfold G_l1Same at h
 split at h
 ·rename_i hl
  have hl:l.length<=lim:=of_decide_eq_true hl
  have hmx:=lim_max hl
  have h:=Option.some.inj h
  subst h
  refine ⟨l.length+1,?_⟩
  unfold F_q85q
  by_cases hm:l.length=m.length
  ·have hne:((List.length l:Int) != (List.length m:Int))=false:=by simp [hm]
   have key:∀n i,l.length<=i+n->i<=l.length->q85q_l0 (l.length+1) (n+1) (l,m,(i:Int),())=if l.drop i=m.drop i then some (.inr (.inl ())) else some (.inl (false,())):=by
    intro n
    induction n with
    | zero=>
     intro i h1 h2
     have e:i=l.length:=by omega
     subst e
     rw [List.drop_of_length_le (by omega),List.drop_of_length_le (by omega)]
     simp [q85q_l0,q85q_l0_r]
    | succ n ih=>
     intro i h1 h2
     by_cases hi:i<l.length
     ·have hi':i<m.length:=by omega
      show q85q_l0_r _ (q85q_l0 _ (n+1)) (l,m,(i:Int),())=_
      unfold q85q_l0_r
      have e1:at_ I l i=l[i]:=at_get (e:=I) hi
      have e2:at_ I m i=m[i]:=at_get (e:=I) hi'
      simp only [lt_dec hi,if_true,idxIn_nat hi,idxIn_nat hi',Int.toNat_natCast,e1,e2,wrap_up hi hmx,ih (i+1) (by omega) (by omega),same_drop hi hi']
      by_cases he:l[i]=m[i]
      ·simp only [he,bne_self_eq_false,Bool.false_eq_true,if_false,true_and]
      ·have he':(l[i] != m[i])=true:=by simpa using he
       simp only [he',he,if_true,false_and,if_false]
     ·have e:i=l.length:=by omega
      subst e
      rw [List.drop_of_length_le (by omega),List.drop_of_length_le (by omega)]
      simp [q85q_l0,q85q_l0_r]
   have:=key l.length 0 (by omega) (by omega)
   simp only [Int.natCast_zero,List.drop_zero] at this
   simp only [hne,Bool.false_eq_true,if_false,this]
   by_cases he:l=m
   ·simp [he]
   ·simp [he]
  ·have hne:((List.length l:Int) != (List.length m:Int))=true:=by simp;omega
   have he:¬l=m:=fun e=>hm (by rw [e])
   simp [hne,he]
 ·cases h
theorem l4Less_lim (d) (r) (h:G_l4Less d=some r):∃N,F_q84q N d=some r:=by
 obtain ⟨l,m,_⟩:=d
 unfold G_l4Less at h
 split at h
 ·rename_i hc
  simp only [Bool.and_eq_true,decide_eq_true_eq] at hc
  have hl:l.length<=lim:=okL_lim hc.1
  have hm:l.length=m.length:=hc.2
  have hmx:=lim_max hl
  have h:=Option.some.inj h
  subst h
  refine ⟨l.length+1,?_⟩
  unfold F_q84q
  have key:∀n i,l.length<=i+n->i<=l.length -> ∃o,q84q_l0 (l.length+1) (n+1) (l,m,(i:Int),())=some o/\(o=.inl (decide (cmpL (l.drop i) (m.drop i)<0),())\/(o=.inr (.inl ())/\decide (cmpL (l.drop i) (m.drop i)<0)=false)):=by
   intro n
   induction n with
   | zero=>
    intro i h1 h2
    have e:i=l.length:=by omega
    subst e
    rw [List.drop_of_length_le (by omega),List.drop_of_length_le (by omega)]
    exact ⟨_,by simp [q84q_l0,q84q_l0_r],.inr ⟨rfl,rfl⟩⟩
   | succ n ih=>
    intro i h1 h2
    by_cases hi:i<l.length
    ·have hi':i<m.length:=by omega
     show ∃o,q84q_l0_r _ (q84q_l0 _ (n+1)) (l,m,(i:Int),())=some o/\_
     unfold q84q_l0_r
     have e1:at_ I l i=l[i]:=at_get (e:=I) hi
     have e2:at_ I m i=m[i]:=at_get (e:=I) hi'
     rw [List.drop_eq_getElem_cons hi,List.drop_eq_getElem_cons hi']
     simp only [lt_dec hi,if_true,idxIn_nat hi,idxIn_nat hi',Int.toNat_natCast,e1,e2,wrap_up hi hmx,cmpL]
     by_cases he:l[i]=m[i]
     ·have a1:¬l[i]<m[i]:=by omega
      have a2:¬m[i]<l[i]:=by omega
      simp only [he,bne_self_eq_false,Bool.false_eq_true,if_false,Int.lt_irrefl]
      exact ih (i+1) (by omega) (by omega)
     ·have he':(l[i] != m[i])=true:=by simpa using he
      simp only [he',if_true]
      refine ⟨_,rfl,.inl ?_⟩
      by_cases a1:l[i]<m[i]
      ·simp [a1]
      ·have a2:m[i]<l[i]:=by omega
       simp [a1,a2]
    ·have e:i=l.length:=by omega
     subst e
     rw [List.drop_of_length_le (by omega),List.drop_of_length_le (by omega)]
     exact ⟨_,by simp [q84q_l0,q84q_l0_r],.inr ⟨rfl,rfl⟩⟩
  obtain ⟨o,o1,o2⟩:=key l.length 0 (by omega) (by omega)
  simp only [Int.natCast_zero,List.drop_zero] at o1 o2
  simp only [o1,Option.bind_some]
  rcases o2 with rfl | ⟨rfl,o3⟩
  ·rfl
  ·rw [o3]
 ·cases h
theorem l4At_lim (d) (r) (h:G_l4At d=some r):∃N,F_spec_l4At N d=some r:=by
 obtain ⟨xs,x,_⟩:=d
 unfold G_l4At at h
 split at h
 ·rename_i hc
  have hc:(okL xs&&xs.all okL)=true:=hc
  simp only [Bool.and_eq_true] at hc
  have hl:xs.length<=lim:=okL_lim hc.1
  have hmx:=lim_max hl
  have h:=Option.some.inj h
  subst h
  refine ⟨xs.length+1,?_⟩
  unfold F_spec_l4At
  have:=loop_idx (L:=spec_l4At_l0 (xs.length+1)) (r:=spec_l4At_l0_r (xs.length+1)) (fun _ _=>rfl) (e:=K_Si) xs (mk:=fun i=>(xs,x,(i:Int),())) (q:=fun y=>decide (y=x)) (o:=fun i=>.inl ((i:Int),())) (f:=.inr (.inl ()))
   (by
    intro back i hi
    have hx:at_ K_Si xs i=xs[i]:=at_get (e:=K_Si) hi
    have hs:G_l1Same (xs[i],x,())=some (decide (xs[i]=x),()):=by
     unfold G_l1Same
     rw [if_pos (List.all_eq_true.1 hc.2 xs[i] (List.getElem_mem hi))]
    unfold spec_l4At_l0_r
    simp only [lt_dec hi,if_true,idxIn_nat hi,Int.toNat_natCast,wrap_up hi hmx,hx,hs,Option.bind_some])
   (by intro back;unfold spec_l4At_l0_r;simp only [lt_not,Bool.false_eq_true,if_false]) xs.length 0 (by omega) (by omega)
  simp only [Int.natCast_zero,List.drop_zero] at this
  simp only [this,Option.bind_some]
  cases idxN (fun y=>decide (y=x)) xs 0<;>rfl
 ·cases h
end Go.V.W
namespace Go.V.W
open Go.Proofs
theorem ndB_iff:∀l:List Int,ndB l=true ↔ ∀j,0<j->j<l.length->at_ I l (j-1)<=at_ I l j:=by
 intro l
 induction l with
 | nil=>simp only [ndB,true_iff];intro j _ h;exact absurd h (by simp)
 | cons a l ih=>
  cases l with
  | nil=>simp only [ndB,true_iff];intro j h1 h2;simp only [List.length_cons,List.length_nil] at h2;omega
  | cons b l=>
   simp only [ndB,Bool.and_eq_true,ih,decide_eq_true_eq]
   constructor
   ·rintro ⟨h1,h2⟩ j h3 h4
    by_cases e:j=1
    ·subst e;exact h1
    ·have:=h2 (j-1) (by omega) (by simp only [List.length_cons] at h4 |-;omega)
     obtain ⟨k,rfl⟩:∃k,j=k+2:=⟨j-2,by omega⟩
     exact this
   ·intro h
    refine ⟨h 1 (by omega) (by simp),fun j h1 h2 => ?_⟩
    have:=h (j+1) (by omega) (by simp only [List.length_cons] at h2 |-;omega)
    obtain ⟨k,rfl⟩:∃k,j=k+1:=⟨j-1,by omega⟩
    exact this
theorem l4Cops_lim (d) (r) (h:G_l4Cops d=some r):∃N,F_q77q N d=some r:=by
 obtain ⟨⟨n,es,u⟩,l,_⟩:=d
 unfold G_l4Cops at h
 split at h
 ·rename_i hc
  simp only [Bool.and_eq_true,decide_eq_true_eq] at hc
  have hl:l.length<=lim:=okL_lim hc.1.1
  have h0:0<=n:=hc.1.2
  have h8:n<=8:=hc.2
  have hmx:=lim_max hl
  have h:=Option.some.inj h
  subst h
  refine ⟨l.length+1,?_⟩
  unfold F_q77q
  have:=loop_all (L:=fun k d=>q77q_l0 (l.length+1) k d) (r:=q77q_l0_r (l.length+1)) (fun _ _=>rfl) (n:=l.length) (mk:=fun i=>(l,(n,es,u),(i:Int),())) (p:=fun i=>inB 0 (n-1) (at_ I l i)&&(!decide (0<i)||decide (at_ I l (i-1)<=at_ I l i))) (o:=.inl (false,())) (f:=.inr (.inl ()))
   (by
    intro back i hi
    unfold q77q_l0_r
    have hn:g_q73q ((n,es,u),at_ I l i,())=(inB 0 (n-1) (at_ I l i),()):=by
     unfold g_q73q
     have hw:IntKind.wrap .i64 (n-1)=n-1:=wrap_in _ (by omega) (by omega)
     simp only [hw,l1In_eq]
    simp only [lt_dec hi,if_true,idxIn_nat hi,Int.toNat_natCast,hn,pos_dec,wrap_up hi hmx]
    cases inB 0 (n-1) (at_ I l i) with
    | false=>rfl
    | true=>
     simp only [Bool.not_true,Bool.false_eq_true,if_false,Bool.true_and]
     by_cases h0:0<i
     ·have h1:i-1<l.length:=by omega
      simp only [h0,decide_true,if_true,wrap_down h0 (show i<=maxLen by omega),idxIn_nat h1,Int.toNat_natCast,Bool.not_true,Bool.false_or]
      by_cases hc:at_ I l (i-1)<=at_ I l i
      ·have hc':¬(at_ I l (i-1)>at_ I l i):=Int.not_lt.2 hc
       simp only [hc,hc',decide_true,decide_false,if_true,Bool.false_eq_true,if_false]
      ·have hc':(at_ I l (i-1)>at_ I l i):=Int.not_le.1 hc
       simp only [hc,hc',decide_true,decide_false,if_true,Bool.false_eq_true,if_false]
     ·simp only [h0,decide_false,Bool.false_eq_true,if_false,Bool.not_false,Bool.true_or,if_true])
   (by intro back;unfold q77q_l0_r;simp only [lt_not,Bool.false_eq_true,if_false]) l.length 0 (by omega) (by omega)
  simp only [Int.natCast_zero] at this
  simp only [this,Nat.sub_zero]
  have e:allB (fun i=>inB 0 (n-1) (at_ I l i)&&(!decide (0<i)||decide (at_ I l (i-1)<=at_ I l i))) l.length 0=copsB n l:=by
   unfold copsB
   rw [<- all_at (e:=I) l (inB 0 (n-1))]
   apply bool_eq_iff
   rw [Bool.and_eq_true,allB_iff,allB_iff,ndB_iff]
   simp only [Bool.and_eq_true,Bool.or_eq_true,Bool.not_eq_true',decide_eq_true_eq,decide_eq_false_iff_not]
   constructor
   ·intro h
    exact ⟨fun j h1 h2=>(h j h1 h2).1,fun j h1 h2=>((h j (by omega) (by omega)).2).resolve_left (by omega)⟩
   ·rintro ⟨h1,h2⟩ j h3 h4
    refine ⟨h1 j h3 h4,?_⟩
    by_cases h0:0<j
    ·exact .inr (h2 j h0 (by omega))
    ·exact .inl h0
  simp only [e]
  cases copsB n l<;>rfl
 ·cases h
theorem equalI_lim (d) (r) (h:G_l1Same d=some r):∃N,F_q9q N d=some r:=by
 obtain ⟨l,m,_⟩:=d
 unfold G_l1Same at h
 split at h
 ·rename_i hl
  have hl:l.length<=lim:=of_decide_eq_true hl
  have hmx:=lim_max hl
  have h:=Option.some.inj h
  subst h
  refine ⟨l.length+1,?_⟩
  unfold F_q9q
  by_cases hm:l.length=m.length
  ·have hne:((List.length l:Int) != (List.length m:Int))=false:=by simp [hm]
   have key:∀n i,l.length<=i+n->i<=l.length->q9q_l0 (l.length+1) (n+1) (l,m,(l.length:Int),(i:Int),())=if l.drop i=m.drop i then some (.inr (.inl ())) else some (.inl (false,())):=by
    intro n
    induction n with
    | zero=>
     intro i h1 h2
     have e:i=l.length:=by omega
     subst e
     rw [List.drop_of_length_le (by omega),List.drop_of_length_le (by omega)]
     simp [q9q_l0,q9q_l0_r]
    | succ n ih=>
     intro i h1 h2
     by_cases hi:i<l.length
     ·have hi':i<m.length:=by omega
      show q9q_l0_r _ (q9q_l0 _ (n+1)) (l,m,(l.length:Int),(i:Int),())=_
      unfold q9q_l0_r
      have e1:at_ I l i=l[i]:=at_get (e:=I) hi
      have e2:at_ I m i=m[i]:=at_get (e:=I) hi'
      simp only [lt_dec hi,if_true,idxIn_nat hi,idxIn_nat hi',Int.toNat_natCast,e1,e2,wrap_up hi hmx,ih (i+1) (by omega) (by omega),same_drop hi hi']
      by_cases he:l[i]=m[i]
      ·simp only [he,bne_self_eq_false,Bool.false_eq_true,if_false,true_and]
      ·have he':(l[i] != m[i])=true:=by simpa using he
       simp only [he',he,if_true,false_and,if_false]
     ·have e:i=l.length:=by omega
      subst e
      rw [List.drop_of_length_le (by omega),List.drop_of_length_le (by omega)]
      simp [q9q_l0,q9q_l0_r]
   have:=key l.length 0 (by omega) (by omega)
   simp only [Int.natCast_zero,List.drop_zero] at this
   simp only [hne,Bool.false_eq_true,if_false,this]
   by_cases he:l=m
   ·simp [he]
   ·simp [he]
  ·have hne:((List.length l:Int) != (List.length m:Int))=true:=by simp;omega
   have he:¬l=m:=fun e=>hm (by rw [e])
   simp [hne,he]
 ·cases h
theorem idxWalk_lim (d) (r) (h:G_idxWalk d=some r):∃N,F_q3q N d=some r:=by
 obtain ⟨xs,⟨v,x,w⟩,_⟩:=d
 unfold G_idxWalk at h
 split at h
 ·rename_i hc
  have hc:(okL xs&&xs.all okL)=true:=hc
  simp only [Bool.and_eq_true] at hc
  have hl:xs.length<=lim:=okL_lim hc.1
  have hmx:=lim_max hl
  have h:=Option.some.inj h
  subst h
  refine ⟨xs.length+1,?_⟩
  unfold F_q3q
  have:=loop_idx (L:=q3q_l0 (xs.length+1)) (r:=q3q_l0_r (xs.length+1)) (fun _ _=>rfl) (e:=K_Si) xs (mk:=fun i=>(xs,(v,x,w),(xs.length:Int),(i:Int),())) (q:=fun y=>decide (y=x)) (o:=fun i=>.inl ((i:Int),())) (f:=.inr (.inl ()))
   (by
    intro back i hi
    have hx:at_ K_Si xs i=xs[i]:=at_get (e:=K_Si) hi
    have hs:FV_q55q (xs[i],(v,x,w),())=some (decide (xs[i]=x),()):=by
     unfold FV_q55q F_q55q G_l1Same
     have ho:=List.all_eq_true.1 hc.2 xs[i] (List.getElem_mem hi)
     simp only [ho,if_true,Option.bind_some]
    unfold q3q_l0_r
    simp only [lt_dec hi,if_true,idxIn_nat hi,Int.toNat_natCast,wrap_up hi hmx,hx,hs,Option.bind_some])
   (by intro back;unfold q3q_l0_r;simp only [lt_not,Bool.false_eq_true,if_false]) xs.length 0 (by omega) (by omega)
  simp only [Int.natCast_zero,List.drop_zero] at this
  simp only [this,Option.bind_some]
  cases idxN (fun y=>decide (y=x)) xs 0<;>rfl
 ·cases h
end Go.V.W
namespace Go.V.W
open Go.Proofs
theorem putS_low (x:List Int):∀l:List (List Int),∃k,k<=l.length/\(∀j (hj:j<l.length),j<k->cmpL l[j] x<0)/\(∀hk:k<l.length,¬cmpL l[k] x<0) /\
  (∀hk:k<l.length,l[k]=x->putS x l=l)/\((∀hk:k<l.length,¬l[k]=x)->putS x l=l.take k++[x]++l.drop k):=by
 intro l
 induction l with
 | nil=>exact ⟨0,Nat.le_refl _,fun j hj=>absurd hj (by simp),fun hk=>absurd hk (by simp),fun hk=>absurd hk (by simp),fun _=>rfl⟩
 | cons a l ih=>
  by_cases h:cmpL a x<0
  ·obtain ⟨k,h1,h2,h3,h4,h5⟩:=ih
   refine ⟨k+1,by simp;exact h1,fun j hj hjk => ?_,fun hk=>h3 (by simpa using hk),fun hk e => ?_,fun hne => ?_⟩
   ·cases j with
    | zero=>exact h
    | succ j=>exact h2 j (by simpa using hj) (by omega)
   ·simp only [putS,h,if_true]
    rw [h4 (by simpa using hk) e]
   ·simp only [putS,h,if_true,List.take_succ_cons,List.drop_succ_cons,List.cons_append]
    rw [h5 fun hk=>hne (by simpa using hk)]
  ·refine ⟨0,Nat.zero_le _,fun j hj hjk=>absurd hjk (by omega),fun hk=>h,fun hk e => ?_,fun hne => ?_⟩
   ·have e:a=x:=e
    unfold putS
    rw [if_neg h,if_pos e]
   ·have hne:¬a=x:=hne (by simp)
    simp only [putS,h,if_false,hne,List.take_zero,List.drop_zero,List.nil_append,List.singleton_append]
theorem l4Put_lim (d) (r) (h:G_l4Put d=some r):∃N,F_spec_l4Put N d=some r:=by
 obtain ⟨l,x,_⟩:=d
 unfold G_l4Put at h
 split at h
 ·rename_i hc
  simp only [Bool.and_eq_true,decide_eq_true_eq] at hc
  have hl:l.length<=1000:=hc.1.1
  have hox:okL x=true:=hc.1.2
  have hal:∀y∈l,y.length=x.length:=fun y hy=>of_decide_eq_true (List.all_eq_true.1 hc.2 y hy)
  have hoy:∀y∈l,okL y=true:=fun y hy=>decide_eq_true (by rw [hal y hy];exact okL_lim hox)
  have hmx:l.length<=maxLen:=by unfold maxLen;omega
  have h:=Option.some.inj h
  subst h
  obtain ⟨k,h1,h2,h3,h4,h5⟩:=putS_low x l
  refine ⟨l.length+2,?_⟩
  have hless:∀j (hj:j<l.length),G_l4Less (l[j],x,())=some (decide (cmpL l[j] x<0),()):=fun j hj=>by
   unfold G_l4Less
   have e1:=hoy l[j] (List.getElem_mem hj)
   have e2:=hal l[j] (List.getElem_mem hj)
   simp only [e1,e2,decide_true,Bool.and_self,if_true]
  have key:∀q i f,i+q=k->q<f->spec_l4Put_l0 (l.length+2) f (l,x,(i:Int),())=some (.inl (l,x,(k:Int),())):=by
   intro q
   induction q with
   | zero=>
    intro i f e1 e2
    obtain ⟨f,rfl⟩:∃m,f=m+1:=⟨f-1,by omega⟩
    have ei:i=k:=by omega
    subst ei
    show spec_l4Put_l0_r _ _ _=_
    unfold spec_l4Put_l0_r
    by_cases hi:i<l.length
    ·have ea:at_ K_Si l i=l[i]:=at_get (e:=K_Si) hi
     simp only [lt_dec hi,if_true,idxIn_nat hi,Int.toNat_natCast,ea,hless i hi,Option.bind_some,h3 hi,decide_false,Bool.false_eq_true,if_false]
    ·have ei:i=l.length:=by omega
     subst ei
     simp only [lt_not,Bool.false_eq_true,if_false]
   | succ q ih=>
    intro i f e1 e2
    obtain ⟨f,rfl⟩:∃m,f=m+1:=⟨f-1,by omega⟩
    have hi:i<l.length:=by omega
    show spec_l4Put_l0_r _ _ _=_
    unfold spec_l4Put_l0_r
    have ea:at_ K_Si l i=l[i]:=at_get (e:=K_Si) hi
    simp only [lt_dec hi,if_true,idxIn_nat hi,Int.toNat_natCast,ea,hless i hi,Option.bind_some,h2 i hi (by omega),decide_true,wrap_up hi hmx]
    exact ih (i+1) f (by omega) (by omega)
  have:=key k 0 (l.length+2) (by omega) (by omega)
  simp only [Int.natCast_zero] at this
  unfold F_spec_l4Put
  have c1:(decide (0<=(0:Int))&&decide ((0:Int)<=(k:Int))&&decide ((k:Int)<=(l.length:Int)))=true:=by simp;omega
  have s1:sub_ l 0 (k:Int)=l.take k:=by unfold sub_;simp
  have s2:sub_ l (k:Int) (l.length:Int)=l.drop k:=by unfold sub_;simp
  have c2:decide (List.length ([]:List (List Int))+(l.take k).length<=lim)=true:=by unfold lim;simp;omega
  have c3:decide ((([]:List (List Int))++l.take k).length+List.length [x]<=lim)=true:=by unfold lim;simp;omega
  have c4:(decide (0<=(k:Int))&&decide ((k:Int)<=(l.length:Int))&&decide ((l.length:Int)<=(l.length:Int)))=true:=by simp;omega
  have c5:decide ((([]:List (List Int))++l.take k++[x]).length+(l.drop k).length<=lim)=true:=by unfold lim;simp;omega
  simp only [this,Option.bind_some]
  by_cases hk:k<l.length
  ·have ea:at_ K_Si l k=l[k]:=at_get (e:=K_Si) hk
   have hs:G_l1Same (l[k],x,())=some (decide (l[k]=x),()):=by
    unfold G_l1Same
    have:=hoy l[k] (List.getElem_mem hk)
    simp only [this,if_true]
   simp only [lt_dec hk,if_true,idxIn_nat hk,Int.toNat_natCast,ea,hs,Option.bind_some]
   by_cases e:l[k]=x
   ·simp only [e,decide_true,if_true,h4 hk e]
   ·simp only [e,decide_false,Bool.false_eq_true,if_false,c1,if_true,s1,c2,c3,c4,s2,c5]
    rw [h5 fun _=>e]
    simp
  ·have hk2:decide ((k:Int)<(l.length:Int))=false:=decide_eq_false (by omega)
   simp only [hk2,Bool.false_eq_true,if_false,c1,if_true,s1,c2,c3,c4,s2,c5]
   rw [h5 fun h=>absurd h hk]
   simp
 ·cases h
end Go.V.W
namespace Go.V.W
open Go.Proofs
def insA (x:Int):List Int->List Int
 | []=>[x]
 | a::l=>if a<=x then a::insA x l else x::a::l
theorem insA_low (x:Int):∀l:List Int,∃k,k<=l.length/\(∀j (hj:j<l.length),j<k->l[j]<=x)/\(∀hk:k<l.length,¬l[k]<=x)/\insA x l=l.take k++[x]++l.drop k:=by
 intro l
 induction l with
 | nil=>exact ⟨0,Nat.le_refl _,fun j hj=>absurd hj (by simp),fun hk=>absurd hk (by simp),rfl⟩
 | cons a l ih=>
  by_cases h:a<=x
  ·obtain ⟨k,h1,h2,h3,h4⟩:=ih
   refine ⟨k+1,by simp;exact h1,fun j hj hjk => ?_,fun hk=>h3 (by simpa using hk),?_⟩
   ·cases j with
    | zero=>exact h
    | succ j=>exact h2 j (by simpa using hj) (by omega)
   ·simp only [insA,h,if_true,h4,List.take_succ_cons,List.drop_succ_cons,List.cons_append]
  ·refine ⟨0,Nat.zero_le _,fun j hj hjk=>absurd hjk (by omega),fun hk=>h,?_⟩
   simp only [insA,h,if_false,List.take_zero,List.drop_zero,List.nil_append,List.singleton_append]
theorem insA_len (x:Int):∀l:List Int,(insA x l).length=l.length+1:=by
 intro l
 induction l with
 | nil=>rfl
 | cons a l ih=>
  unfold insA
  split<;>simp [ih]
theorem insA_perm (x:Int):∀l:List Int,(insA x l).Perm (x::l):=by
 intro l
 induction l with
 | nil=>exact .refl _
 | cons a l ih=>
  unfold insA
  split
  ·exact (ih.cons a).trans (List.Perm.swap x a l)
  ·exact .refl _
theorem insA_sorted (x:Int):∀l:List Int,l.Pairwise (· <= ·)->(insA x l).Pairwise (· <= ·):=by
 intro l
 induction l with
 | nil=>intro _;simp [insA]
 | cons a l ih=>
  intro h
  rw [List.pairwise_cons] at h
  unfold insA
  split
  ·rename_i hx
   rw [List.pairwise_cons]
   refine ⟨fun b hb => ?_,ih h.2⟩
   rcases List.mem_cons.1 ((insA_perm x l).mem_iff.1 hb) with rfl | hb
   ·exact hx
   ·exact h.1 b hb
  ·rename_i hx
   rw [List.pairwise_cons,List.pairwise_cons]
   refine ⟨fun b hb => ?_,h⟩
   rcases List.mem_cons.1 hb with rfl | hb
   ·omega
   ·have:=h.1 b hb;omega
theorem int_sorted_eq:∀{l m:List Int},l.Pairwise (· <= ·)->m.Pairwise (· <= ·)->l.Perm m->l=m:=by
 intro l
 induction l with
 | nil=>intro m _ _ h;exact List.Perm.nil_eq h
 | cons a l ih=>
  intro m hl hm h
  cases m with
  | nil=>exact absurd h.length_eq (by simp)
  | cons b m=>
   rw [List.pairwise_cons] at hl hm
   have e:a=b:=by
    rcases List.mem_cons.1 (h.mem_iff.1 (List.mem_cons_self (a:=a) (l:=l))) with e | ha
    ·exact e
    rcases List.mem_cons.1 (h.mem_iff.2 (List.mem_cons_self (a:=b) (l:=m))) with e | hb
    ·exact e.symm
    have h1:=hl.1 b hb
    have h2:=hm.1 a ha
    omega
   subst e
   rw [ih hl.2 hm.2 ((List.perm_cons a).1 h)]
theorem sortI_sorted (l:List Int):(sortI l).Pairwise (· <= ·):=by
 have:=List.pairwise_mergeSort (le:=fun x y:Int=>decide (x<=y)) (fun a b c h1 h2=>by simp at h1 h2 |-;omega) (fun a b=>by simp;omega) l
 unfold sortI
 exact this.imp fun h=>by simpa using h
theorem sortI_perm (l:List Int):(sortI l).Perm l:=by
 unfold sortI
 exact List.mergeSort_perm l _
theorem sortA_fold:∀(l o:List Int),o.Pairwise (· <= ·)->(l.foldl (fun o x=>insA x o) o).Pairwise (· <= ·)/\(l.foldl (fun o x=>insA x o) o).Perm (o++l):=by
 intro l
 induction l with
 | nil=>intro o h;exact ⟨h,by simp⟩
 | cons x l ih=>
  intro o h
  obtain ⟨h1,h2⟩:=ih (insA x o) (insA_sorted x o h)
  refine ⟨h1,h2.trans ?_⟩
  refine ((insA_perm x o).append_right l).trans ?_
  show (x::(o++l)).Perm (o++x::l)
  exact List.perm_middle.symm
theorem sortA_eq (l:List Int):l.foldl (fun o x=>insA x o) []=sortI l:=by
 obtain ⟨h1,h2⟩:=sortA_fold l [] .nil
 exact int_sorted_eq h1 (sortI_sorted l) (h2.trans (sortI_perm l).symm)
theorem l4Sorted_lim (d) (r) (h:G_l4Sorted d=some r):∃N,F_q47q N d=some r:=by
 obtain ⟨l,_⟩:=d
 unfold G_l4Sorted at h
 split at h
 ·rename_i hc
  have hl:l.length<=1000:=of_decide_eq_true hc
  have hmx:l.length<=maxLen:=by unfold maxLen;omega
  have h:=Option.some.inj h
  subst h
  refine ⟨l.length+2,?_⟩
  unfold F_q47q
  have inner:∀(i:Nat) (hi:i<l.length) (out:List Int),out.length<=l.length -> ∀k,k<=out.length->(∀j (hj:j<out.length),j<k->out[j]<=l[i])->(∀hk:k<out.length,¬out[k]<=l[i]) -> ∀q j f,j+q=k->q<f ->
    q47q_l2 (l.length+2) f (l,out,(i:Int),(j:Int),())=some (.inl (l,out,(i:Int),(k:Int),())):=by
   intro i hi out ho k hk h2 h3 q
   have hmo:out.length<=maxLen:=by omega
   have ei:at_ I l i=l[i]:=at_get (e:=I) hi
   induction q with
   | zero=>
    intro j f e1 e2
    obtain ⟨f,rfl⟩:∃m,f=m+1:=⟨f-1,by omega⟩
    have e:j=k:=by omega
    subst e
    show q47q_l2_r _ _ _=_
    unfold q47q_l2_r
    by_cases hj:j<out.length
    ·have ea:at_ I out j=out[j]:=at_get (e:=I) hj
     simp only [lt_dec hj,if_true,idxIn_nat hj,idxIn_nat hi,Int.toNat_natCast,ea,ei,h3 hj,decide_false,Bool.false_eq_true,if_false]
    ·have e:j=out.length:=by omega
     subst e
     simp only [lt_not,Bool.false_eq_true,if_false]
   | succ q ih=>
    intro j f e1 e2
    obtain ⟨f,rfl⟩:∃m,f=m+1:=⟨f-1,by omega⟩
    have hj:j<out.length:=by omega
    have ea:at_ I out j=out[j]:=at_get (e:=I) hj
    show q47q_l2_r _ _ _=_
    unfold q47q_l2_r
    simp only [lt_dec hj,if_true,idxIn_nat hj,idxIn_nat hi,Int.toNat_natCast,ea,ei,h2 j hj (by omega),decide_true,wrap_up hj hmo]
    exact ih (j+1) f (by omega) (by omega)
  have key:∀q i f (out:List Int),i+q=l.length->q<f->out.length=i->q47q_l0 (l.length+2) f (l,out,(i:Int),())=some (.inl ((l.drop i).foldl (fun o x=>insA x o) out,())):=by
   intro q
   induction q with
   | zero=>
    intro i f out e1 e2 e3
    obtain ⟨f,rfl⟩:∃m,f=m+1:=⟨f-1,by omega⟩
    have e:i=l.length:=by omega
    subst e
    rw [List.drop_of_length_le (Nat.le_refl _)]
    show q47q_l0_r _ _ _=_
    unfold q47q_l0_r
    simp only [lt_not,Bool.false_eq_true,if_false,List.foldl_nil]
   | succ q ih=>
    intro i f out e1 e2 e3
    obtain ⟨f,rfl⟩:∃m,f=m+1:=⟨f-1,by omega⟩
    have hi:i<l.length:=by omega
    have ei:at_ I l i=l[i]:=at_get (e:=I) hi
    obtain ⟨k,h1,h2,h3,h4⟩:=insA_low l[i] out
    have hin:=inner i hi out (by omega) k h1 h2 h3 k 0 (l.length+2) (by omega) (by omega)
    simp only [Int.natCast_zero] at hin
    have c1:(decide (0<=(0:Int))&&decide ((0:Int)<=(k:Int))&&decide ((k:Int)<=(out.length:Int)))=true:=by simp;omega
    have s1:sub_ out 0 (k:Int)=out.take k:=by unfold sub_;simp
    have s2:sub_ out (k:Int) (out.length:Int)=out.drop k:=by unfold sub_;simp
    have c2:decide (List.length ([]:List Int)+(out.take k).length<=lim)=true:=by unfold lim;simp;omega
    have c3:decide ((([]:List Int)++out.take k).length+List.length [l[i]]<=lim)=true:=by unfold lim;simp;omega
    have c4:(decide (0<=(k:Int))&&decide ((k:Int)<=(out.length:Int))&&decide ((out.length:Int)<=(out.length:Int)))=true:=by simp;omega
    have c5:decide ((([]:List Int)++out.take k++[l[i]]).length+(out.drop k).length<=lim)=true:=by unfold lim;simp;omega
    show q47q_l0_r _ _ _=_
    unfold q47q_l0_r
    simp only [lt_dec hi,if_true,hin,Option.bind_some,c1,s1,c2,idxIn_nat hi,Int.toNat_natCast,ei,c3,c4,s2,c5,wrap_up hi hmx]
    rw [List.drop_eq_getElem_cons hi,List.foldl_cons,h4]
    have:=ih (i+1) f (insA l[i] out) (by omega) (by omega) (by rw [insA_len,e3])
    rw [h4] at this
    exact this
  have:=key l.length 0 (l.length+2) [] (by omega) (by omega) rfl
  simp only [Int.natCast_zero,List.drop_zero,sortA_eq] at this
  simp only [this,Option.bind_some]
 ·cases h
end Go.V.W
namespace Go.V.W
open Go.Proofs
theorem mv_l4 (N:Nat) (cops:List Int) (g:Gr) (now:List (List Int)) (c:Int) (ball:List Int) (hb:ball.length<=8) (j:Nat) (hj:j<now.length) (hlen:now[j].length<=1000):∀q k f (next:List (List Int)),k+q=ball.length->q<f->next.length+q<=1000 ->
  q60q_l4 N f (cops,g,now,c,next,ball,(j:Int),(k:Int),())=some (.inl (cops,g,now,c,next++(ball.drop k).map (fun x=>now[j]++[x]),ball,(j:Int),())):=by
 intro q
 induction q with
 | zero=>
  intro k f next e1 e2 e3
  obtain ⟨f,rfl⟩:∃m,f=m+1:=⟨f-1,by omega⟩
  have e:k=ball.length:=by omega
  subst e
  rw [List.drop_of_length_le (Nat.le_refl _)]
  show q60q_l4_r _ _ _=_
  unfold q60q_l4_r
  simp only [lt_not,Bool.false_eq_true,if_false,List.map_nil,List.append_nil]
 | succ q ih=>
  intro k f next e1 e2 e3
  obtain ⟨f,rfl⟩:∃m,f=m+1:=⟨f-1,by omega⟩
  have hk:k<ball.length:=by omega
  have ek:at_ I ball k=ball[k]:=at_get (e:=I) hk
  have ej:at_ K_Si now j=now[j]:=at_get (e:=K_Si) hj
  have c1:decide (now[j].length+List.length [ball[k]]<=lim)=true:=by unfold lim;simp;omega
  have c2:decide (next.length+List.length [now[j]++[ball[k]]]<=lim)=true:=by unfold lim;simp;omega
  show q60q_l4_r _ _ _=_
  unfold q60q_l4_r
  simp only [lt_dec hk,if_true,idxIn_nat hj,idxIn_nat hk,Int.toNat_natCast,ek,ej,own_some now[j] hlen,Option.bind_some,c1,c2,wrap8 hk hb]
  rw [ih (k+1) f _ (by omega) (by omega) (by simp;omega),List.drop_eq_getElem_cons hk,List.map_cons,List.append_assoc,List.singleton_append]
theorem mv_l2 (N:Nat) (hN:10<=N) (cops:List Int) (g:Gr) (now:List (List Int)) (hnow:now.length<=64) (hle:∀l∈now,l.length<=1000) (c:Int) (ball:List Int) (hb:ball.length<=8):∀q j f (next:List (List Int)),j+q=now.length->q<f->next.length+8*q<=900 ->
  q60q_l2 N f (cops,g,now,c,next,ball,(j:Int),())=some (.inl (cops,g,c,next++(now.drop j).flatMap (fun l=>ball.map fun x=>l++[x]),())):=by
 intro q
 induction q with
 | zero=>
  intro j f next e1 e2 e3
  obtain ⟨f,rfl⟩:∃m,f=m+1:=⟨f-1,by omega⟩
  have e:j=now.length:=by omega
  subst e
  rw [List.drop_of_length_le (Nat.le_refl _)]
  show q60q_l2_r _ _ _=_
  unfold q60q_l2_r
  simp only [lt_not,Bool.false_eq_true,if_false,List.flatMap_nil,List.append_nil]
 | succ q ih=>
  intro j f next e1 e2 e3
  obtain ⟨f,rfl⟩:∃m,f=m+1:=⟨f-1,by omega⟩
  have hj:j<now.length:=by omega
  have hin:=mv_l4 N cops g now c ball hb j hj (hle _ (List.getElem_mem hj)) ball.length 0 N next (by omega) (by omega) (by omega)
  simp only [Int.natCast_zero,List.drop_zero] at hin
  have hw:IntKind.wrap .i64 ((j:Int)+1)=((j+1:Nat):Int):=by
   rw [wrap_in _ (by omega) (by omega)]
   rfl
  show q60q_l2_r _ _ _=_
  unfold q60q_l2_r
  simp only [lt_dec hj,if_true,hin,Option.bind_some,hw]
  rw [ih (j+1) f _ (by omega) (by omega) (by simp;omega),List.drop_eq_getElem_cons hj,List.flatMap_cons,List.append_assoc]
theorem flat_len (ball:List Int):∀now:List (List Int),(now.flatMap fun l=>ball.map fun x=>l++[x]).length=now.length*ball.length:=by
 intro now
 induction now with
 | nil=>simp
 | cons l now ih=>
  rw [List.flatMap_cons,List.length_append,ih,List.length_map,List.length_cons,Nat.succ_mul]
  omega
theorem flat_each {ball:List Int} {now:List (List Int)} {i:Nat} (h:∀l∈now,l.length=i):∀l∈now.flatMap (fun l=>ball.map fun x=>l++[x]),l.length=i+1:=by
 intro l hl
 obtain ⟨a,ha,h2⟩:=List.mem_flatMap.1 hl
 obtain ⟨x,_,rfl⟩:=List.mem_map.1 h2
 simp [h a ha]
theorem chL_facts {ball:Int->List Int}:∀{cs:List Int} {now:List (List Int)} {i:Nat},(∀c∈cs,(ball c).length<=8)->(∀l∈now,l.length=i)->(chL ball cs now).length<=now.length*8 ^ cs.length /\ ∀l∈chL ball cs now,l.length=i+cs.length:=by
 intro cs
 induction cs with
 | nil=>intro now i _ h;exact ⟨by simp [chL],fun l hl=>by simpa using h l hl⟩
 | cons c cs ih=>
  intro now i hb h
  obtain ⟨h1,h2⟩:=ih (fun c hc=>hb c (by simp [hc])) (flat_each (ball:=ball c) h)
  refine ⟨?_,fun l hl=>by rw [h2 l hl];simp;omega⟩
  refine Nat.le_trans h1 ?_
  rw [flat_len,List.length_cons,Nat.pow_succ,Nat.mul_comm (8 ^ cs.length) 8,<- Nat.mul_assoc]
  exact Nat.mul_le_mul_right _ (Nat.mul_le_mul_left _ (hb c (by simp)))
theorem mv_l0 (N:Nat) (hN:100<=N) (g:Gr) (hG:grB g=true) (cops:List Int) (h3:cops.length<=3) (hc:∀c∈cops,inB 0 (g.1-1) c=true):∀q i f (now:List (List Int)),i+q=cops.length->q<f->now.length<=8 ^ i->(∀l∈now,l.length=i) ->
  q60q_l0 N f (cops,g,now,(i:Int),())=some (.inl (chL (ballF g.1.toNat g.2.1) (cops.drop i) now,())):=by
 obtain ⟨g1,g2,g8,g4⟩:=grB_parts hG
 intro q
 induction q with
 | zero=>
  intro i f now e1 e2 e3 e4
  obtain ⟨f,rfl⟩:∃m,f=m+1:=⟨f-1,by omega⟩
  have e:i=cops.length:=by omega
  subst e
  rw [List.drop_of_length_le (Nat.le_refl _)]
  show q60q_l0_r _ _ _=_
  unfold q60q_l0_r
  simp only [lt_not,Bool.false_eq_true,if_false,chL]
 | succ q ih=>
  intro i f now e1 e2 e3 e4
  obtain ⟨f,rfl⟩:∃m,f=m+1:=⟨f-1,by omega⟩
  have hi:i<cops.length:=by omega
  have ei:at_ I cops i=cops[i]:=at_get (e:=I) hi
  obtain ⟨b1,b2⟩:=inB_nat g2 (hc _ (List.getElem_mem hi))
  have hb:=ball_some hG b2
  rw [<- b1] at hb
  have hbl:=ballF_len g.1.toNat g.2.1 cops[i]
  have h64:now.length<=64:=by
   have:8 ^ i<=8 ^ 2:=Nat.pow_le_pow_right (by omega) (by omega)
   omega
  have hin:=mv_l2 N (by omega) cops g now h64 (fun l hl=>by rw [e4 l hl];omega) (i:Int) (ballF g.1.toNat g.2.1 cops[i]) (by omega) now.length 0 N [] (by omega) (by omega) (by simp;omega)
  simp only [Int.natCast_zero,List.drop_zero,List.nil_append] at hin
  have hw:IntKind.wrap .i64 ((i:Int)+1)=((i+1:Nat):Int):=by
   rw [wrap_in _ (by omega) (by omega)]
   rfl
  show q60q_l0_r _ _ _=_
  unfold q60q_l0_r
  simp only [lt_dec hi,if_true,idxIn_nat hi,Int.toNat_natCast,ei,hb,Option.bind_some,hin,hw]
  rw [List.drop_eq_getElem_cons hi]
  refine ih (i+1) f _ (by omega) (by omega) ?_ (flat_each e4)
  rw [flat_len,Nat.pow_succ]
  exact Nat.mul_le_mul e3 (by omega)
theorem mv_l6 (N:Nat) (L:List (List Int)) (hL:L.length<=900) (m:Nat) (hm:m<=900) (hal:∀l∈L,l.length=m):∀q i f (out:List (List Int)),i+q=L.length->q<f->out.length<=i->(∀l∈out,l.length=m) ->
  q60q_l6 N f (L,out,(i:Int),())=some (.inl ((L.drop i).foldl (fun o x=>putS (sortI x) o) out,())):=by
 intro q
 induction q with
 | zero=>
  intro i f out e1 e2 e3 e4
  obtain ⟨f,rfl⟩:∃m,f=m+1:=⟨f-1,by omega⟩
  have e:i=L.length:=by omega
  subst e
  rw [List.drop_of_length_le (Nat.le_refl _)]
  show q60q_l6_r _ _ _=_
  unfold q60q_l6_r
  simp only [lt_not,Bool.false_eq_true,if_false,List.foldl_nil]
 | succ q ih=>
  intro i f out e1 e2 e3 e4
  obtain ⟨f,rfl⟩:∃m,f=m+1:=⟨f-1,by omega⟩
  have hi:i<L.length:=by omega
  have ei:at_ K_Si L i=L[i]:=at_get (e:=K_Si) hi
  have hli:=hal _ (List.getElem_mem hi)
  have hs:G_l4Sorted (L[i],())=some (sortI L[i],()):=by
   unfold G_l4Sorted
   rw [if_pos (decide_eq_true (by show L[i].length<=1000;omega))]
  have hsl:(sortI L[i]).length=m:=by rw [sort_len,hli]
  have hp:G_l4Put (out,sortI L[i],())=some (putS (sortI L[i]) out,()):=by
   unfold G_l4Put
   have c1:decide (out.length<=1000)=true:=decide_eq_true (by omega)
   have c2:okL (sortI L[i])=true:=decide_eq_true (by rw [hsl];unfold lim;omega)
   have c3:out.all (fun l=>decide (l.length=(sortI L[i]).length))=true:=List.all_eq_true.2 fun l hl=>decide_eq_true (by rw [e4 l hl,hsl])
   simp only [c1,c2,c3,Bool.and_self,if_true]
  have hw:IntKind.wrap .i64 ((i:Int)+1)=((i+1:Nat):Int):=by
   rw [wrap_in _ (by omega) (by omega)]
   rfl
  show q60q_l6_r _ _ _=_
  unfold q60q_l6_r
  simp only [lt_dec hi,if_true,idxIn_nat hi,Int.toNat_natCast,ei,hs,Option.bind_some,hp,hw]
  rw [List.drop_eq_getElem_cons hi,List.foldl_cons]
  have hpl:∀l:List (List Int),(putS (sortI L[i]) l).length<=l.length+1:=by
   intro l
   induction l with
   | nil=>simp [putS]
   | cons a l ih=>unfold putS;split<;>(try split)<;>simp<;>omega
  refine ih (i+1) f _ (by omega) (by omega) (by have:=hpl out;omega) fun l hl => ?_
  rcases putS_mem.1 hl with rfl | hl
  ·exact hsl
  ·exact e4 l hl
theorem nodes_parts {n:Int} {cops:List Int} (h:nodesB n cops=true):cops.length<=3 /\ ∀c∈cops,inB 0 (n-1) c=true:=by
 unfold nodesB at h
 simp only [Bool.and_eq_true,decide_eq_true_eq] at h
 exact ⟨h.1,fun c hc=>List.all_eq_true.1 h.2 c hc⟩
theorem l4Moves_lim (d) (r) (h:G_l4Moves d=some r):∃N,F_q60q N d=some r:=by
 obtain ⟨g,cops,_⟩:=d
 unfold G_l4Moves at h
 split at h
 ·rename_i hc
  simp only [Bool.and_eq_true] at hc
  obtain ⟨hG,hc⟩:=hc
  have hG:grB g=true:=hG
  obtain ⟨h3,hin⟩:=nodes_parts hc
  obtain ⟨g1,g2,g8,g4⟩:=grB_parts hG
  have h:=Option.some.inj h
  subst h
  refine ⟨1000,?_⟩
  unfold F_q60q
  have h0:=mv_l0 1000 (by omega) g hG cops h3 hin cops.length 0 1000 [[]] (by omega) (by omega) (by simp) (by simp)
  simp only [Int.natCast_zero,List.drop_zero] at h0
  have hb8:∀c∈cops,(ballF g.1.toNat g.2.1 c).length<=8:=fun c _=>Nat.le_trans (ballF_len _ _ _) g8
  obtain ⟨f1,f2⟩:=chL_facts (ball:=ballF g.1.toNat g.2.1) (cs:=cops) (now:=[[]]) (i:=0) hb8 (by simp)
  have hlen:(chL (ballF g.1.toNat g.2.1) cops [[]]).length<=512:=by
   have:8 ^ cops.length<=8 ^ 3:=Nat.pow_le_pow_right (by omega) h3
   have e:([[]]:List (List Int)).length=1:=rfl
   rw [e] at f1
   omega
  have h6:=mv_l6 1000 (chL (ballF g.1.toNat g.2.1) cops [[]]) (by omega) (0+cops.length) (by omega) f2 (chL (ballF g.1.toNat g.2.1) cops [[]]).length 0 1000 [] (by omega) (by omega) (by simp) (by simp)
  simp only [Int.natCast_zero,List.drop_zero] at h6
  simp only [h0,Option.bind_some,h6]
  show some (_,())=some (movesL (ballF g.1.toNat g.2.1) cops,())
  unfold movesL
  rw [<- puts_comp]
  unfold putsS
  rw [List.foldl_map]
 ·cases h
end Go.V.W
namespace Go.V.W
open Go.Proofs
theorem cm_l4 (N:Nat) (net:Nt) (cop:Int) (list cops:List Int) (n17 i:Int) (moves:List (List Int)) (n23 j:Int) (ball:List Int) (hb:ball.length<=8) (hlen:list.length<=1000):∀q k f (next:List (List Int)),k+q=ball.length->q<f->next.length+q<=1000 ->
  q21q_l4 N f (net,cop,next,list,cops,n17,i,moves,n23,j,ball,(ball.length:Int),(k:Int),())=some (.inl (net,cop,next++(ball.drop k).map (fun x=>list++[x]),cops,n17,i,moves,n23,j,())):=by
 intro q
 induction q with
 | zero=>
  intro k f next e1 e2 e3
  obtain ⟨f,rfl⟩:∃m,f=m+1:=⟨f-1,by omega⟩
  have e:k=ball.length:=by omega
  subst e
  rw [List.drop_of_length_le (Nat.le_refl _)]
  show q21q_l4_r _ _ _=_
  unfold q21q_l4_r
  simp only [lt_not,Bool.false_eq_true,if_false,List.map_nil,List.append_nil]
 | succ q ih=>
  intro k f next e1 e2 e3
  obtain ⟨f,rfl⟩:∃m,f=m+1:=⟨f-1,by omega⟩
  have hk:k<ball.length:=by omega
  have ek:at_ I ball k=ball[k]:=at_get (e:=I) hk
  have ht:G_toIntS (list,())=some (list,()):=by
   unfold G_toIntS
   rw [if_pos (show okL list=true from decide_eq_true (by unfold lim;omega))]
  have c1:decide (list.length+List.length [ball[k]]<=lim)=true:=by unfold lim;simp;omega
  have c2:decide (next.length+List.length [list++[ball[k]]]<=lim)=true:=by unfold lim;simp;omega
  show q21q_l4_r _ _ _=_
  unfold q21q_l4_r
  simp only [lt_dec hk,if_true,idxIn_nat hk,Int.toNat_natCast,ek,ht,Option.bind_some,c1,c2,wrap8 hk hb]
  rw [ih (k+1) f _ (by omega) (by omega) (by simp;omega),List.drop_eq_getElem_cons hk,List.map_cons,List.append_assoc,List.singleton_append]
theorem cm_l2 (N:Nat) (hN:10<=N) {l:List Int} (hn:netB l=true) (u:Unit) (c:Nat) (hc:c<l.length) (cops:List Int) (n17 i:Int) (now:List (List Int)) (hnow:now.length<=64) (hle:∀l∈now,l.length<=1000):∀q j f (next:List (List Int)),j+q=now.length->q<f->next.length+8*q<=900 ->
  q21q_l2 N f ((l,u),(c:Int),next,cops,n17,i,now,(now.length:Int),(j:Int),())=some (.inl ((l,u),next++(now.drop j).flatMap (fun l'=>(ballM l (c:Int)).map fun x=>l'++[x]),cops,n17,i,())):=by
 intro q
 have hb:=ballM_len l (c:Int)
 induction q with
 | zero=>
  intro j f next e1 e2 e3
  obtain ⟨f,rfl⟩:∃m,f=m+1:=⟨f-1,by omega⟩
  have e:j=now.length:=by omega
  subst e
  rw [List.drop_of_length_le (Nat.le_refl _)]
  show q21q_l2_r _ _ _=_
  unfold q21q_l2_r
  simp only [lt_not,Bool.false_eq_true,if_false,List.flatMap_nil,List.append_nil]
 | succ q ih=>
  intro j f next e1 e2 e3
  obtain ⟨f,rfl⟩:∃m,f=m+1:=⟨f-1,by omega⟩
  have hj:j<now.length:=by omega
  have ej:at_ K_Si now j=now[j]:=at_get (e:=K_Si) hj
  have hin:=cm_l4 N (l,u) (c:Int) now[j] cops n17 i now (now.length:Int) (j:Int) (ballM l (c:Int)) hb (hle _ (List.getElem_mem hj)) (ballM l (c:Int)).length 0 N next (by omega) (by omega) (by omega)
  simp only [Int.natCast_zero,List.drop_zero] at hin
  have hw:IntKind.wrap .i64 ((j:Int)+1)=((j+1:Nat):Int):=by
   rw [wrap_in _ (by omega) (by omega)]
   rfl
  show q21q_l2_r _ _ _=_
  unfold q21q_l2_r
  simp only [lt_dec hj,if_true,idxIn_nat hj,Int.toNat_natCast,ej,closedM hn u hc,setOfM hn hc,Option.bind_some,hin,hw]
  rw [ih (j+1) f _ (by omega) (by omega) (by simp;omega),List.drop_eq_getElem_cons hj,List.flatMap_cons,List.append_assoc]
theorem cm_l0 (N:Nat) (hN:100<=N) {l:List Int} (hn:netB l=true) (u:Unit) (cops:List Int) (h3:cops.length<=3) (hc:∀c∈cops,inB 0 ((l.length:Int)-1) c=true):∀q i f (now:List (List Int)),i+q=cops.length->q<f->now.length<=8 ^ i->(∀l∈now,l.length=i) ->
  q21q_l0 N f ((l,u),now,cops,(cops.length:Int),(i:Int),())=some (.inl (chL (ballM l) (cops.drop i) now,())):=by
 intro q
 induction q with
 | zero=>
  intro i f now e1 e2 e3 e4
  obtain ⟨f,rfl⟩:∃m,f=m+1:=⟨f-1,by omega⟩
  have e:i=cops.length:=by omega
  subst e
  rw [List.drop_of_length_le (Nat.le_refl _)]
  show q21q_l0_r _ _ _=_
  unfold q21q_l0_r
  simp only [lt_not,Bool.false_eq_true,if_false,chL]
 | succ q ih=>
  intro i f now e1 e2 e3 e4
  obtain ⟨f,rfl⟩:∃m,f=m+1:=⟨f-1,by omega⟩
  have hi:i<cops.length:=by omega
  have ei:at_ I cops i=cops[i]:=at_get (e:=I) hi
  obtain ⟨b1,b2⟩:=inB_len (hc _ (List.getElem_mem hi))
  have hbl:=ballM_len l cops[i]
  have h64:now.length<=64:=by
   have:8 ^ i<=8 ^ 2:=Nat.pow_le_pow_right (by omega) (by omega)
   omega
  have hin:=cm_l2 N (by omega) hn u cops[i].toNat b2 cops (cops.length:Int) (i:Int) now h64 (fun l hl=>by rw [e4 l hl];omega) now.length 0 N [] (by omega) (by omega) (by simp;omega)
  rw [<- b1] at hin
  simp only [Int.natCast_zero,List.drop_zero,List.nil_append] at hin
  have hw:IntKind.wrap .i64 ((i:Int)+1)=((i+1:Nat):Int):=by
   rw [wrap_in _ (by omega) (by omega)]
   rfl
  show q21q_l0_r _ _ _=_
  unfold q21q_l0_r
  simp only [lt_dec hi,if_true,idxIn_nat hi,Int.toNat_natCast,ei,hin,Option.bind_some,hw]
  rw [List.drop_eq_getElem_cons hi]
  refine ih (i+1) f _ (by omega) (by omega) ?_ (flat_each e4)
  rw [flat_len,Nat.pow_succ]
  exact Nat.mul_le_mul e3 hbl
theorem cm_l6 (N:Nat):∀(rest pre:List (List Int)) f,rest.length<f->pre.length+rest.length<=900->(∀l∈rest,l.length<=900) ->
  q21q_l6 N f (pre++rest,(),((pre.length+rest.length:Nat):Int),(pre.length:Int),())=some (.inl (pre++rest.map sortI,())):=by
 intro rest
 induction rest with
 | nil=>
  intro pre f e1 e2 e3
  obtain ⟨f,rfl⟩:∃m,f=m+1:=⟨f-1,by omega⟩
  show q21q_l6_r _ _ _=_
  unfold q21q_l6_r
  simp only [List.length_nil,Nat.add_zero,lt_not,Bool.false_eq_true,if_false,List.map_nil]
 | cons x rest ih=>
  intro pre f e1 e2 e3
  obtain ⟨f,rfl⟩:∃m,f=m+1:=⟨f-1,by omega⟩
  have e2':pre.length+(rest.length+1)<=900:=by simpa using e2
  have hlt:decide ((pre.length:Int)<((pre.length+(x::rest).length:Nat):Int))=true:=decide_eq_true (by simp;omega)
  have hix:idxIn (pre.length:Int) (pre++x::rest).length=true:=idxIn_nat (by simp)
  have hs:G_sortI (x,())=some (sortI x,()):=by
   unfold G_sortI
   rw [if_pos (decide_eq_true (by have:=e3 x (by simp);unfold lim;show x.length<=_;omega))]
  have hw:IntKind.wrap .i64 ((pre.length:Int)+1)=((pre.length+1:Nat):Int):=by
   rw [wrap_in _ (by omega) (by omega)]
   rfl
  show q21q_l6_r _ _ _=_
  unfold q21q_l6_r
  simp only [hlt,hix,if_true,Int.toNat_natCast,at_midS,hs,Option.bind_some,set_midS,hw]
  have:=ih (pre++[sortI x]) f (by simp at e1;omega) (by simp;omega) (fun l hl=>e3 l (by simp [hl]))
  simp only [List.length_append,List.length_singleton,List.append_assoc,List.singleton_append] at this
  rw [show ((pre.length+(x::rest).length:Nat):Int)=((pre.length+1+rest.length:Nat):Int) by simp;omega]
  rw [this,List.map_cons]
theorem copMoves47_lim (d) (r) (h:G_copMoves d=some r):∃N,F_q21q N d=some r:=by
 obtain ⟨⟨l,u⟩,cops,_⟩:=d
 unfold G_copMoves at h
 split at h
 ·rename_i hc
  simp only [Bool.and_eq_true] at hc
  obtain ⟨hn,hc⟩:=hc
  have hn:netB l=true:=hn
  obtain ⟨h3,hin⟩:=nodes_parts hc
  have h:=Option.some.inj h
  subst h
  refine ⟨1000,?_⟩
  unfold F_q21q
  have h0:=cm_l0 1000 (by omega) hn u cops h3 hin cops.length 0 1000 [[]] (by omega) (by omega) (by simp) (by simp)
  simp only [Int.natCast_zero,List.drop_zero] at h0
  obtain ⟨f1,f2⟩:=chL_facts (ball:=ballM l) (cs:=cops) (now:=[[]]) (i:=0) (fun c _=>ballM_len l c) (by simp)
  have hlen:(chL (ballM l) cops [[]]).length<=512:=by
   have:8 ^ cops.length<=8 ^ 3:=Nat.pow_le_pow_right (by omega) h3
   have e:([[]]:List (List Int)).length=1:=rfl
   rw [e] at f1
   omega
  have h6:=cm_l6 1000 (chL (ballM l) cops [[]]) [] 1000 (by omega) (by simp;omega) (fun l hl=>by rw [f2 l hl];omega)
  simp only [List.nil_append,List.length_nil,Nat.zero_add,Int.natCast_zero] at h6
  have hok:okLL ((chL (ballM l) cops [[]]).map sortI)=true:=by
   unfold okLL
   rw [Bool.and_eq_true]
   refine ⟨decide_eq_true (by rw [List.length_map];unfold lim;omega),List.all_eq_true.2 fun y hy => ?_⟩
   obtain ⟨x,hx,rfl⟩:=List.mem_map.1 hy
   exact decide_eq_true (by rw [sort_len,f2 x hx];unfold lim;omega)
  have hok2:okLL (sortS ((chL (ballM l) cops [[]]).map sortI))=true:=by
   unfold okLL at hok |-
   rw [Bool.and_eq_true] at hok |-
   refine ⟨decide_eq_true (by rw [sortS_len];exact okL_lim hok.1),List.all_eq_true.2 fun y hy => ?_⟩
   exact List.all_eq_true.1 hok.2 y ((sortS_perm _).mem_iff.1 hy)
  simp only [h0,Option.bind_some,h6,G_sortF,hok,if_true,G_compactF,hok2]
  rfl
 ·cases h
end Go.V.W
namespace Go.V.W
open Go.Proofs
theorem less_int (a b:Int) (u:Unit):g_q63q (a,b,u)=(decide (a<b),()):=by
 unfold g_q63q g_q48q
 simp only [bne_self_eq_false,Bool.false_eq_true,if_false]
theorem isSorted_lim (d) (r) (h:G_isSorted d=some r):∃N,F_q4q N d=some r:=by
 obtain ⟨l,_⟩:=d
 unfold G_isSorted at h
 split at h
 ·rename_i hl
  have hl:l.length<=lim:=of_decide_eq_true hl
  have hmx:=lim_max hl
  have h:=Option.some.inj h
  subst h
  refine ⟨l.length+1,?_⟩
  unfold F_q4q
  have key:∀i f,i<f->i<l.length -> ∃o,q4q_l0 (l.length+1) f (l,(i:Int),())=some o/\((o=.inl (false,()) /\ ¬ ∀j,0<j->j<=i->at_ I l (j-1)<=at_ I l j)\/(o=.inr (.inl ()) /\ ∀j,0<j->j<=i->at_ I l (j-1)<=at_ I l j)):=by
   intro i
   induction i with
   | zero=>
    intro f e1 e2
    obtain ⟨f,rfl⟩:∃m,f=m+1:=⟨f-1,by omega⟩
    refine ⟨.inr (.inl ()),?_,.inr ⟨rfl,fun j h1 h2=>by omega⟩⟩
    show q4q_l0_r _ _ _=_
    unfold q4q_l0_r
    simp
   | succ i ih=>
    intro f e1 e2
    obtain ⟨f,rfl⟩:∃m,f=m+1:=⟨f-1,by omega⟩
    have hg:decide (((i+1:Nat):Int)>0)=true:=decide_eq_true (by omega)
    have hi':i<l.length:=by omega
    show ∃o,q4q_l0_r _ _ _=some o/\_
    unfold q4q_l0_r
    simp only [hg,if_true,idxIn_nat e2,wrap_down (show 0<i+1 by omega) (show i+1<=maxLen by omega),Nat.add_sub_cancel,idxIn_nat hi',Int.toNat_natCast,less_int]
    by_cases hc:at_ I l (i+1)<at_ I l i
    ·simp only [hc,decide_true,if_true]
     refine ⟨_,rfl,.inl ⟨rfl,fun hh => ?_⟩⟩
     have:=hh (i+1) (by omega) (Nat.le_refl _)
     exact absurd hc (Int.not_lt.2 this)
    ·simp only [hc,decide_false,Bool.false_eq_true,if_false]
     obtain ⟨o,o1,o2⟩:=ih f (by omega) hi'
     refine ⟨o,o1,?_⟩
     rcases o2 with ⟨rfl,h2⟩ | ⟨rfl,h2⟩
     ·exact .inl ⟨rfl,fun hh=>h2 fun j h3 h4=>hh j h3 (by omega)⟩
     ·refine .inr ⟨rfl,fun j h3 h4 => ?_⟩
      by_cases e:j=i+1
      ·subst e
       exact Int.not_lt.1 hc
      ·exact h2 j h3 (by omega)
  by_cases hz:l.length=0
  ·have:l=[]:=List.length_eq_zero_iff.1 hz
   subst this
   rfl
  ·have hw:IntKind.wrap .i64 ((l.length:Int)-1)=((l.length-1:Nat):Int):=wrap_down (by omega) hmx
   obtain ⟨o,o1,o2⟩:=key (l.length-1) (l.length+1) (by omega) (by omega)
   simp only [hw,o1,Option.bind_some]
   rcases o2 with ⟨rfl,h2⟩ | ⟨rfl,h2⟩
   ·have:ndB l=false:=(Bool.not_eq_true _).mp fun hh=>h2 fun j h3 h4=>(ndB_iff l).1 hh j h3 (by omega)
    simp only [this]
   ·have:ndB l=true:=(ndB_iff l).2 fun j h3 h4=>h2 j h3 (by omega)
    simp only [this]
 ·cases h
theorem moves_ok {ball:Int->List Int} {cs:List Int} (h3:cs.length<=3) (hb:∀c∈cs,(ball c).length<=8):okLL (movesL ball cs)=true:=by
 obtain ⟨f1,f2⟩:=chL_facts (ball:=ball) (cs:=cs) (now:=[[]]) (i:=0) hb (by simp)
 have hlen:(chL ball cs [[]]).length<=512:=by
  have:8 ^ cs.length<=8 ^ 3:=Nat.pow_le_pow_right (by omega) h3
  have e:([[]]:List (List Int)).length=1:=rfl
  rw [e] at f1
  omega
 have hcl:(movesL ball cs).length<=512:=by
  unfold movesL compL
  rw [List.length_map]
  refine Nat.le_trans (keepI_le _ _) ?_
  rw [sortS_len,List.length_map]
  exact hlen
 unfold okLL
 rw [Bool.and_eq_true]
 refine ⟨decide_eq_true (by unfold lim;omega),List.all_eq_true.2 fun y hy => ?_⟩
 have hy2:=(sortS_perm _).mem_iff.1 ((comp_mem y).1 hy)
 obtain ⟨x,hx,rfl⟩:=List.mem_map.1 hy2
 exact decide_eq_true (by rw [sort_len,f2 x hx];unfold lim;omega)
def prevAt (w:List (List Int)):Nat->Option (List Int)
 | 0=>none
 | i+1=>some (w.getD i [])
theorem cops_nodes {n:Int} {c:List Int} (h:copsB n c=true) (h3:c.length<=3):nodesB n c=true:=by
 unfold copsB at h
 rw [Bool.and_eq_true] at h
 unfold nodesB
 rw [Bool.and_eq_true]
 exact ⟨decide_eq_true h3,h.1⟩
theorem l11Walk_lim (d) (r) (h:G_l11Walk d=some r):∃N,F_q66q N d=some r:=by
 obtain ⟨⟨n,es,v⟩,w,_⟩:=d
 unfold G_l11Walk at h
 split at h
 ·rename_i hc
  simp only [Bool.and_eq_true] at hc
  obtain ⟨⟨ho,hw⟩,hg⟩:=hc
  have ho:okL es=true:=ho
  have hw:(okL w&&w.all okL)=true:=hw
  have hg:graphB (n,es,v)=true:=hg
  rw [Bool.and_eq_true] at hw
  obtain ⟨n0,n8⟩:=graphB_n hg
  have hG:=graph_grB hg ho
  have hwl:=okL_lim hw.1
  have hmx:=lim_max hwl
  have h:=Option.some.inj h
  subst h
  refine ⟨w.length+1,?_⟩
  unfold F_q66q walkB
  simp only [l1In_eq,hg,Bool.true_and]
  cases h40:inB 1 40 (w.length:Int) with
  | false=>rfl
  | true=>
   have hpos:0<w.length:=by have:=inB_iff.1 h40;omega
   have e0:at_ K_Si w (0:Int).toNat=w.headD []:=by
    cases w with
    | nil=>simp at hpos
    | cons a w=>rfl
   have i0:idxIn (0:Int) w.length=true:=idxIn_nat hpos
   have hf:F_q61q 0 ((n,es,v),((w.headD []).length:Int),())=some (decide (n>0)&&inB 1 3 ((w.headD []).length:Int),()):=by
    unfold F_q61q G_graph
    simp only [ho,if_true,Option.bind_some,hg,l1In_eq]
    cases decide (n>0)<;>rfl
   simp only [Bool.not_true,Bool.false_eq_true,if_false,i0,if_true,e0,hf,Option.bind_some,Bool.true_and]
   cases hk:decide (n>0)&&inB 1 3 ((w.headD []).length:Int) with
   | false=>simp only [Bool.not_false,if_true,Bool.false_and]
   | true=>
    rw [Bool.and_eq_true] at hk
    have hk3:=inB_iff.1 hk.2
    have key:∀q i f,i+q=w.length->q<f->(∀p,prevAt w i=some p->p.length=(w.headD []).length/\copsB n p=true) ->
      q66q_l0 (w.length+1) f (w,(n,es,v),(i:Int),())=some (if restB (ballF n.toNat es) n (w.headD []).length (prevAt w i) (w.drop i)=true then .inr (.inl ()) else .inl (false,())):=by
     intro q
     induction q with
     | zero=>
      intro i f e1 e2 e3
      obtain ⟨f,rfl⟩:∃m,f=m+1:=⟨f-1,by omega⟩
      have e:i=w.length:=by omega
      subst e
      rw [List.drop_of_length_le (Nat.le_refl _)]
      show q66q_l0_r _ _ _=_
      unfold q66q_l0_r
      simp only [lt_not,Bool.false_eq_true,if_false,restB,if_true]
     | succ q ih=>
      intro i f e1 e2 e3
      obtain ⟨f,rfl⟩:∃m,f=m+1:=⟨f-1,by omega⟩
      have hi:i<w.length:=by omega
      have ei:at_ K_Si w i=w[i]:=at_get (e:=K_Si) hi
      have hcp:G_l4Cops ((n,es,v),w[i],())=some (copsB n w[i],()):=by
       unfold G_l4Cops
       have c1:=List.all_eq_true.1 hw.2 w[i] (List.getElem_mem hi)
       have c2:decide (0<=n)=true:=decide_eq_true n0
       have c3:decide (n<=8)=true:=decide_eq_true n8
       simp only [c1,c2,c3,Bool.and_self,if_true]
      have hnext:prevAt w (i+1)=some w[i]:=by simp [prevAt,List.getD_eq_getElem?_getD,hi]
      have hiw:IntKind.wrap .i64 ((i:Int)+1)=((i+1:Nat):Int):=wrap_up hi hmx
      show q66q_l0_r _ _ _=_
      unfold q66q_l0_r
      rw [List.drop_eq_getElem_cons hi]
      simp only [lt_dec hi,if_true,idxIn_nat hi,i0,Int.toNat_natCast,ei,e0,hcp,Option.bind_some,hiw,pos_dec,restB]
      by_cases hlen:w[i].length=(w.headD []).length
      ·skip
       simp only [hlen,bne_self_eq_false,decide_true,Bool.false_eq_true,if_false,Bool.true_and]
       cases hco:copsB n w[i] with
       | false=>simp only [Bool.not_false,if_true,Bool.false_and,Bool.false_eq_true,if_false]
       | true=>
        simp only [Bool.not_true,Bool.false_eq_true,if_false,Bool.true_and]
        have hih:=ih (i+1) f (by omega) (by omega) (fun p hp=>by
         rw [hnext] at hp
         obtain rfl:=Option.some.inj hp
         exact ⟨hlen,hco⟩)
        rw [hnext] at hih
        cases i with
        | zero=>
         simp only [Nat.lt_irrefl,decide_false,Bool.false_eq_true,if_false,prevAt,Bool.true_and]
         exact hih
        | succ i=>
         have hi2:i<w.length:=by omega
         have ei2:at_ K_Si w i=w.getD i []:=by rw [at_get (e:=K_Si) hi2];simp [List.getD_eq_getElem?_getD,hi2]
         obtain ⟨p1,p2⟩:=e3 (w.getD i []) rfl
         have hnd:=cops_nodes p2 (by omega)
         have hmv:G_l4Moves ((n,es,v),w.getD i [],())=some (movesL (ballF n.toNat es) (w.getD i []),()):=by
          unfold G_l4Moves
          simp only [hG,hnd,Bool.and_self,if_true]
         have hat:G_l4At (movesL (ballF n.toNat es) (w.getD i []),w[i+1],())=some (idxI (idxN (fun y=>decide (y=w[i+1])) (movesL (ballF n.toNat es) (w.getD i [])) 0),()):=by
          unfold G_l4At
          have:=moves_ok (ball:=ballF n.toNat es) (cs:=w.getD i []) (by omega) (fun c _=>Nat.le_trans (ballF_len _ _ _) (by omega))
          simp only [this,if_true]
         have hd:IntKind.wrap .i64 (((i+1:Nat):Int)-1)=(i:Int):=wrap_down (show 0<i+1 by omega) (show i+1<=maxLen by omega)
         have hge:=idxI_ge (fun y=>decide (y=w[i+1])) (movesL (ballF n.toNat es) (w.getD i [])) 0
         simp only [Nat.succ_pos,decide_true,if_true,hd,idxIn_nat hi2,Int.toNat_natCast,ei2,hmv,Option.bind_some,hat,prevAt]
         by_cases hany:((movesL (ballF n.toNat es) (w.getD i [])).any fun y=>decide (y=w[i+1]))=true
         ·rw [hany] at hge
          have:¬idxI (idxN (fun y=>decide (y=w[i+1])) (movesL (ballF n.toNat es) (w.getD i [])) 0)<0:=Int.not_lt.2 (of_decide_eq_true hge)
          simp only [this,hany,decide_false,Bool.false_eq_true,if_false,Bool.true_and]
          exact hih
         ·have hany:=Bool.eq_false_iff.2 hany
          rw [hany] at hge
          have:idxI (idxN (fun y=>decide (y=w[i+1])) (movesL (ballF n.toNat es) (w.getD i [])) 0)<0:=Int.not_le.1 (of_decide_eq_false hge)
          simp only [this,hany,decide_true,if_true,Bool.false_and,Bool.false_eq_true,if_false]
      ·have b1:((w[i].length:Int) != ((w.headD []).length:Int))=true:=bne_iff_ne.2 (by omega)
       simp only [b1,hlen,decide_false,if_true,Bool.false_and,Bool.false_eq_true,if_false]
    have:=key w.length 0 (w.length+1) (by omega) (by omega) (fun p hp=>by cases hp)
    simp only [Int.natCast_zero,List.drop_zero] at this
    have e5:prevAt w 0=none:=rfl
    rw [e5] at this
    simp only [Bool.not_true,Bool.false_eq_true,if_false,this,Option.bind_some]
    cases hr:restB (ballF n.toNat es) n (w.headD []).length none w<;>simp [hr]
 ·cases h
end Go.V.W
namespace Go.V.W
open Go.Proofs
theorem are_cops {n:Int} {es:List E} {v u:Unit} {l:List Int} (hg:graphB (n,es,v)=true) (ho:okL es=true) (hl:okL l=true):F_q64q 0 ((n,es,v),l,u)=some (decide (n>0)&&inB 1 3 (l.length:Int)&&copsB n l,()):=by
 unfold F_q64q F_q42q G_graph G_isSorted copsB
 simp only [ho,hl,hg,if_true,Option.bind_some,within_eq,has_nodes n es v () l ho hl,Bool.true_and]
 cases decide (n>0) with
 | false=>simp only [Bool.false_eq_true,if_false,Option.bind_some,Bool.false_and]
 | true=>
  simp only [if_true,Option.bind_some,Bool.true_and]
  cases inB 1 3 (l.length:Int) with
  | false=>simp only [Bool.false_eq_true,if_false,Bool.false_and]
  | true=>
   simp only [if_true,Bool.true_and]
   cases l.all (inB 0 (n-1)) with
   | false=>simp only [Bool.false_eq_true,if_false,Bool.false_and]
   | true=>simp only [if_true,Bool.true_and]
theorem isWalk_lim (d) (r) (h:G_walk d=some r):∃N,F_q78q N d=some r:=by
 obtain ⟨⟨n,es,v⟩,w,_⟩:=d
 unfold G_walk at h
 split at h
 ·rename_i hc
  rw [Bool.and_eq_true] at hc
  obtain ⟨ho,hw⟩:=hc
  have ho:okL es=true:=ho
  have hw:(okL w&&w.all okL)=true:=hw
  obtain ⟨hwa,hwb⟩:=(Bool.and_eq_true _ _).mp hw
  have hwl:=okL_lim hwa
  have hmx:=lim_max hwl
  have h:=Option.some.inj h
  subst h
  refine ⟨w.length+1,?_⟩
  unfold F_q78q walkB G_graph
  simp only [ho,if_true,Option.bind_some,within_eq]
  cases hg:graphB (n,es,v) with
  | false=>rfl
  | true=>
  obtain ⟨n0,n8⟩:=graphB_n hg
  simp only [Bool.true_and,Bool.not_true,Bool.false_eq_true,if_false]
  cases h40:inB 1 40 (w.length:Int) with
  | false=>rfl
  | true=>
   have hpos:0<w.length:=by have:=inB_iff.1 h40;omega
   have e0:at_ K_Si w (0:Int).toNat=w.headD []:=by
    cases w with
    | nil=>simp at hpos
    | cons a w=>rfl
   have i0:idxIn (0:Int) w.length=true:=idxIn_nat hpos
   obtain ⟨m,rfl⟩:∃m:Nat,n=(m:Int):=⟨n.toNat,by omega⟩
   obtain ⟨g1,g2⟩:=graphB_edges hg
   have hm8:m<=8:=by omega
   have hnet:=netB_net hm8 g1
   simp only [net_some hg ho,Option.bind_some,Bool.true_and,Bool.not_true,Bool.false_eq_true,if_false,Int.toNat_natCast]
   cases hk:decide ((m:Int)>0)&&inB 1 3 ((w.headD []).length:Int) with
   | false=>
    have hr:q78q_l0_r (w.length+1) (q78q_l0 (w.length+1) w.length) (w,((m:Int),es,v),(toI (netN m es),()),w,(w.length:Int),(0:Int),())=some (.inl (false,())):=by
     unfold q78q_l0_r
     have hlt:decide ((0:Int)<(w.length:Int))=true:=decide_eq_true (by omega)
     have hh:okL (w.headD [])=true:=by
      cases w with
      | nil=>simp at hpos
      | cons a w=>exact List.all_eq_true.1 hwb a (by simp)
     simp only [hlt,if_true,i0,e0,are_cops (u:=()) hg ho hh,hk,Option.bind_some,Bool.false_and,Bool.not_false]
    have hr2:q78q_l0 (w.length+1) (w.length+1) (w,((m:Int),es,v),(toI (netN m es),()),w,(w.length:Int),(0:Int),())=some (.inl (false,())):=hr
    rw [hr2]
    rfl
   | true=>
    have hk1:=hk
    simp only [pos_dec] at hk1
    rw [Bool.and_eq_true] at hk
    have hk3:=inB_iff.1 hk.2
    have key:∀q i f,i+q=w.length->q<f->(∀p,prevAt w i=some p->p.length=(w.headD []).length/\copsB (m:Int) p=true) ->
      q78q_l0 (w.length+1) f (w,((m:Int),es,v),(toI (netN m es),()),w,(w.length:Int),(i:Int),())=some (if restB (ballF m es) (m:Int) (w.headD []).length (prevAt w i) (w.drop i)=true then .inr (.inl ()) else .inl (false,())):=by
     intro q
     induction q with
     | zero=>
      intro i f e1 e2 e3
      obtain ⟨f,rfl⟩:∃m,f=m+1:=⟨f-1,by omega⟩
      have e:i=w.length:=by omega
      subst e
      rw [List.drop_of_length_le (Nat.le_refl _)]
      show q78q_l0_r _ _ _=_
      unfold q78q_l0_r
      simp only [lt_not,Bool.false_eq_true,if_false,restB,if_true]
     | succ q ih=>
      intro i f e1 e2 e3
      obtain ⟨f,rfl⟩:∃m,f=m+1:=⟨f-1,by omega⟩
      have hi:i<w.length:=by omega
      have ei:at_ K_Si w i=w[i]:=at_get (e:=K_Si) hi
      have hcp:=are_cops (u:=()) hg ho (List.all_eq_true.1 hwb w[i] (List.getElem_mem hi))
      have hnext:prevAt w (i+1)=some w[i]:=by simp [prevAt,List.getD_eq_getElem?_getD,hi]
      have hiw:IntKind.wrap .i64 ((i:Int)+1)=((i+1:Nat):Int):=wrap_up hi hmx
      show q78q_l0_r _ _ _=_
      unfold q78q_l0_r
      rw [List.drop_eq_getElem_cons hi]
      simp only [lt_dec hi,if_true,idxIn_nat hi,i0,Int.toNat_natCast,ei,e0,hcp,Option.bind_some,hiw,pos_dec,restB]
      by_cases hlen:w[i].length=(w.headD []).length
      ·simp only [hlen,hk1,bne_self_eq_false,decide_true,Bool.false_eq_true,if_false,Bool.true_and]
       cases hco:copsB (m:Int) w[i] with
       | false=>simp only [Bool.not_false,if_true,Bool.false_and,Bool.false_eq_true,if_false]
       | true=>
        simp only [Bool.not_true,Bool.false_eq_true,if_false,Bool.true_and]
        have hih:=ih (i+1) f (by omega) (by omega) (fun p hp=>by
         rw [hnext] at hp
         obtain rfl:=Option.some.inj hp
         exact ⟨hlen,hco⟩)
        rw [hnext] at hih
        cases i with
        | zero=>
         simp only [Nat.lt_irrefl,decide_false,Bool.false_eq_true,if_false,prevAt,Bool.true_and]
         exact hih
        | succ i=>
         have hi2:i<w.length:=by omega
         have ei2:at_ K_Si w i=w.getD i []:=by rw [at_get (e:=K_Si) hi2];simp [List.getD_eq_getElem?_getD,hi2]
         obtain ⟨p1,p2⟩:=e3 (w.getD i []) rfl
         have hnd:=cops_nodes p2 (by omega)
         have hsame:movesL (ballM (toI (netN m es))) (w.getD i [])=movesL (ballF m es) (w.getD i []):=moves_congr fun c hcm=>by
          have h1:=p2
          unfold copsB at h1
          rw [Bool.and_eq_true] at h1
          have h2:=inB_iff.1 (List.all_eq_true.1 h1.1 c hcm)
          obtain ⟨x,rfl⟩:∃x:Nat,c=(x:Int):=⟨c.toNat,by omega⟩
          exact ball_same hm8 g1 (by omega)
         have hmv:G_copMoves ((toI (netN m es),()),w.getD i [],())=some (movesL (ballF m es) (w.getD i []),()):=by
          unfold G_copMoves
          simp only [hnet.1,hnet.2,hnd,Bool.and_self,if_true,hsame]
         have hat:F_q2q 0 (movesL (ballF m es) (w.getD i []),((),w[i+1],()),())=some ((movesL (ballF m es) (w.getD i [])).any fun y=>decide (y=w[i+1]),()):=by
          unfold F_q2q G_idxWalk
          have:=moves_ok (ball:=ballF m es) (cs:=w.getD i []) (by omega) (fun c _=>Nat.le_trans (ballF_len _ _ _) (by omega))
          have hge:=idxI_ge (fun y=>decide (y=w[i+1])) (movesL (ballF m es) (w.getD i [])) 0
          simp only [this,if_true,Option.bind_some,ge_iff_le,hge]
         have hd:IntKind.wrap .i64 (((i+1:Nat):Int)-1)=(i:Int):=wrap_down (show 0<i+1 by omega) (show i+1<=maxLen by omega)
         simp only [Nat.succ_pos,decide_true,if_true,hd,idxIn_nat hi2,Int.toNat_natCast,ei2,hmv,Option.bind_some,hat,prevAt]
         by_cases hany:((movesL (ballF m es) (w.getD i [])).any fun y=>decide (y=w[i+1]))=true
         ·simp only [hany,Bool.not_true,Bool.false_eq_true,if_false,Bool.true_and]
          exact hih
         ·have hany:=Bool.eq_false_iff.2 hany
          simp only [hany,Bool.not_false,if_true,Bool.false_and,Bool.false_eq_true,if_false]
      ·have b1:((w[i].length:Int) != ((w.headD []).length:Int))=true:=bne_iff_ne.2 (by omega)
       simp only [b1,hlen,decide_false,if_true,Bool.false_and,Bool.false_eq_true,if_false,ite_self]
    have:=key w.length 0 (w.length+1) (by omega) (by omega) (fun p hp=>by cases hp)
    simp only [Int.natCast_zero,List.drop_zero] at this
    have e5:prevAt w 0=none:=rfl
    rw [e5] at this
    simp only [this,Option.bind_some,Bool.true_and]
    cases hr:restB (ballF m es) (m:Int) (w.headD []).length none w<;>simp [hr]
 ·cases h
end Go.V.W
namespace Go.V.W
open Go.Proofs
def walkV (g:Gr) (w:List (List Int)):Bool×Bool×Unit:=(graphB g&&decide (g.1>0)&&walkB g w,graphB g&&decide (g.1>0),())
theorem spec_walk {n:Int} {es:List E} {v u:Unit} {w:List (List Int)} (ho:okL es=true) (hw:okLL w=true):F_q80q 0 ((n,es,v),w,u)=some (walkV (n,es,v) w):=by
 unfold F_q80q F_q61q G_graph G_l11Walk walkV
 simp only [ho,hw,if_true,Option.bind_some,l1In_eq]
 cases graphB (n,es,v) with
 | false=>rfl
 | true=>cases decide (n>0)<;>rfl
theorem impl_walk {n:Int} {es:List E} {v u:Unit} {w:List (List Int)} (ho:okL es=true) (hw:okLL w=true):F_q69q 0 ((n,es,v),w,u)=some (walkV (n,es,v) w):=by
 unfold F_q69q G_graph G_walk walkV
 simp only [ho,hw,if_true,Option.bind_some,Bool.and_self]
 cases hg:graphB (n,es,v) with
 | false=>rfl
 | true=>
  have hn:=graphB_n hg
  by_cases h:n=0
  ·subst h
   rfl
  ·have h1:(n==0)=false:=beq_eq_false_iff_ne.2 h
   have h2:decide (n>0)=true:=decide_eq_true (by omega)
   simp only [h1,h2,Bool.not_true,Bool.false_eq_true,if_false,Bool.true_and]
end Go.V.W
namespace Go.V.W
open Go.Proofs
def escS (ball:Int->List Int) (w:List (List Int)) (r:List Int) (i:Nat):Bool:=
 !hasL (at_ K_Si w i) (at_ I r i)&&(!decide (0<i)||(!hasL (at_ K_Si w i) (at_ I r (i-1))&&hasL (ball (at_ I r (i-1))) (at_ I r i)))
def escB (n:Int) (ball:Int->List Int) (w:List (List Int)) (r:List Int):Bool:=
 decide (r.length=w.length)&&allB (fun i=>inB 0 (n-1) (at_ I r i)&&escS ball w r i) r.length 0
theorem has1 {S:List Int} {y:Int} (h:okL S=true) (u:Unit):G_l1Has (S,y,u)=some (hasL S y,()):=by
 unfold G_l1Has hasL
 simp only [h,if_true]
theorem at_ok {w:List (List Int)} (h:w.all okL=true) {i:Nat} (hi:i<w.length):okL (at_ K_Si w i)=true:=by
 rw [at_get (e:=K_Si) hi]
 exact List.all_eq_true.1 h _ (List.getElem_mem hi)
theorem ballL_ok {m:Nat} (hm:m<=8) (es:List E) (z:Int):okL (ballL m es z)=true:=by
 unfold ballL
 refine okL_of (Nat.le_trans (putL_len _ _) ?_)
 have:(setF (fun y=>nearI es z (y:Int)) m 0).length<=m:=setF_len
 omega
theorem spec_esc {m:Nat} {es:List E} {v:Unit} {w:List (List Int)} {r:List Int} (hg:graphB ((m:Int),es,v)=true) (ho:okL es=true) (hw:okLL w=true) (hr:okL r=true) (hb:walkB ((m:Int),es,v) w=true) :
  ∃N,F_q50q N (((m:Int),es,v),w,r,())=some (escB (m:Int) (ballL m es) w r,true,()):=by
 obtain ⟨n0,n8⟩:=graphB_n hg
 have hm:m<=8:=by omega
 obtain ⟨hwa,hwb⟩:=(Bool.and_eq_true _ _).mp hw
 have hwl:=okL_lim hwa
 have hrl:=okL_lim hr
 have hmx:=lim_max hrl
 refine ⟨r.length+1,?_⟩
 unfold F_q50q G_graph G_l11Walk
 simp only [ho,hw,hg,hb,Bool.and_self,if_true,Option.bind_some,Bool.not_true,Bool.false_eq_true,if_false]
 have hn:∀x,g_q73q (((m:Int),es,v),x,())=(inB 0 ((m:Int)-1) x,()):=by
  intro x
  unfold g_q73q
  have hw:IntKind.wrap .i64 ((m:Int)-1)=(m:Int)-1:=wrap_in _ (by omega) (by omega)
  simp only [hw,l1In_eq]
 have:=loop_all (L:=fun k d=>q50q_l0 (r.length+1) k d) (r:=q50q_l0_r (r.length+1)) (fun _ _=>rfl) (n:=min r.length w.length) (mk:=fun i=>(w,r,((m:Int),es,v),(i:Int),())) (p:=fun i=>inB 0 ((m:Int)-1) (at_ I r i)&&escS (ballL m es) w r i) (o:=.inl (false,true,())) (f:=.inr (.inl (w,r,())))
  (by
   intro back i hi
   have h1:i<r.length:=by omega
   have h2:i<w.length:=by omega
   have k1:=at_ok hwb h2
   unfold q50q_l0_r escS
   simp only [lt_dec h1,lt_dec h2,idxIn_nat h1,idxIn_nat h2,if_true,Int.toNat_natCast,hn,has1 k1,Option.bind_some,pos_dec,wrap_up h1 hmx]
   cases inB 0 ((m:Int)-1) (at_ I r i) with
   | false=>rfl
   | true=>
    cases hasL (at_ K_Si w i) (at_ I r i) with
    | true=>rfl
    | false=>
     by_cases h0:0<i
     ·have h3:i-1<r.length:=by omega
      have k2:=has1 (y:=at_ I r i) (ballL_ok hm es (at_ I r (i-1))) ()
      simp only [h0,decide_true,if_true,wrap_down h0 (show i<=maxLen by omega),idxIn_nat h3,Int.toNat_natCast,Bool.not_true,Bool.not_false,Bool.false_or,Bool.true_and,Bool.false_eq_true,if_false,ball_eq ((m:Int),es,v) m rfl hm ho,Option.bind_some,k2]
      cases hasL (at_ K_Si w i) (at_ I r (i-1)) with
      | true=>rfl
      | false=>cases hasL (ballL m es (at_ I r (i-1))) (at_ I r i)<;>rfl
     ·simp only [h0,decide_false,Bool.not_true,Bool.not_false,Bool.false_eq_true,if_false,if_true,Bool.true_or,Bool.and_self])
  (by
   intro back
   unfold q50q_l0_r
   by_cases h:r.length<=w.length
   ·simp only [Nat.min_eq_left h,lt_not,Bool.false_eq_true,if_false]
   ·simp only [Nat.min_eq_right (show w.length<=r.length by omega),lt_dec (show w.length<r.length by omega),lt_not,Bool.false_eq_true,if_false,if_true]) r.length 0 (by omega) (by omega)
 simp only [Int.natCast_zero] at this
 simp only [this,Nat.sub_zero,Option.bind_some]
 unfold escB
 by_cases he:r.length=w.length
 ·have e1:min r.length w.length=r.length:=by omega
  have e2:((r.length:Int)==(w.length:Int))=true:=by rw [he];exact beq_self_eq_true _
  rw [e1]
  cases hx:allB (fun i=>inB 0 ((m:Int)-1) (at_ I r i)&&escS (ballL m es) w r i) r.length 0<;>simp [he]
 ·have e2:((r.length:Int)==(w.length:Int))=false:=beq_eq_false_iff_ne.2 (by omega)
  cases hx:allB (fun i=>inB 0 ((m:Int)-1) (at_ I r i)&&escS (ballL m es) w r i) (min r.length w.length) 0<;>simp [e2,he]
end Go.V.W
namespace Go.V.W
open Go.Proofs
theorem has2 {S:List Int} {y:Int} (h:okL S=true) (u:Unit):F_q5q 0 (S,y,u)=some (hasL S y,()):=by
 unfold F_q5q G_index
 have hge:=idxI_ge (fun z=>y==z) S 0
 simp only [h,if_true,Option.bind_some,ge_iff_le,hge]
 unfold hasL
 have:(fun z=>y==z)=fun z:Int=>z==y:=by
  funext z
  rw [Bool.beq_comm]
 rw [this]
theorem nodeX {m:Nat} {z:Int} (h:inB 0 ((m:Int)-1) z=true):∃x:Nat,z=(x:Int)/\x<m:=by
 have:=inB_iff.1 h
 exact ⟨z.toNat,by omega,by omega⟩
theorem ball_two {m:Nat} {es:List E} {v:Unit} (hg:graphB ((m:Int),es,v)=true) (ho:okL es=true) {x:Nat} (hx:x<m):ballL m es (x:Int)=ballF m es (x:Int):=by
 obtain ⟨n0,n8⟩:=graphB_n hg
 have h1:=ball_some (graph_grB hg ho) (x:=x) (by simpa using hx)
 rw [ball_eq ((m:Int),es,v) m rfl (by omega) ho] at h1
 have:=congrArg Prod.fst (Option.some.inj h1)
 simpa using this
theorem esc_two {m:Nat} {es:List E} {v:Unit} (hg:graphB ((m:Int),es,v)=true) (ho:okL es=true) (w:List (List Int)) (r:List Int):escB (m:Int) (ballL m es) w r=escB (m:Int) (ballF m es) w r:=by
 unfold escB
 congr 1
 apply bool_eq_iff
 rw [allB_iff,allB_iff]
 have key:∀(b1 b2:Int->List Int),(∀x:Nat,x<m->b1 (x:Int)=b2 (x:Int))->(∀j,0<=j->j<0+r.length->(inB 0 ((m:Int)-1) (at_ I r j)&&escS b1 w r j)=true)->(∀j,0<=j->j<0+r.length->(inB 0 ((m:Int)-1) (at_ I r j)&&escS b2 w r j)=true):=by
  intro b1 b2 hb h j h1 h2
  have h3:=h j h1 h2
  by_cases h0:0<j
  ·have h4:=h (j-1) (by omega) (by omega)
   rw [Bool.and_eq_true] at h4
   obtain ⟨x,hx,hxm⟩:=nodeX h4.1
   have h6:=hb x hxm
   unfold escS at h3 |-
   rw [hx] at h3 |-
   rw [<- h6]
   exact h3
  ·unfold escS at h3 |-
   simp only [h0,decide_false,Bool.not_false,Bool.true_or] at h3 |-
   exact h3
 exact ⟨key _ _ fun x hx=>ball_two hg ho hx,key _ _ fun x hx=>(ball_two hg ho hx).symm⟩
theorem impl_esc {m:Nat} {es:List E} {v:Unit} {w:List (List Int)} {r:List Int} (hg:graphB ((m:Int),es,v)=true) (ho:okL es=true) (hw:okLL w=true) (hr:okL r=true) (hb:walkB ((m:Int),es,v) w=true) :
  ∃N,F_q46q N (((m:Int),es,v),w,r,())=some (escB (m:Int) (ballF m es) w r,true,()):=by
 obtain ⟨n0,n8⟩:=graphB_n hg
 have hm:m<=8:=by omega
 obtain ⟨hwa,hwb⟩:=(Bool.and_eq_true _ _).mp hw
 have hrl:=okL_lim hr
 have hmx:=lim_max hrl
 refine ⟨r.length+1,?_⟩
 unfold F_q46q G_walk G_allWithin
 have hw1:IntKind.wrap .i64 ((m:Int)-1)=(m:Int)-1:=wrap_in _ (by omega) (by omega)
 simp only [ho,hw,hr,hb,Bool.and_self,if_true,Option.bind_some,Bool.not_true,Bool.false_eq_true,if_false,hw1]
 unfold escB
 by_cases he:r.length=w.length
 ·have e2:((r.length:Int) != (w.length:Int))=false:=by rw [he];exact bne_self_eq_false _
  simp only [e2,Bool.false_eq_true,if_false]
  simp only [he,decide_true,Bool.true_and]
  cases ha:r.all (inB 0 ((m:Int)-1)) with
  | false=>
   simp only [Bool.not_false,if_true]
   have:allB (fun i=>inB 0 ((m:Int)-1) (at_ I r i)&&escS (ballF m es) w r i) w.length 0=false:=by
    rw [<- he]
    refine (Bool.not_eq_true _).mp fun h => ?_
    have h:=allB_iff.1 h
    rw [<- all_at (e:=I) r (inB 0 ((m:Int)-1))] at ha
    have:allB (fun i=>inB 0 ((m:Int)-1) (at_ I r i)) r.length 0=true:=allB_iff.2 fun j h1 h2=>((Bool.and_eq_true _ _).mp (h j h1 h2)).1
    rw [this] at ha
    cases ha
   rw [this]
  | true=>
   have hnode:∀i,i<r.length -> ∃x:Nat,at_ I r i=(x:Int)/\x<m:=fun i hi=>by
    rw [at_get (e:=I) hi]
    exact nodeX (List.all_eq_true.1 ha _ (List.getElem_mem hi))
   simp only [Bool.not_true,Bool.false_eq_true,if_false,net_some hg ho,Option.bind_some]
   have:=loop_all (L:=fun k d=>q46q_l0 (r.length+1) k d) (r:=q46q_l0_r (r.length+1)) (fun _ _=>rfl) (n:=r.length) (mk:=fun i=>(w,r,(toI (netN m es),()),r,(r.length:Int),(i:Int),())) (p:=fun i=>inB 0 ((m:Int)-1) (at_ I r i)&&escS (ballF m es) w r i) (o:=.inl (false,true,())) (f:=.inr (.inl ()))
    (by
     intro back i hi
     have h2:i<w.length:=by omega
     have k1:=at_ok hwb h2
     obtain ⟨x,hx,hx2⟩:=hnode i hi
     have hin:inB 0 ((m:Int)-1) (x:Int)=true:=inB_iff.2 (by omega)
     unfold q46q_l0_r escS
     simp only [lt_dec hi,idxIn_nat hi,idxIn_nat h2,if_true,Int.toNat_natCast,has2 k1,Option.bind_some,pos_dec,wrap_up hi hmx,hx,hin,Bool.true_and,nonneg_dec]
     cases hasL (at_ K_Si w i) (x:Int) with
     | true=>rfl
     | false=>
      by_cases h0:0<i
      ·have h3:i-1<r.length:=by omega
       obtain ⟨c,hc,hc2⟩:=hnode (i-1) h3
       obtain ⟨k,q1,q2,q3⟩:=closed_bit hg hc2 () ()
       have z:=has_bit0 q1 (show x<8 by omega)
       rw [q3 x hx2] at z
       simp only [h0,decide_true,if_true,wrap_down h0 (show i<=maxLen by omega),idxIn_nat h3,Int.toNat_natCast,Bool.not_true,Bool.not_false,Bool.false_or,Bool.true_and,Bool.false_eq_true,if_false,hc,q2,Option.bind_some,z]
       cases hasL (at_ K_Si w i) (c:Int) with
       | true=>rfl
       | false=>cases hasL (ballF m es (c:Int)) (x:Int)<;>rfl
      ·simp only [h0,decide_false,Bool.not_false,Bool.false_eq_true,if_false,if_true,Bool.true_or,Bool.and_self])
    (by intro back;unfold q46q_l0_r;simp only [lt_not,Bool.false_eq_true,if_false]) r.length 0 (by omega) (by omega)
   simp only [Int.natCast_zero] at this
   rw [he] at this
   simp only [this,Nat.sub_zero,Option.bind_some]
   cases hx:allB (fun i=>inB 0 ((m:Int)-1) (at_ I r i)&&escS (ballF m es) w r i) w.length 0<;>simp
 ·have e2:((r.length:Int) != (w.length:Int))=true:=bne_iff_ne.2 (by omega)
  simp only [e2,if_true,he,decide_false,Bool.false_and]
end Go.V.W
namespace Go.V.W
open Go.Proofs
theorem esc_range {m:Nat} {es:List E} {v:Unit} (w:List (List Int)) (r:List Int):escB (m:Int) (ballF m es) w r=escG ((m:Int),es,v) w r:=by
 unfold escB escG
 by_cases he:r.length=w.length
 ·congr 1
  apply bool_eq_iff
  rw [allB_iff,List.all_eq_true]
  have e1:∀i,i<r.length->at_ I r i=r.getD i 0:=fun i hi=>by
   rw [at_get (e:=I) hi]
   simp [List.getD_eq_getElem?_getD,hi]
  have e2:∀i,i<r.length->at_ K_Si w i=w.getD i []:=fun i hi=>by
   have h2:i<w.length:=by omega
   rw [at_get (e:=K_Si) h2]
   simp [List.getD_eq_getElem?_getD,h2]
  have e:∀i,i<r.length->(inB 0 ((m:Int)-1) (at_ I r i)&&escS (ballF m es) w r i)=(inB 0 ((m:Int)-1) (r.getD i 0)&&(!hasL (w.getD i []) (r.getD i 0)&&(!decide (0<i)||(!hasL (w.getD i []) (r.getD (i-1) 0)&&hasL (ballF m es (r.getD (i-1) 0)) (r.getD i 0))))):=fun i hi=>by
   unfold escS
   rw [e1 i hi,e2 i hi,e1 (i-1) (by omega)]
  constructor
  ·intro h i hi
   have hi:=List.mem_range.1 hi
   have:=h i (Nat.zero_le _) (by omega)
   rw [e i hi] at this
   exact this
  ·intro h i h1 h2
   have hi:i<r.length:=by omega
   rw [e i hi]
   exact h i (List.mem_range.2 hi)
 ·simp only [he,decide_false,Bool.false_and]
theorem specEsc_lim (d) (r) (h:G_escape d=some r):∃N,F_q50q N d=some r:=by
 obtain ⟨⟨n,es,v⟩,w,l,_⟩:=d
 unfold G_escape at h
 split at h
 ·rename_i hc
  simp only [Bool.and_eq_true] at hc
  obtain ⟨⟨ho,hw⟩,hl⟩:=hc
  have ho:okL es=true:=ho
  have hw:okLL w=true:=hw
  have hl:okL l=true:=hl
  have h:=Option.some.inj h
  subst h
  cases hb:walkB (n,es,v) w with
  | false=>
   refine ⟨0,?_⟩
   unfold F_q50q G_graph G_l11Walk
   cases hg:graphB (n,es,v)<;>simp [ho,hw,hg,hb]
  | true=>
   have hg:graphB (n,es,v)=true:=by
    cases hg:graphB (n,es,v) with
    | true=>rfl
    | false=>unfold walkB at hb;simp [hg] at hb
   obtain ⟨n0,n8⟩:=graphB_n hg
   obtain ⟨m,rfl⟩:∃m:Nat,n=(m:Int):=⟨n.toNat,by omega⟩
   obtain ⟨N,hN⟩:=spec_esc hg ho hw hl hb
   refine ⟨N,?_⟩
   rw [esc_two hg ho,esc_range (v:=v)] at hN
   rw [hN]
   simp [hb]
 ·cases h
theorem implEsc_lim (d) (r) (h:G_escape d=some r):∃N,F_q46q N d=some r:=by
 obtain ⟨⟨n,es,v⟩,w,l,_⟩:=d
 unfold G_escape at h
 split at h
 ·rename_i hc
  simp only [Bool.and_eq_true] at hc
  obtain ⟨⟨ho,hw⟩,hl⟩:=hc
  have ho:okL es=true:=ho
  have hw:okLL w=true:=hw
  have hl:okL l=true:=hl
  have h:=Option.some.inj h
  subst h
  cases hb:walkB (n,es,v) w with
  | false=>
   refine ⟨0,?_⟩
   unfold F_q46q G_walk
   simp [ho,hw,hb]
  | true=>
   have hg:graphB (n,es,v)=true:=by
    cases hg:graphB (n,es,v) with
    | true=>rfl
    | false=>unfold walkB at hb;simp [hg] at hb
   obtain ⟨n0,n8⟩:=graphB_n hg
   obtain ⟨m,rfl⟩:∃m:Nat,n=(m:Int):=⟨n.toNat,by omega⟩
   obtain ⟨N,hN⟩:=impl_esc hg ho hw hl hb
   refine ⟨N,?_⟩
   rw [esc_range (v:=v)] at hN
   rw [hN]
   simp [hb]
 ·cases h
end Go.V.W
namespace Go.V.W
open Go.Proofs
theorem l11Rest_lim (d) (r) (h:G_l11Rest d=some r):∃N,F_q68q N d=some r:=by
 obtain ⟨l,c,_⟩:=d
 unfold G_l11Rest at h
 split at h
 ·rename_i hc
  obtain ⟨hl0,hcc⟩:=(Bool.and_eq_true _ _).mp hc
  have hl:l.length<=lim:=okL_lim hl0
  have h:=Option.some.inj h
  subst h
  refine ⟨l.length+1,?_⟩
  unfold F_q68q
  have:=loop_keep (L:=q68q_l0 (l.length+1)) (r:=q68q_l0_r (l.length+1)) (fun _ _=>rfl) l (mk:=fun i A=>(l,c,A,(i:Int),())) (f:=fun y=>if (!hasL c y)=true then [y] else []) (o:=fun A=>.inl (A,())) (fun x=>one_len)
   (by
    intro back i hi A hA
    unfold q68q_l0_r
    have hle:decide (A.length+List.length [l[i]]<=lim)=true:=by simp;omega
    have e:at_ I l i=l[i]:=at_get (e:=I) hi
    simp only [lt_dec hi,if_true,idxIn_nat hi,Int.toNat_natCast,e,has1 hcc,Option.bind_some,hle,wrap_up hi (lim_max hl)]
    by_cases hb:(!hasL c l[i])=true
    ·simp only [hb,if_true]
    ·simp only [hb,if_false,List.append_nil,Bool.false_eq_true])
   (by
    intro back A hA
    unfold q68q_l0_r
    simp only [lt_not,Bool.false_eq_true,if_false]) l.length (Nat.le_refl _)
  rw [flat_filter] at this
  simp only [Int.natCast_zero] at this
  simp only [this,Option.bind_some]
  rfl
 ·cases h
theorem rest_len (c l:List Int):(restL c l).length<=l.length:=List.length_filter_le _ _
theorem rest_some {l c:List Int} (hl:okL l=true) (hc:okL c=true) (u:Unit):G_l11Rest (l,c,u)=some (restL c l,()):=by
 unfold G_l11Rest
 simp only [hl,hc,Bool.and_self,if_true]
theorem next_l2 (N:Nat) (balls:List (List Int)) (c left:List Int) (s9:Int) (bs:List Int) (hb:bs.length<=100):∀(k i f:Nat) (o:List Int),i+k=bs.length->k<f->o.length+k<=900 ->
  q56q_l2 N f (balls,c,left,o,s9,bs,(i:Int),())=some (.inl (balls,c,left,putAll o (bs.drop i),s9,())):=by
 have hmx:bs.length<=maxLen:=by unfold maxLen;omega
 intro k
 induction k with
 | zero=>
  intro i f o h1 h2 h3
  obtain ⟨f,rfl⟩:∃m,f=m+1:=⟨f-1,by omega⟩
  have e:i=bs.length:=by omega
  subst e
  rw [List.drop_of_length_le (Nat.le_refl _)]
  simp [q56q_l2,q56q_l2_r,putAll]
 | succ k ih=>
  intro i f o h1 h2 h3
  obtain ⟨f,rfl⟩:∃m,f=m+1:=⟨f-1,by omega⟩
  have hi:i<bs.length:=by omega
  show q56q_l2_r N (q56q_l2 N f) (balls,c,left,o,s9,bs,(i:Int),())=_
  unfold q56q_l2_r
  have e:at_ I bs i=bs[i]:=at_get (e:=I) hi
  have ho:okS1 o=true:=decide_eq_true (by omega)
  have hp:=putL_len bs[i] o
  simp only [lt_dec hi,if_true,idxIn_nat hi,Int.toNat_natCast,wrap_up hi hmx,e,G_l1Put,ho,Option.bind_some]
  rw [ih (i+1) f _ (by omega) (by omega) (by omega),List.drop_eq_getElem_cons hi]
  rfl
theorem next_l0 (N:Nat) (hN:20<=N) (balls:List (List Int)) (c left:List Int) (hc:okL c=true) (hleft:left.length<=8) (hin:∀x∈left,inB 0 ((balls.length:Int)-1) x=true) (hbl:∀b∈balls,b.length<=9):∀(k i f:Nat) (o:List Int),i+k=left.length->k<f->o.length+10*k<=800 ->
  q56q_l0 N f (balls,c,left,o,(i:Int),())=some (.inl ((left.drop i).foldl (fun o x=>putAll o (restL c (balls.getD x.toNat []))) o,())):=by
 have hmx:left.length<=maxLen:=by unfold maxLen;omega
 intro k
 induction k with
 | zero=>
  intro i f o h1 h2 h3
  obtain ⟨f,rfl⟩:∃m,f=m+1:=⟨f-1,by omega⟩
  have e:i=left.length:=by omega
  subst e
  rw [List.drop_of_length_le (Nat.le_refl _)]
  simp [q56q_l0,q56q_l0_r]
 | succ k ih=>
  intro i f o h1 h2 h3
  obtain ⟨f,rfl⟩:∃m,f=m+1:=⟨f-1,by omega⟩
  have hi:i<left.length:=by omega
  show q56q_l0_r N (q56q_l0 N f) (balls,c,left,o,(i:Int),())=_
  unfold q56q_l0_r
  have e:at_ I left i=left[i]:=at_get (e:=I) hi
  obtain ⟨x,hx,hxm⟩:=nodeX (hin _ (List.getElem_mem hi))
  have eb:at_ K_Si balls x=balls.getD x []:=rfl
  have hb9:(balls.getD x []).length<=9:=by
   rw [List.getD_eq_getElem?_getD,List.getElem?_eq_getElem hxm]
   exact hbl _ (List.getElem_mem hxm)
  have hrl:=rest_len c (balls.getD x [])
  have h2':=next_l2 N balls c left (i:Int) (restL c (balls.getD x [])) (by omega) (restL c (balls.getD x [])).length 0 N o (by omega) (by omega) (by omega)
  simp only [Int.natCast_zero,List.drop_zero] at h2'
  simp only [lt_dec hi,if_true,idxIn_nat hi,idxIn_nat hxm,Int.toNat_natCast,wrap_up hi hmx,e,hx,eb,rest_some (okL_of (show (balls.getD x []).length<=1048576 by omega)) hc,Option.bind_some,h2']
  have hpl:=putAll_len (restL c (balls.getD x [])) o
  rw [ih (i+1) f _ (by omega) (by omega) (by omega),List.drop_eq_getElem_cons hi,List.foldl_cons,hx,Int.toNat_natCast]
theorem l11Next_lim (d) (r) (h:G_l11Next d=some r):∃N,F_q56q N d=some r:=by
 obtain ⟨balls,un,c,_⟩:=d
 unfold G_l11Next at h
 split at h
 ·rename_i hc
  simp only [Bool.and_eq_true,decide_eq_true_eq] at hc
  obtain ⟨⟨⟨⟨h1,h2⟩,h3⟩,h4⟩,h5⟩:=hc
  have h:=Option.some.inj h
  subst h
  have hrl:=rest_len c un
  refine ⟨20,?_⟩
  unfold F_q56q
  have:=next_l0 20 (Nat.le_refl _) balls c (restL c un) h5 (by omega) (fun x hx=>List.all_eq_true.1 h2 x ((List.mem_filter.1 hx).1)) (fun b hb=>of_decide_eq_true (List.all_eq_true.1 h4 b hb)) (restL c un).length 0 20 [] (by omega) (by omega) (by simp;omega)
  simp only [Int.natCast_zero,List.drop_zero] at this
  simp only [rest_some (okL_of (show un.length<=1048576 by omega)) h5,Option.bind_some,this]
  rfl
 ·cases h
end Go.V.W
namespace Go.V.W
open Go.Proofs
theorem any_set2 (p:Nat->Bool) (f:Int->Bool) (n:Nat):(setF p n 0).any f=(List.range n).any fun x=>p x&&f (x:Int):=by
 apply bool_eq_iff
 rw [List.any_eq_true,List.any_eq_true]
 constructor
 ·rintro ⟨z,hz,hf⟩
  obtain ⟨y,_,h2,h3,rfl⟩:=setF_mem.1 hz
  exact ⟨y,List.mem_range.2 (by omega),by rw [h3,hf];rfl⟩
 ·rintro ⟨y,hy,hf⟩
  rw [Bool.and_eq_true] at hf
  exact ⟨(y:Int),setF_mem.2 ⟨y,Nat.zero_le _,by have:=List.mem_range.1 hy;omega,hf.1,rfl⟩,hf.2⟩
theorem next_fold {n:Nat} (B:Int->List Int):∀(set:List Int) (q:Nat->Bool),(∀x∈set,∀z∈B x,∃y:Nat,y<n/\z=(y:Int)) ->
  set.foldl (fun o x=>putAll o (B x)) (setF q n 0)=setF (fun y=>q y||set.any fun x=>(B x).any fun z=>z==(y:Int)) n 0:=by
 intro set
 induction set with
 | nil=>intro q _;exact setF_congr fun y _ _=>by simp
 | cons x set ih=>
  intro q h
  rw [List.foldl_cons,putAll_set _ _ (h x (by simp)),ih _ fun z hz=>h z (by simp [hz])]
  exact setF_congr fun y _ _=>by rw [List.any_cons,Bool.or_assoc]
theorem rest_set (c:List Int) (p:Nat->Bool) (n:Nat):restL c (setF p n 0)=setF (fun y=>p y && !hasL c (y:Int)) n 0:=filter_setF p _ n 0
theorem next_set {n:Nat} {es:List E} (c:List Int) (p:Nat->Bool) {balls:List (List Int)} (hb:∀x:Nat,x<n->balls.getD x []=ballF n es (x:Int)):nextL balls c (restL c (setF p n 0))=setF (nextP es n c p) n 0:=by
 unfold nextL
 have h0:∀(B:Int->List Int) (l:List Int),l.foldl (fun o x=>putAll o (B x)) []=l.foldl (fun o x=>putAll o (B x)) (setF (fun _=>false) n 0):=fun B l=>by rw [setF_empty]
 have hu:nextP es n c p=fun y=>stepP es n (fun x=>p x && !hasL c (x:Int)) y && !hasL c (y:Int):=rfl
 rw [rest_set,hu]
 generalize (fun y:Nat=>p y && !hasL c (y:Int))=q
 rw [h0 (fun x=>restL c (balls.getD x.toNat [])),next_fold (fun x=>restL c (balls.getD x.toNat []))]
 ·refine setF_congr fun y _ hy => ?_
  rw [Bool.false_or,any_set2]
  apply bool_eq_iff
  unfold stepP
  rw [List.any_eq_true,Bool.and_eq_true,Bool.or_eq_true,List.any_eq_true]
  have key:∀x:Nat,x<n->((restL c (balls.getD ((x:Int).toNat) [])).any fun z=>z==(y:Int))=((nearI es (x:Int) (y:Int)||decide ((y:Int)=(x:Int))) && !hasL c (y:Int)):=by
   intro x hx
   rw [Int.toNat_natCast,hb x hx]
   unfold ballF
   rw [rest_set]
   exact any_setF (by omega)
  constructor
  ·rintro ⟨x,hx,h1⟩
   have hx:=List.mem_range.1 hx
   rw [Bool.and_eq_true,key x hx,Bool.and_eq_true,Bool.or_eq_true] at h1
   obtain ⟨h1,h2,h3⟩:=h1
   refine ⟨?_,h3⟩
   rcases h2 with h2 | h2
   ·exact .inr ⟨x,List.mem_range.2 hx,by rw [h1,h2];rfl⟩
   ·have:=of_decide_eq_true h2
    have e:y=x:=by omega
    subst e
    exact .inl h1
  ·rintro ⟨h1 | ⟨x,hx,h1⟩,h3⟩
   ·refine ⟨y,List.mem_range.2 (by omega),?_⟩
    rw [h1,key y (by omega),h3]
    simp
   ·have hx':=List.mem_range.1 hx
    rw [Bool.and_eq_true] at h1
    refine ⟨x,hx,?_⟩
    rw [key x hx',h1.1,h1.2,h3]
    rfl
 ·intro x hx z hz
  obtain ⟨w,_,h2,_,rfl⟩:=setF_mem.1 hx
  rw [Int.toNat_natCast,hb w (by omega)] at hz
  exact setF_nat z ((List.mem_filter.1 hz).1)
theorem sets_l0 (N:Nat) (g:Gr) (n:Nat) (hg:g.1=(n:Int)) (hn:n<=8) (ho:okL g.2.1=true) (w out:List (List Int)):∀(k x f:Nat),x+k=n->k<f ->
  q58q_l0 N f (w,g,out,(List.range x).map (fun x:Nat=>ballL n g.2.1 (x:Int)),(x:Int),())=some (.inl (w,out,(List.range n).map (fun x:Nat=>ballL n g.2.1 (x:Int)),())):=by
 intro k
 induction k with
 | zero=>
  intro x f h1 h2
  obtain ⟨f,rfl⟩:∃m,f=m+1:=⟨f-1,by omega⟩
  have e:x=n:=by omega
  subst e
  simp [q58q_l0,q58q_l0_r,hg]
 | succ k ih=>
  intro x f h1 h2
  obtain ⟨f,rfl⟩:∃m,f=m+1:=⟨f-1,by omega⟩
  have hx:x<n:=by omega
  show q58q_l0_r N (q58q_l0 N f) (w,g,out,_,(x:Int),())=_
  unfold q58q_l0_r
  have hl:decide (((List.range x).map (fun x:Nat=>ballL n g.2.1 (x:Int))).length+List.length [ballL n g.2.1 (x:Int)]<=lim)=true:=by unfold lim;simp;omega
  simp only [hg,lt_dec hx,if_true,ball_eq g n hg hn ho,Option.bind_some,hl,wrap8 hx hn,range_snocT x (fun x:Nat=>ballL n g.2.1 (x:Int))]
  exact ih (x+1) f (by omega) (by omega)
theorem unsP_len (es:List E) (n:Nat):∀(w:List (List Int)) (p:Nat->Bool),(unsP es n p w).length=w.length:=by
 intro w
 induction w with
 | nil=>intro p;rfl
 | cons c w ih=>intro p;simp [unsP,ih]
theorem setF_len8 {n:Nat} {p:Nat->Bool} (hn:n<=8):(setF p n 0).length<=8:=Nat.le_trans setF_len hn
theorem nodes_ok {n:Int} {c:List Int} (h:nodesB n c=true):okL c=true:=okL_of (by have:=(nodes_parts h).1;omega)
theorem sets_l2 (N:Nat) (es:List E) (n:Nat) (hn:n<=8) (w:List (List Int)) (hw:w.length<=40) (hc:w.all okL=true) (balls:List (List Int)) (hbl:balls.length=n) (hb9:balls.all (fun b=>decide (b.length<=9))=true) (hb:∀x:Nat,x<n->balls.getD x []=ballF n es (x:Int)) :
  ∀(rest:List (List Int)) (i f:Nat) (out:List (List Int)) (p:Nat->Bool),0<i->i+rest.length=w.length->w.drop i=rest->rest.length<f->out.length=i->out.getD (i-1) []=setF p n 0 ->
   q58q_l2 N f (w,out,(i:Int),balls,())=some (.inl (out++(unsP es n p rest).map (fun p=>setF p n 0),())):=by
 have hmx:w.length<=maxLen:=by unfold maxLen;omega
 intro rest
 induction rest with
 | nil=>
  intro i f out p h0 h1 h2 h3 h4 h5
  obtain ⟨f,rfl⟩:∃m,f=m+1:=⟨f-1,by omega⟩
  have e:i=w.length:=by simpa using h1
  subst e
  simp [q58q_l2,q58q_l2_r,unsP]
 | cons c rest ih=>
  intro i f out p h0 h1 h2 h3 h4 h5
  obtain ⟨f,rfl⟩:∃m,f=m+1:=⟨f-1,by omega⟩
  have hi:i<w.length:=by simp at h1;omega
  have hd:=List.drop_eq_getElem_cons hi
  rw [h2] at hd
  injection hd with hd1 hd2
  have hcw:at_ K_Si w i=c:=by rw [at_get (e:=K_Si) hi];exact hd1.symm
  have ho:at_ K_Si out (i-1)=setF p n 0:=h5
  have hok:okL c=true:=by rw [hd1];exact List.all_eq_true.1 hc _ (List.getElem_mem hi)
  show q58q_l2_r N (q58q_l2 N f) (w,out,(i:Int),balls,())=_
  unfold q58q_l2_r
  have hx:G_l11Next (balls,setF p n 0,c,())=some (setF (nextP es n c p) n 0,()):=by
   unfold G_l11Next
   have a1:(setF p n 0).all (inB 0 ((balls.length:Int)-1))=true:=List.all_eq_true.2 fun z hz=>by
    obtain ⟨y,h1,rfl⟩:=setF_nat z hz
    rw [hbl]
    exact inB_iff.2 (by omega)
   have a2:decide (balls.length<=8)=true:=decide_eq_true (by omega)
   simp only [a1,a2,hb9,hok,decide_eq_true (setF_len8 (p:=p) hn),Bool.and_self,if_true,next_set c p hb]
  have hle:decide (out.length+List.length [setF (nextP es n c p) n 0]<=lim)=true:=by unfold lim;simp;omega
  have hi2:i-1<out.length:=by omega
  simp only [lt_dec hi,if_true,wrap_down h0 (show i<=maxLen by omega),idxIn_nat hi2,idxIn_nat hi,Int.toNat_natCast,ho,hcw,hx,Option.bind_some,hle,wrap_up hi hmx]
  rw [ih (i+1) f _ (nextP es n c p) (by omega) (by simp at h1;omega) hd2.symm (by simp at h3;omega) (by simp [h4]) (by simp [List.getD_eq_getElem?_getD,<- h4])]
  simp [unsP]
theorem l11Sets_lim (d) (r) (h:G_l11Sets d=some r):∃N,F_q58q N d=some r:=by
 obtain ⟨⟨m,es,v⟩,w,_⟩:=d
 unfold G_l11Sets at h
 split at h
 ·rename_i hc
  obtain ⟨hgr,hwk⟩:=(Bool.and_eq_true _ _).mp hc
  have h:=Option.some.inj h
  subst h
  have hg0:=hgr
  unfold grB at hg0
  simp only [Bool.and_eq_true,decide_eq_true_eq] at hg0
  obtain ⟨⟨⟨ho,h0⟩,h8⟩,hE⟩:=hg0
  obtain ⟨n,rfl⟩:=nat_of h0
  have hn:n<=8:=by omega
  unfold wkB at hwk
  simp only [Bool.and_eq_true,decide_eq_true_eq] at hwk
  obtain ⟨⟨w1,w40⟩,wn⟩:=hwk
  have hall:w.all okL=true:=List.all_eq_true.2 fun c hc=>nodes_ok (List.all_eq_true.1 wn c hc)
  cases w with
  | nil=>simp at w1
  | cons c0 w=>
  have hc0:okL c0=true:=List.all_eq_true.1 hall _ (by simp)
  refine ⟨60,?_⟩
  unfold F_q58q
  have hball:∀x:Nat,x<n->((List.range n).map fun x:Nat=>ballL n es (x:Int)).getD x []=ballF n es (x:Int):=by
   intro x hx
   rw [List.getD_eq_getElem?_getD,List.getElem?_map,List.getElem?_range hx]
   show ballL n es (x:Int)=ballF n es (x:Int)
   rw [ballL_set hx]
   unfold ballF
   refine setF_congr fun y _ _ => ?_
   congr 1
   apply bool_eq_iff
   rw [decide_eq_true_eq,decide_eq_true_eq]
   omega
  have e1:=sets_l0 60 ((n:Int),es,v) n rfl hn ho (c0::w) [restL c0 (setF (fun _=>true) n 0)] n 0 60 (by omega) (by omega)
  simp only [List.range_zero,List.map_nil,Int.natCast_zero] at e1
  have e2:=sets_l2 60 es n hn (c0::w) w40 hall ((List.range n).map fun x:Nat=>ballL n es (x:Int)) (by simp) (List.all_eq_true.2 fun b hb=>by
   obtain ⟨x,_,rfl⟩:=List.mem_map.1 hb
   have:=ball_len (n:=n) (es:=es) (x:=(x:Int))
   exact decide_eq_true (by omega)) hball w 1 60 [restL c0 (setF (fun _=>true) n 0)] (freeP c0) (by omega) (by simp;omega) rfl (by simp at w40;omega) rfl (by
    show restL c0 (setF (fun _=>true) n 0)=_
    rw [rest_set]
    exact setF_congr fun y _ _=>by simp [freeP])
  have e3:at_ K_Si (c0::w) 0=c0:=rfl
  have e4:idxIn (0:Int) (c0::w).length=true:=idxIn_nat (i:=0) (by simp)
  simp only [all_some hn,Option.bind_some,e4,if_true,Int.toNat_zero,e3,rest_some (okL_of (show (setF (fun _=>true) n 0).length<=1048576 by have:=setF_len (p:=fun _=>true) (k:=n) (x:=0);omega)) hc0,e1]
  rw [show ((1:Nat):Int)=1 from rfl] at e2
  simp only [e2,Option.bind_some]
  unfold setsL walkP
  simp only [List.headD_cons,List.tail_cons,Int.toNat_natCast,List.map_cons]
  rw [rest_set]
  rfl
 ·cases h
end Go.V.W
namespace Go.V.W
open Go.Proofs
theorem nodes7 {n:Nat} (hn:n<=8) {c:List Int} (h:nodesB (n:Int) c=true):c.all (inB 0 7)=true /\ ∀y∈c,0<=y/\y<=(n:Int)-1:=by
 obtain ⟨_,h2⟩:=nodes_parts h
 refine ⟨List.all_eq_true.2 fun y hy => ?_,fun y hy=>inB_iff.1 (h2 y hy)⟩
 have:=inB_iff.1 (h2 y hy)
 exact inB_iff.2 (by omega)
theorem mask_some {n:Nat} (hn:n<=8) {c:List Int} (h:nodesB (n:Int) c=true) (u:Unit):G_maskOf (c,u)=some ((maskN c:Int),()):=by
 unfold G_maskOf
 simp only [nodes_ok h,(nodes7 hn h).1,Bool.and_self,if_true]
theorem andN_lt {a b:Nat} (ha:a<256):andN a b<256:=Nat.lt_of_le_of_lt Nat.and_le_left ha
theorem andN_bit (a b y:Nat) (ha:a<256):(andN a b).testBit y=(a.testBit y && !b.testBit y):=by
 unfold andN
 rw [Nat.testBit_and,Nat.testBit_xor,bit_255]
 by_cases h:y<8
 ·simp [h]
 ·have:a.testBit y=false:=Nat.testBit_lt_two_pow (Nat.lt_of_lt_of_le (show a<2 ^ 8 from ha) (Nat.pow_le_pow_right (by omega) (by omega)))
  simp [this]
theorem isM_andN {n a b:Nat} {p q:Nat->Bool} (ha:isM n a p) (hb:isM n b q):isM n (andN a b) (fun y=>p y && !q y):=by
 refine ⟨andN_lt ha.1,fun y => ?_⟩
 rw [andN_bit _ _ _ ha.1,ha.2 y,hb.2 y]
 cases decide (y<n)<;>simp
theorem mask_lt {n:Nat} (hn:n<=8) {c:List Int} (h:nodesB (n:Int) c=true):maskN c<256:=(maskN_isM hn (nodes7 hn h).2).1
theorem arN_lt {l:List Int} (h:netB l=true) {s:Nat} (hs:s<256):arN (fromI l) s l.length 0 s<256:=by
 obtain ⟨_,h2,_,_⟩:=netB_parts h
 exact (arN_bit h2 s l.length 0 s hs).1
theorem netB_small {l:List Int} (h:netB l=true):smallN l=true:=by
 unfold netB at h
 rw [Bool.and_eq_true] at h
 exact h.1
theorem around_some {l:List Int} (h:netB l=true) (u v:Unit) {s:Nat} (hs:s<256):G_around ((l,u),(s:Int),v)=some (((arN (fromI l) s l.length 0 s:Nat):Int),()):=by
 unfold G_around
 simp only [netB_small h,nonneg_dec,Bool.and_self,Bool.true_and,Int.toNat_natCast,decide_eq_true (show (s:Int)<256 by omega),if_true]
theorem after_unsafe {l:List Int} (h:netB l=true) (u v:Unit) {m:Nat} (hm:m<256) {c:List Int} (hc:nodesB (l.length:Int) c=true) :
  F_q11q 0 ((l,u),(m:Int),c,v)=some (((nextM l c m:Nat):Int),())/\nextM l c m<256:=by
 obtain ⟨_,_,h8,_⟩:=netB_parts h
 have hk:=mask_lt h8 hc
 have h1:=andN_lt (b:=maskN c) hm
 have h2:=arN_lt h h1
 refine ⟨?_,andN_lt h2⟩
 unfold F_q11q
 simp only [mask_some h8 hc,Option.bind_some,bits_andNot hm hk]
 rw [show (m&&&(255^^^maskN c))=andN m (maskN c) from rfl]
 simp only [around_some h _ _ h1,Option.bind_some,bits_andNot h2 hk]
 rfl
theorem along_l0 (N:Nat) {l:List Int} (h:netB l=true) (u:Unit) (w:List (List Int)) (hw:w.length<=40) (hc:w.all (nodesB (l.length:Int))=true):∀(rest:List (List Int)) (i f:Nat) (out:List Nat) (m:Nat),
  i+rest.length=w.length->w.drop i=rest->rest.length<f->out.length=i->m<256 ->
   q13q_l0 N f ((l,u),toI (out++[m]),w,(w.length:Int),(i:Int),())=some (.inl (toI (out++m::unsM l m rest),())):=by
 have hmx:w.length<=maxLen:=by unfold maxLen;omega
 intro rest
 induction rest with
 | nil=>
  intro i f out m h1 h2 h3 h4 h5
  obtain ⟨f,rfl⟩:∃m,f=m+1:=⟨f-1,by omega⟩
  have e:i=w.length:=by simpa using h1
  subst e
  simp [q13q_l0,q13q_l0_r,unsM]
 | cons c rest ih=>
  intro i f out m h1 h2 h3 h4 h5
  obtain ⟨f,rfl⟩:∃m,f=m+1:=⟨f-1,by omega⟩
  have hi:i<w.length:=by simp at h1;omega
  have hd:=List.drop_eq_getElem_cons hi
  rw [h2] at hd
  injection hd with hd1 hd2
  have hcw:at_ K_Si w i=c:=by rw [at_get (e:=K_Si) hi];exact hd1.symm
  have hcn:nodesB (l.length:Int) c=true:=by rw [hd1];exact List.all_eq_true.1 hc _ (List.getElem_mem hi)
  have hm:at_ I (toI (out++[m])) i=(m:Int):=by
   rw [at_toI]
   congr 1
   rw [List.getD_eq_getElem?_getD,<- h4]
   simp
  obtain ⟨a1,a2⟩:=after_unsafe h u () h5 hcn
  show q13q_l0_r N (q13q_l0 N f) ((l,u),toI (out++[m]),w,(w.length:Int),(i:Int),())=_
  unfold q13q_l0_r
  have hle:decide ((toI (out++[m])).length+List.length [((nextM l c m:Nat):Int)]<=lim)=true:=by unfold lim;simp [toI];omega
  have hi2:i<(toI (out++[m])).length:=by simp [toI];omega
  have happ:toI (out++[m])++[((nextM l c m:Nat):Int)]=toI ((out++[m])++[nextM l c m]):=by simp [toI]
  simp only [lt_dec hi,if_true,idxIn_nat hi,idxIn_nat hi2,Int.toNat_natCast,hm,hcw,a1,Option.bind_some,hle,wrap_up hi hmx,happ]
  rw [ih (i+1) f (out++[m]) (nextM l c m) (by simp at h1;omega) hd2.symm (by simp at h3;omega) (by simp [h4]) a2]
  simp [unsM]
theorem all_mask2 {l:List Int} (h8:l.length<=8) (u v:Unit):F_q57q 0 ((l,u),v)=some (((2 ^ l.length-1:Nat):Int),()):=by
 unfold F_q57q
 simp only [nonneg_dec,if_true,(all_mask h8).1]
theorem netUns_lim (d) (r) (h:G_netUns d=some r):∃N,F_q13q N d=some r:=by
 obtain ⟨⟨l,u⟩,w,_⟩:=d
 unfold G_netUns at h
 split at h
 ·rename_i hc
  obtain ⟨hnet,hwk⟩:=(Bool.and_eq_true _ _).mp hc
  have h:=Option.some.inj h
  subst h
  have hnet:netB l=true:=hnet
  have hwk:wkB (l.length:Int) w=true:=hwk
  obtain ⟨_,_,h8,_⟩:=netB_parts hnet
  unfold wkB at hwk
  simp only [Bool.and_eq_true,decide_eq_true_eq] at hwk
  obtain ⟨⟨w1,w40⟩,wn⟩:=hwk
  cases w with
  | nil=>simp at w1
  | cons c0 w=>
  have hc0:nodesB (l.length:Int) c0=true:=List.all_eq_true.1 wn _ (by simp)
  have hwn:w.all (nodesB (l.length:Int))=true:=List.all_eq_true.2 fun c hc=>List.all_eq_true.1 wn c (by simp [hc])
  have hm0:2 ^ l.length-1<256:=by have:=(all_mask h8).2;omega
  refine ⟨60,?_⟩
  unfold F_q13q
  have e3:at_ K_Si (c0::w) 0=c0:=rfl
  have e4:idxIn (0:Int) (c0::w).length=true:=idxIn_nat (i:=0) (by simp)
  have e5:(decide (0<=(1:Int))&&decide ((1:Int)<=((c0::w).length:Int))&&decide (((c0::w).length:Int)<=((c0::w).length:Int)))=true:=by simp;omega
  have e6:sub_ (c0::w) (1:Int) ((c0::w).length:Int)=w:=by
   unfold sub_
   rw [Int.toNat_natCast,List.take_of_length_le (Nat.le_refl _)]
   rfl
  have e7:=along_l0 60 hnet u w (by simp at w40;omega) hwn w 0 60 [] (firstM l (c0::w)) (by simp) rfl (by simp at w40;omega) rfl (andN_lt hm0)
  simp only [Int.natCast_zero,List.nil_append] at e7
  have e8:[((firstM l (c0::w):Nat):Int)]=toI [firstM l (c0::w)]:=rfl
  simp only [all_mask2 h8,Option.bind_some,e4,if_true,Int.toNat_zero,e3,mask_some h8 hc0,e5,e6,bits_andNot hm0 (mask_lt h8 hc0)]
  rw [show ((2 ^ l.length-1)&&&(255^^^maskN c0))=firstM l (c0::w) from rfl,e8]
  simp only [e7,Option.bind_some]
  rfl
 ·cases h
theorem next_isM {n:Nat} (hn:n<=8) {es:List E} (h:es.all (edgeB (n:Int))=true) {c:List Int} (hc:nodesB (n:Int) c=true) {m:Nat} {p:Nat->Bool} (hm:isM n m p):isM n (nextM (toI (netN n es)) c m) (nextP es n c p):=by
 have hk:=maskN_isM hn (nodes7 hn hc).2
 have h1:=isM_andN hm hk
 have h2:=around_isM hn h h1
 have h3:=isM_andN h2 hk
 unfold nextM
 rw [toI_from,toI_len,(netN_ok hn h).1]
 exact h3
theorem uns_masks {n:Nat} (hn:n<=8) {es:List E} (h:es.all (edgeB (n:Int))=true):∀(w:List (List Int)) (m:Nat) (p:Nat->Bool),isM n m p->w.all (nodesB (n:Int))=true ->
  (unsM (toI (netN n es)) m w).length=w.length /\ ∀i,i<w.length->isM n ((unsM (toI (netN n es)) m w).getD i 0) ((unsP es n p w).getD i fun _=>false):=by
 intro w
 induction w with
 | nil=>intro m p _ _;exact ⟨rfl,fun i hi=>by simp at hi⟩
 | cons c w ih=>
  intro m p hm hc
  rw [List.all_cons,Bool.and_eq_true] at hc
  have h1:=next_isM hn h hc.1 hm
  obtain ⟨k1,k2⟩:=ih _ _ h1 hc.2
  refine ⟨by simp [unsM,k1],fun i hi => ?_⟩
  cases i with
  | zero=>exact h1
  | succ i=>exact k2 i (by simp at hi;omega)
theorem full_isM {n:Nat} (hn:n<=8):isM n (2 ^ n-1) (fun _=>true):=⟨by have:=(all_mask hn).2;omega,fun y=>by rw [Nat.testBit_two_pow_sub_one];simp⟩
theorem walk_masks {n:Nat} (hn:n<=8) {es:List E} {v:Unit} (h:es.all (edgeB (n:Int))=true) {w:List (List Int)} (hw:wkB (n:Int) w=true) :
  (walkM (toI (netN n es)) w).length=w.length/\(walkP ((n:Int),es,v) w).length=w.length /\ ∀i,i<w.length->isM n ((walkM (toI (netN n es)) w).getD i 0) ((walkP ((n:Int),es,v) w).getD i fun _=>false):=by
 unfold wkB at hw
 simp only [Bool.and_eq_true,decide_eq_true_eq] at hw
 obtain ⟨⟨w1,w40⟩,wn⟩:=hw
 cases w with
 | nil=>simp at w1
 | cons c w=>
  rw [List.all_cons,Bool.and_eq_true] at wn
  have h0:isM n (firstM (toI (netN n es)) (c::w)) (freeP c):=by
   have:=isM_andN (full_isM hn) (maskN_isM hn (nodes7 hn wn.1).2)
   unfold firstM
   rw [toI_len,(netN_ok hn h).1]
   exact isM_congr (fun y _=>by simp [freeP]) this
  obtain ⟨k1,k2⟩:=uns_masks hn h w _ _ h0 wn.2
  unfold walkM walkP
  simp only [List.headD_cons,List.tail_cons,List.length_cons,k1,unsP_len,Int.toNat_natCast]
  refine ⟨trivial,trivial,fun i hi => ?_⟩
  cases i with
  | zero=>exact h0
  | succ i=>exact k2 i (by omega)
end Go.V.W
namespace Go.V.W
open Go.Proofs
theorem rest_nodes {ball:Int->List Int} {n:Int} {k:Nat} (h3:k<=3):∀(w:List (List Int)) (p:Option (List Int)),restB ball n k p w=true->w.all (nodesB n)=true:=by
 intro w
 induction w with
 | nil=>intro p _;rfl
 | cons c w ih=>
  intro p h
  simp only [restB,Bool.and_eq_true,decide_eq_true_eq] at h
  obtain ⟨⟨⟨h1,h2⟩,_⟩,h4⟩:=h
  rw [List.all_cons,Bool.and_eq_true]
  exact ⟨cops_nodes h2 (by omega),ih _ h4⟩
theorem walk_wk {g:Gr} {w:List (List Int)} (h:walkB g w=true):graphB g=true/\wkB g.1 w=true:=by
 unfold walkB at h
 simp only [Bool.and_eq_true,decide_eq_true_eq] at h
 obtain ⟨⟨⟨⟨h1,h2⟩,_⟩,h3⟩,h4⟩:=h
 have h2:=inB_iff.1 h2
 have h3:=inB_iff.1 h3
 refine ⟨h1,?_⟩
 unfold wkB
 rw [rest_nodes (by omega) w none h4,decide_eq_true (show 1<=w.length by omega),decide_eq_true (show w.length<=40 by omega)]
 rfl
theorem setOf_some {m:Nat} (h:m<256) (u:Unit):G_setOf ((m:Int),u)=some (setF (fun y=>m.testBit y) 8 0,()):=by
 unfold G_setOf
 simp only [nonneg_dec,Bool.true_and,decide_eq_true (show (m:Int)<256 by omega),if_true,Int.toNat_natCast]
theorem masks_sets {n:Nat} (hn:n<=8) {ms:List Nat} {ps:List (Nat->Bool)} (hl:ms.length=ps.length) (h:∀i,i<ps.length->isM n (ms.getD i 0) (ps.getD i fun _=>false)):ms.map (fun m=>setF (fun y=>m.testBit y) 8 0)=ps.map fun p=>setF p n 0:=by
 apply List.ext_getElem
 ·simp [hl]
 ·intro i h1 h2
  simp only [List.getElem_map]
  have h2':i<ps.length:=by simpa using h2
  have h1':i<ms.length:=by simpa using h1
  have:=h i h2'
  rw [List.getD_eq_getElem?_getD,List.getD_eq_getElem?_getD,List.getElem?_eq_getElem h1',List.getElem?_eq_getElem h2'] at this
  exact setF_mask hn this
theorem implUns_lim (d) (r) (h:G_uns d=some r):∃N,F_q28q N d=some r:=by
 obtain ⟨⟨m,es,v⟩,w,_⟩:=d
 unfold G_uns at h
 split at h
 ·rename_i hc
  have h:=Option.some.inj h
  subst h
  obtain ⟨ho,hw⟩:=(Bool.and_eq_true _ _).mp hc
  have ho:okL es=true:=ho
  have hw:okLL w=true:=hw
  refine ⟨60,?_⟩
  unfold F_q28q G_walk unsG
  simp only [ho,hw,Bool.and_self,if_true,Option.bind_some]
  cases hb:walkB (m,es,v) w with
  | false=>simp only [Bool.not_false,if_true,Bool.false_eq_true,if_false]
  | true=>
   obtain ⟨hg,hwk⟩:=walk_wk hb
   obtain ⟨h0,h8⟩:=graphB_n hg
   obtain ⟨n,rfl⟩:=nat_of h0
   have hn:n<=8:=by omega
   obtain ⟨g1,_⟩:=graphB_edges hg
   obtain ⟨n1,n2⟩:=netB_net hn g1
   have hwk:wkB (n:Int) w=true:=hwk
   obtain ⟨k1,k2,k3⟩:=walk_masks hn (v:=v) g1 hwk
   have hu:G_netUns ((toI (netN n es),()),w,())=some (toI (walkM (toI (netN n es)) w),()):=by
    unfold G_netUns
    simp only [n1,n2,hwk,Bool.and_self,if_true]
   have w40:w.length<=40:=by
    unfold wkB at hwk
    simp only [Bool.and_eq_true,decide_eq_true_eq] at hwk
    exact hwk.1.2
   generalize hms:walkM (toI (netN n es)) w=ms at k1 k3 hu
   have hlt:∀i,i<ms.length->ms.getD i 0<256:=fun i hi=>(k3 i (by omega)).1
   have:=loop_map (L:=q28q_l0 60) (r:=q28q_l0_r 60) (fun _ _=>rfl) (n:=ms.length) (mk:=fun i A=>(A,toI ms,((toI ms).length:Int),(i:Int),())) (f:=fun i=>setF (fun y=>(ms.getD i 0).testBit y) 8 0) (o:=fun A=>.inl (A,()))
    (by
     intro back i A hi hA
     unfold q28q_l0_r
     have hi2:i<(toI ms).length:=by rw [toI_len];exact hi
     have hle:decide (A.length+List.length [setF (fun y=>(ms.getD i 0).testBit y) 8 0]<=lim)=true:=by rw [hA];unfold lim;simp;omega
     simp only [lt_dec hi2,if_true,idxIn_nat hi2,Int.toNat_natCast,at_toI,setOf_some (hlt i hi),Option.bind_some,hle,wrap_up hi2 (show (toI ms).length<=maxLen by rw [toI_len];unfold maxLen;omega)])
    (by
     intro back A hA
     unfold q28q_l0_r
     rw [toI_len]
     simp only [lt_not,Bool.false_eq_true,if_false]) 59 (by omega)
   simp only [Int.natCast_zero] at this
   simp only [Bool.not_true,Bool.false_eq_true,if_false,net_some hg ho,Option.bind_some,hu,this,if_true]
   have e:(List.range ms.length).map (fun i=>setF (fun y=>(ms.getD i 0).testBit y) 8 0)=ms.map fun m=>setF (fun y=>m.testBit y) 8 0:=by
    apply List.ext_getElem
    ·simp
    ·intro i h1 h2
     have h3:i<ms.length:=by simpa using h2
     simp only [List.getElem_map,List.getElem_range]
     rw [List.getD_eq_getElem?_getD,List.getElem?_eq_getElem h3]
     rfl
   rw [e,masks_sets hn (by omega) fun i hi=>k3 i (by omega)]
   rfl
 ·cases h
theorem specUns {m:Int} {es:List E} {v u:Unit} {w:List (List Int)} (ho:okL es=true) (hw:okLL w=true):F_q25q 0 ((m,es,v),w,u)=some (unsG (m,es,v) w):=by
 unfold F_q25q G_graph unsG
 simp only [ho,if_true,Option.bind_some]
 cases hg:graphB (m,es,v) with
 | false=>
  have hb:walkB (m,es,v) w=false:=by
   cases hb:walkB (m,es,v) w with
   | false=>rfl
   | true=>rw [(walk_wk hb).1] at hg;cases hg
  simp only [Bool.not_false,if_true,hb,Bool.false_eq_true,if_false]
 | true=>
  unfold G_l11Walk
  simp only [Bool.not_true,Bool.false_eq_true,if_false,ho,hw,hg,Bool.and_self,if_true,Option.bind_some]
  cases hb:walkB (m,es,v) w with
  | false=>simp only [Bool.not_false,if_true,Bool.false_eq_true,if_false]
  | true=>
   have hs:G_l11Sets ((m,es,v),w,())=some (setsL (m,es,v) w,()):=by
    unfold G_l11Sets
    have h1:=(walk_wk hb).2
    simp only [graph_grB hg ho,h1,Bool.and_self,if_true]
   simp only [Bool.not_true,Bool.false_eq_true,if_false,hs,Option.bind_some,if_true]
end Go.V.W
namespace Go.V.W
open Go.Proofs
theorem uns_small {g:Gr} {w:List (List Int)}:(unsG g w).1.length<=40 /\ ∀l∈(unsG g w).1,l.length<=8:=by
 unfold unsG
 split
 ·rename_i hb
  obtain ⟨hg,hwk⟩:=walk_wk hb
  have:w.length<=40/\1<=w.length:=by
   unfold wkB at hwk
   simp only [Bool.and_eq_true,decide_eq_true_eq] at hwk
   exact ⟨hwk.1.2,hwk.1.1⟩
  obtain ⟨m,es,v⟩:=g
  have h8:=(graphB_n hg).2
  refine ⟨?_,fun l hl => ?_⟩
  ·unfold setsL walkP
   simp [unsP_len]
   omega
  ·obtain ⟨p,_,rfl⟩:=List.mem_map.1 hl
   have:=setF_len (p:=p) (k:=m.toNat) (x:=0)
   show (setF p m.toNat 0).length<=8
   omega
 ·exact ⟨by simp,fun l hl=>by simp at hl⟩
end Go.V.W
namespace Go.V.W
open Go.Proofs
theorem back_l4 (N:Nat) (w:List (List Int)) (g:Gr) (out:List (List Int)) (i:Int) (good nx:List Int) (x:Int) (hnx:okL nx=true) (bs:List Int) (hb:bs.length<=100):∀(k j f:Nat) (fd:Bool),j+k=bs.length->k<f ->
  q62q_l4 N f (w,g,out,i,good,nx,x,bs,fd,(j:Int),())=some (.inl (w,g,out,i,good,nx,x,fd||(bs.drop j).any (fun z=>hasL nx z),())):=by
 have hmx:bs.length<=maxLen:=by unfold maxLen;omega
 intro k
 induction k with
 | zero=>
  intro j f fd h1 h2
  obtain ⟨f,rfl⟩:∃m,f=m+1:=⟨f-1,by omega⟩
  have e:j=bs.length:=by omega
  subst e
  rw [List.drop_of_length_le (Nat.le_refl _)]
  simp [q62q_l4,q62q_l4_r]
 | succ k ih=>
  intro j f fd h1 h2
  obtain ⟨f,rfl⟩:∃m,f=m+1:=⟨f-1,by omega⟩
  have hj:j<bs.length:=by omega
  have e:at_ I bs j=bs[j]:=at_get (e:=I) hj
  show q62q_l4_r N (q62q_l4 N f) (w,g,out,i,good,nx,x,bs,fd,(j:Int),())=_
  unfold q62q_l4_r
  rw [List.drop_eq_getElem_cons hj,List.any_cons]
  cases fd with
  | true=>
   simp only [lt_dec hj,if_true,wrap_up hj hmx]
   rw [ih (j+1) f true (by omega) (by omega)]
   simp
  | false=>
   simp only [lt_dec hj,if_true,Bool.false_eq_true,if_false,idxIn_nat hj,Int.toNat_natCast,e,has1 hnx,Option.bind_some,wrap_up hj hmx]
   rw [ih (j+1) f _ (by omega) (by omega)]
   simp
def goodB (n:Nat) (es:List E) (c c2 nx:List Int) (x:Nat):Bool:=(ballL n es (x:Int)).any (fun z=>hasL nx z) && !hasL c (x:Int) && !hasL c2 (x:Int)
theorem back_l2 (N:Nat) (hN:20<=N) (w:List (List Int)) (hw:w.length<=40) (hall:w.all okL=true) (g:Gr) (n:Nat) (hg:g.1=(n:Int)) (hn:n<=8) (ho:okL g.2.1=true) (out:List (List Int)) (i:Nat) (hi:i+1<w.length) (nx:List Int) (hnx:okL nx=true):∀(k x f:Nat) (good:List Int),x+k=n->k<f->good.length+k<=900 ->
  q62q_l2 N f (w,g,out,(i:Int),good,nx,(x:Int),())=some (.inl (w,g,out,(i:Int),good++setF (goodB n g.2.1 (at_ K_Si w i) (at_ K_Si w (i+1)) nx) k x,())):=by
 have hmx:w.length<=maxLen:=by unfold maxLen;omega
 intro k
 induction k with
 | zero=>
  intro x f good h1 h2 h3
  obtain ⟨f,rfl⟩:∃m,f=m+1:=⟨f-1,by omega⟩
  have e:x=n:=by omega
  subst e
  simp [q62q_l2,q62q_l2_r,hg,setF]
 | succ k ih=>
  intro x f good h1 h2 h3
  obtain ⟨f,rfl⟩:∃m,f=m+1:=⟨f-1,by omega⟩
  have hx:x<n:=by omega
  have hbl:=ball_len (n:=n) (es:=g.2.1) (x:=(x:Int))
  have h4:=back_l4 N w g out (i:Int) good nx (x:Int) hnx (ballL n g.2.1 (x:Int)) (by omega) (ballL n g.2.1 (x:Int)).length 0 N false (by omega) (by omega)
  simp only [Int.natCast_zero,List.drop_zero,Bool.false_or] at h4
  have hi1:i<w.length:=by omega
  have k1:=at_ok hall hi1
  have k2:=at_ok hall hi
  have hle:decide (good.length+List.length [(x:Int)]<=lim)=true:=by unfold lim;simp;omega
  show q62q_l2_r N (q62q_l2 N f) (w,g,out,(i:Int),good,nx,(x:Int),())=_
  unfold q62q_l2_r
  simp only [hg,lt_dec hx,if_true,ball_eq g n hg hn ho,Option.bind_some,h4,idxIn_nat hi1,Int.toNat_natCast,has1 k1,has1 k2,wrap_up hi1 hmx,idxIn_nat hi,hle,wrap8 hx hn]
  have hset:setF (goodB n g.2.1 (at_ K_Si w i) (at_ K_Si w (i+1)) nx) (k+1) x=if goodB n g.2.1 (at_ K_Si w i) (at_ K_Si w (i+1)) nx x=true then (x:Int)::setF (goodB n g.2.1 (at_ K_Si w i) (at_ K_Si w (i+1)) nx) k (x+1) else setF (goodB n g.2.1 (at_ K_Si w i) (at_ K_Si w (i+1)) nx) k (x+1):=rfl
  rw [hset]
  have hgood:goodB n g.2.1 (at_ K_Si w i) (at_ K_Si w (i+1)) nx x=((ballL n g.2.1 (x:Int)).any (fun z=>hasL nx z) && !hasL (at_ K_Si w i) (x:Int) && !hasL (at_ K_Si w (i+1)) (x:Int)):=rfl
  rw [hgood]
  cases (ballL n g.2.1 (x:Int)).any (fun z=>hasL nx z) with
  | false=>
   simp only [Bool.false_and,Bool.false_eq_true,if_false]
   exact ih (x+1) f good (by omega) (by omega) (by omega)
  | true=>
   cases hasL (at_ K_Si w i) (x:Int) with
   | true=>
    simp only [Bool.not_true,Bool.and_false,Bool.false_and,Bool.false_eq_true,if_false,if_true]
    exact ih (x+1) f good (by omega) (by omega) (by omega)
   | false=>
    cases hasL (at_ K_Si w (i+1)) (x:Int) with
    | true=>
     simp only [Bool.not_true,Bool.not_false,Bool.and_false,Bool.and_true,Bool.false_eq_true,if_false,if_true]
     exact ih (x+1) f good (by omega) (by omega) (by omega)
    | false=>
     simp only [Bool.not_false,Bool.and_true,if_true]
     rw [ih (x+1) f _ (by omega) (by omega) (by simp;omega),List.append_assoc]
     rfl
theorem any_ball {n:Nat} {es:List E} (q:Nat->Bool) {x:Nat} (hx:x<n):((ballL n es (x:Int)).any fun z=>hasL (setF q n 0) z)=stepP es n q x:=by
 rw [ballL_set hx,any_set2]
 apply bool_eq_iff
 unfold stepP
 rw [List.any_eq_true,Bool.or_eq_true,List.any_eq_true]
 have key:∀y:Nat,y<n->hasL (setF q n 0) (y:Int)=q y:=fun y hy=>any_setF hy
 constructor
 ·rintro ⟨y,hy,h⟩
  have hy':=List.mem_range.1 hy
  rw [Bool.and_eq_true,key y hy',Bool.or_eq_true,decide_eq_true_eq] at h
  rcases h.1 with h1 | h1
  ·exact .inr ⟨y,hy,by rw [h.2,near_symm,h1];rfl⟩
  ·subst h1
   exact .inl h.2
 ·rintro (h | ⟨y,hy,h⟩)
  ·exact ⟨x,List.mem_range.2 hx,by rw [key x hx,h];simp⟩
  ·have hy':=List.mem_range.1 hy
   rw [Bool.and_eq_true,near_symm] at h
   exact ⟨y,hy,by rw [key y hy',h.1,h.2];rfl⟩
theorem backP_len (es:List E) (n:Nat):∀w:List (List Int),(backP es n w).length=w.length:=by
 intro w
 induction w with
 | nil=>rfl
 | cons c w ih=>
  cases w with
  | nil=>rfl
  | cons c2 w=>simp only [backP,List.length_cons,ih]
theorem backP_head (es:List E) (n:Nat) (c:List Int) (w:List (List Int)):∃p ps,backP es n (c::w)=p::ps:=by
 have:=backP_len es n (c::w)
 cases h:backP es n (c::w) with
 | nil=>rw [h] at this;simp at this
 | cons p ps=>exact ⟨p,ps,rfl⟩
theorem back_l0 (N:Nat) (hN:50<=N) (w:List (List Int)) (hw:w.length<=40) (hall:w.all okL=true) (g:Gr) (n:Nat) (hg:g.1=(n:Int)) (hn:n<=8) (ho:okL g.2.1=true):∀(k f:Nat),k+1<=w.length->k<f ->
  q62q_l0 N f (w,g,(backP g.2.1 n (w.drop k)).map (fun p=>setF p n 0),(k:Int)-1,())=some (.inl ((backP g.2.1 n w).map (fun p=>setF p n 0),())):=by
 intro k
 induction k with
 | zero=>
  intro f h1 h2
  obtain ⟨f,rfl⟩:∃m,f=m+1:=⟨f-1,by omega⟩
  have:decide (((0:Nat):Int)-1>=0)=false:=by decide
  simp [q62q_l0,q62q_l0_r]
 | succ k ih=>
  intro f h1 h2
  obtain ⟨f,rfl⟩:∃m,f=m+1:=⟨f-1,by omega⟩
  have hk:k<w.length:=by omega
  have hk1:k+1<w.length:=by omega
  obtain ⟨p,ps,hp⟩:=backP_head g.2.1 n w[k+1] (w.drop (k+2))
  have hd1:w.drop (k+1)=w[k+1]::w.drop (k+2):=List.drop_eq_getElem_cons hk1
  have hd0:w.drop k=w[k]::w[k+1]::w.drop (k+2):=by rw [List.drop_eq_getElem_cons hk,hd1]
  show q62q_l0_r N (q62q_l0 N f) (w,g,_,((k+1:Nat):Int)-1,())=_
  rw [show ((k+1:Nat):Int)-1=(k:Int) by omega,hd1,hp]
  unfold q62q_l0_r
  have hok:okL (setF p n 0)=true:=okL_of (by have:=setF_len (p:=p) (k:=n) (x:=0);omega)
  have e0:at_ K_Si ((p::ps).map fun p=>setF p n 0) 0=setF p n 0:=rfl
  have hl2:=back_l2 N (by omega) w hw hall g n hg hn ho ((p::ps).map fun p=>setF p n 0) k hk1 (setF p n 0) hok n 0 N [] (by omega) (by omega) (by simp;omega)
  simp only [Int.natCast_zero,List.nil_append] at hl2
  have hpl:(p::ps).length=w.length-(k+1):=by
   have:=backP_len g.2.1 n (w.drop (k+1))
   rw [hd1,hp] at this
   rw [this]
   simp
  have hset:setF (goodB n g.2.1 (at_ K_Si w k) (at_ K_Si w (k+1)) (setF p n 0)) n 0=setF (fun x=>stepP g.2.1 n p x && !hasL w[k] (x:Int) && !hasL w[k+1] (x:Int)) n 0:=by
   refine setF_congr fun x _ hx => ?_
   unfold goodB
   rw [any_ball p (by omega),at_get (e:=K_Si) hk,at_get (e:=K_Si) hk1]
   rfl
  have e2:idxIn (0:Int) ((p::ps).map fun p=>setF p n 0).length=true:=idxIn_nat (i:=0) (by simp)
  have hw1:IntKind.wrap .i64 ((k:Int)-1)=(k:Int)-1:=wrap_in _ (by omega) (by omega)
  have hle:decide (List.length [setF (goodB n g.2.1 (at_ K_Si w k) (at_ K_Si w (k+1)) (setF p n 0)) n 0]+((p::ps).map fun p=>setF p n 0).length<=lim)=true:=by rw [List.length_map,hpl];unfold lim;simp;omega
  have e3:decide ((k:Int)>=0)=true:=by simp
  simp only [e3,if_true,e2,Int.toNat_zero,e0,hl2,Option.bind_some,hle,hw1]
  have hnext:([setF (goodB n g.2.1 (at_ K_Si w k) (at_ K_Si w (k+1)) (setF p n 0)) n 0]++(p::ps).map fun p=>setF p n 0)=(backP g.2.1 n (w.drop k)).map fun p=>setF p n 0:=by
   rw [hset,hd0]
   unfold backP
   rw [hp]
   rfl
  rw [hnext]
  exact ih f (by omega) (by omega)
theorem l11Back_lim (d) (r) (h:G_l11Back d=some r):∃N,F_q62q N d=some r:=by
 obtain ⟨⟨m,es,v⟩,w,_⟩:=d
 unfold G_l11Back at h
 split at h
 ·rename_i hc
  obtain ⟨hgr,hwk⟩:=(Bool.and_eq_true _ _).mp hc
  have h:=Option.some.inj h
  subst h
  have hg0:=hgr
  unfold grB at hg0
  simp only [Bool.and_eq_true,decide_eq_true_eq] at hg0
  obtain ⟨⟨⟨ho,h0⟩,h8⟩,hE⟩:=hg0
  obtain ⟨n,rfl⟩:=nat_of h0
  have hn:n<=8:=by omega
  unfold wkB at hwk
  simp only [Bool.and_eq_true,decide_eq_true_eq] at hwk
  obtain ⟨⟨w1,w40⟩,wn⟩:=hwk
  have w1:1<=w.length:=w1
  have w40:w.length<=40:=w40
  have hall:w.all okL=true:=List.all_eq_true.2 fun c hc=>nodes_ok (List.all_eq_true.1 wn c hc)
  have hlast:w.length-1<w.length:=by omega
  have hd:w.drop (w.length-1)=[w[w.length-1]]:=by
   rw [List.drop_eq_getElem_cons hlast,show w.length-1+1=w.length by omega,List.drop_of_length_le (Nat.le_refl _)]
  refine ⟨60,?_⟩
  unfold F_q62q
  have e1:IntKind.wrap .i64 ((w.length:Int)-1)=((w.length-1:Nat):Int):=by rw [wrap_in _ (by omega) (by omega)];omega
  have e2:IntKind.wrap .i64 ((w.length:Int)-2)=((w.length-1:Nat):Int)-1:=by rw [wrap_in _ (by omega) (by omega)];omega
  have k1:=at_ok hall hlast
  have e4:=back_l0 60 (by omega) w w40 hall ((n:Int),es,v) n rfl hn ho (w.length-1) 60 (by omega) (by omega)
  rw [hd] at e4
  have e5:(backP es n [w[w.length-1]]).map (fun p=>setF p n 0)=[restL (at_ K_Si w (w.length-1)) (setF (fun _=>true) n 0)]:=by
   rw [rest_set,at_get (e:=K_Si) hlast]
   show [setF (freeP w[w.length-1]) n 0]=_
   congr 1
  rw [e5] at e4
  simp only [all_some hn,Option.bind_some,e1,idxIn_nat hlast,if_true,Int.toNat_natCast,rest_some (okL_of (show (setF (fun _=>true) n 0).length<=1048576 by have:=setF_len (p:=fun _=>true) (k:=n) (x:=0);omega)) k1,e2,e4]
 ·cases h
end Go.V.W
namespace Go.V.W
open Go.Proofs
theorem filt_set (q p:Nat->Bool) (n:Nat):(setF q n 0).filter (fun z=>hasL (setF p n 0) z)=setF (fun y=>q y&&p y) n 0:=by
 rw [filter_setF]
 refine setF_congr fun y _ hy => ?_
 congr 1
 exact any_setF (by omega)
theorem eo_l2 (N:Nat) (w:List (List Int)) (g:Gr) (A:List Int) (goods:List (List Int)) (i:Nat) (hi:i<goods.length) (hok:okL (at_ K_Si goods i)=true) (ch:List Int) (hc:ch.length<=1000):∀(k j f:Nat),j+k=ch.length->k<f ->
  ∃e,j<=e/\e<=ch.length/\q54q_l2 N f (w,g,A,goods,(i:Int),ch,(j:Int),())=some (.inl (w,g,A,goods,(i:Int),ch,(e:Int),())) /\
   ((ch.drop j).filter (fun z=>hasL (at_ K_Si goods i) z)).head? = ch[e]?:=by
 have hmx:ch.length<=maxLen:=by unfold maxLen;omega
 intro k
 induction k with
 | zero=>
  intro j f h1 h2
  obtain ⟨f,rfl⟩:∃m,f=m+1:=⟨f-1,by omega⟩
  have e:j=ch.length:=by omega
  subst e
  refine ⟨ch.length,Nat.le_refl _,Nat.le_refl _,?_,?_⟩
  ·simp [q54q_l2,q54q_l2_r]
  ·rw [List.drop_of_length_le (Nat.le_refl _)]
   simp
 | succ k ih=>
  intro j f h1 h2
  obtain ⟨f,rfl⟩:∃m,f=m+1:=⟨f-1,by omega⟩
  have hj:j<ch.length:=by omega
  have e:at_ I ch j=ch[j]:=at_get (e:=I) hj
  have hrun:q54q_l2 N (f+1) (w,g,A,goods,(i:Int),ch,(j:Int),())=if (!hasL (at_ K_Si goods i) ch[j])=true then q54q_l2 N f (w,g,A,goods,(i:Int),ch,((j+1:Nat):Int),()) else some (.inl (w,g,A,goods,(i:Int),ch,(j:Int),())):=by
   show q54q_l2_r N (q54q_l2 N f) (w,g,A,goods,(i:Int),ch,(j:Int),())=_
   unfold q54q_l2_r
   simp only [lt_dec hj,if_true,idxIn_nat hi,idxIn_nat hj,Int.toNat_natCast,e,has1 hok,Option.bind_some,wrap_up hj hmx]
  rw [hrun,List.drop_eq_getElem_cons hj,List.filter_cons]
  cases hh:hasL (at_ K_Si goods i) ch[j] with
  | true=>
   refine ⟨j,Nat.le_refl _,by omega,by simp,?_⟩
   simp [hj]
  | false=>
   obtain ⟨e',a1,a2,a3,a4⟩:=ih (j+1) f (by omega) (by omega)
   refine ⟨e',by omega,a2,?_,?_⟩
   ·simpa using a3
   ·simpa using a4
def eoOut (A:List Int) (o:Option (List Int)):q54q_l0_O:=match o with
 | none=>.inl ([],false,())
 | some r=>.inr (.inl (A++r,()))
theorem escL_node {es:List E} {n:Nat} {q:Nat->Bool} {p:Nat->Bool} {x:Int} {tl:List Int} (h:setF (fun y=>q y&&p y) n 0=x::tl):∃y:Nat,y<n/\x=(y:Int):=setF_nat x (by rw [h];simp)
theorem eo_l0 (N:Nat) (hN:20<=N) (w:List (List Int)) (hw:w.length<=40) (g:Gr) (n:Nat) (hg:g.1=(n:Int)) (hn:n<=8) (ho:okL g.2.1=true) (ps:List (Nat->Bool)) (hps:ps.length=w.length):∀(rest:List (Nat->Bool)) (i f:Nat) (A:List Int) (q:Nat->Bool),i+rest.length=w.length->ps.drop i=rest->rest.length<f->A.length=i ->
  (i=0/\q=(fun _=>true) \/ ∃x:Nat,x<n/\0<i/\A.getD (i-1) 0=(x:Int)/\q=fun y:Nat=>nearI g.2.1 (x:Int) (y:Int)||decide ((y:Int)=(x:Int))) ->
   q54q_l0 N f (w,g,A,ps.map (fun p=>setF p n 0),(i:Int),())=some (eoOut A (escL g.2.1 n q rest)):=by
 have hmx:w.length<=maxLen:=by unfold maxLen;omega
 intro rest
 induction rest with
 | nil=>
  intro i f A q h1 h2 h3 h4 h5
  obtain ⟨f,rfl⟩:∃m,f=m+1:=⟨f-1,by omega⟩
  have e:i=w.length:=by simpa using h1
  subst e
  simp [q54q_l0,q54q_l0_r,escL,eoOut]
 | cons p rest ih=>
  intro i f A q h1 h2 h3 h4 h5
  obtain ⟨f,rfl⟩:∃m,f=m+1:=⟨f-1,by omega⟩
  have hi:i<w.length:=by simp at h1;omega
  have hip:i<ps.length:=by omega
  have hd:=List.drop_eq_getElem_cons hip
  rw [h2] at hd
  injection hd with hd1 hd2
  have hgl:i<(ps.map fun p=>setF p n 0).length:=by simp;omega
  have hgi:at_ K_Si (ps.map fun p=>setF p n 0) i=setF p n 0:=by rw [at_get (e:=K_Si) hgl];simp [<- hd1]
  have hgok:okL (at_ K_Si (ps.map fun p=>setF p n 0) i)=true:=by rw [hgi];exact okL_of (by have:=setF_len (p:=p) (k:=n) (x:=0);omega)
  -- what follows a choice
  have fin:∀ch:List Int,ch.length<=1000->ch.filter (fun z=>hasL (setF p n 0) z)=setF (fun y=>q y&&p y) n 0 ->
    ((q54q_l2 N N (w,g,A,ps.map (fun p=>setF p n 0),(i:Int),ch,(0:Int),())).bind fun o23=>match o23 with
   | .inl d24=>
    if (d24.2.2.2.2.2.2.1==(List.length d24.2.2.2.2.2.1:Int))=true then
     some (.inl ((([]:List Int),(false,()))))
    else
     if (idxIn d24.2.2.2.2.2.2.1 (List.length d24.2.2.2.2.2.1))=true then
     if (decide (List.length d24.2.2.1+List.length ([at_ I d24.2.2.2.2.2.1 d24.2.2.2.2.2.2.1.toNat])<=lim))=true then
     q54q_l0 N f ((d24.1,(d24.2.1,(d24.2.2.1++([at_ I d24.2.2.2.2.2.1 d24.2.2.2.2.2.2.1.toNat]),(d24.2.2.2.1,(IntKind.wrap .i64 (d24.2.2.2.2.1+(1:Int)),()))))))
     else none
     else none)=some (eoOut A (escL g.2.1 n q (p::rest)))\/N<ch.length+1:=by
   intro ch hch hfil
   by_cases hNc:N<ch.length+1
   ·exact .inr hNc
   refine .inl ?_
   obtain ⟨e,a1,a2,a3,a4⟩:=eo_l2 N w g A (ps.map fun p=>setF p n 0) i hgl hgok ch hch ch.length 0 N (by omega) (by omega)
   simp only [Int.natCast_zero,List.drop_zero] at a3 a4
   rw [hgi,hfil] at a4
   simp only [a3,Option.bind_some]
   unfold escL
   cases hs:setF (fun y=>q y&&p y) n 0 with
   | nil=>
    rw [hs] at a4
    have he:e=ch.length:=by
     rcases Nat.lt_or_eq_of_le a2 with h | h
     ·rw [List.getElem?_eq_getElem h] at a4;cases a4
     ·exact h
    have e2:((e:Int)==(ch.length:Int))=true:=by rw [he];exact beq_self_eq_true _
    simp only [e2,if_true,eoOut]
   | cons x tl=>
    rw [hs] at a4
    have he:e<ch.length:=by
     rcases Nat.lt_or_eq_of_le a2 with h | h
     ·exact h
     ·rw [h,List.getElem?_eq_none (Nat.le_refl _)] at a4;cases a4
    have hx:at_ I ch e=x:=by
     rw [at_get (e:=I) he]
     rw [List.getElem?_eq_getElem he] at a4
     exact (Option.some.inj a4).symm
    obtain ⟨y,hy,rfl⟩:=escL_node (es:=g.2.1) hs
    have e2:((e:Int)==(ch.length:Int))=false:=beq_eq_false_iff_ne.2 (by omega)
    have hle:decide (A.length+List.length [(y:Int)]<=lim)=true:=by unfold lim;simp;omega
    simp only [e2,Bool.false_eq_true,if_false,idxIn_nat he,if_true,Int.toNat_natCast,hx,hle,wrap_up hi hmx]
    rw [ih (i+1) f (A++[(y:Int)]) (fun z:Nat=>nearI g.2.1 (y:Int) (z:Int)||decide ((z:Int)=(y:Int))) (by simp at h1;omega) hd2.symm (by simp at h3;omega) (by simp [h4]) (.inr ⟨y,hy,by omega,by rw [List.getD_eq_getElem?_getD,<- h4];simp,rfl⟩)]
    cases escL g.2.1 n (fun z:Nat=>nearI g.2.1 (y:Int) (z:Int)||decide ((z:Int)=(y:Int))) rest<;>simp [eoOut]
  show q54q_l0_r N (q54q_l0 N f) (w,g,A,ps.map (fun p=>setF p n 0),(i:Int),())=_
  unfold q54q_l0_r
  simp only [lt_dec hi,if_true,idxIn_nat hgl,Int.toNat_natCast]
  rcases h5 with ⟨rfl,rfl⟩ | ⟨x,hx,h0,hA,rfl⟩
  ·have hz:decide (((0:Nat):Int)>(0:Int))=false:=by decide
   simp only [hz,Bool.false_eq_true,if_false]
   have hlen:=setF_len (p:=p) (k:=n) (x:=0)
   have:=fin (at_ K_Si (ps.map fun p=>setF p n 0) 0) (by rw [hgi];omega) (by rw [hgi,filt_set];exact setF_congr fun y _ _=>by simp)
   rcases this with this | this
   ·exact this
   ·rw [hgi] at this
    omega
  ·have hz:decide ((i:Int)>(0:Int))=true:=by simp;omega
   have hi2:i-1<A.length:=by omega
   have hAx:at_ I A (i-1)=(x:Int):=hA
   simp only [hz,if_true,wrap_down h0 (show i<=maxLen by omega),idxIn_nat hi2,Int.toNat_natCast,hAx,ball_eq g n hg hn ho,Option.bind_some]
   have hlen:=ball_len (n:=n) (es:=g.2.1) (x:=(x:Int))
   have:=fin (ballL n g.2.1 (x:Int)) (by omega) (by
    rw [ballL_set hx,filt_set]
    refine setF_congr fun y _ _ => ?_
    congr 2
    apply bool_eq_iff
    rw [decide_eq_true_eq,decide_eq_true_eq]
    omega)
   rcases this with this | this
   ·exact this
   ·omega
theorem specEO_lim (d) (r) (h:G_escapeOf d=some r):∃N,F_q54q N d=some r:=by
 obtain ⟨⟨m,es,v⟩,w,_⟩:=d
 unfold G_escapeOf at h
 split at h
 ·rename_i hc
  have h:=Option.some.inj h
  subst h
  obtain ⟨ho,hw⟩:=(Bool.and_eq_true _ _).mp hc
  have ho:okL es=true:=ho
  have hw:okLL w=true:=hw
  refine ⟨60,?_⟩
  unfold F_q54q G_graph escO
  simp only [ho,if_true,Option.bind_some]
  cases hg:graphB (m,es,v) with
  | false=>
   have hb:walkB (m,es,v) w=false:=by
    cases hb:walkB (m,es,v) w with
    | false=>rfl
    | true=>rw [(walk_wk hb).1] at hg;cases hg
   simp only [Bool.not_false,if_true,hb,Bool.false_eq_true,if_false]
  | true=>
   unfold G_l11Walk
   simp only [Bool.not_true,Bool.false_eq_true,if_false,ho,hw,hg,Bool.and_self,if_true,Option.bind_some]
   cases hb:walkB (m,es,v) w with
   | false=>simp only [Bool.not_false,if_true,Bool.false_eq_true,if_false]
   | true=>
    have hwk:=(walk_wk hb).2
    obtain ⟨h0,h8⟩:=graphB_n hg
    obtain ⟨n,rfl⟩:=nat_of h0
    have hn:n<=8:=by omega
    have hs:G_l11Back (((n:Int),es,v),w,())=some ((backP es n w).map (fun p=>setF p n 0),()):=by
     unfold G_l11Back
     simp only [graph_grB hg ho,hwk,Bool.and_self,if_true,Int.toNat_natCast]
    have w40:w.length<=40:=by
     unfold wkB at hwk
     simp only [Bool.and_eq_true,decide_eq_true_eq] at hwk
     exact hwk.1.2
    have hl:=backP_len es n w
    have:=eo_l0 60 (by omega) w w40 ((n:Int),es,v) n rfl hn ho (backP es n w) hl (backP es n w) 0 60 [] (fun _=>true) (by omega) rfl (by omega) rfl (.inl ⟨rfl,rfl⟩)
    simp only [Int.natCast_zero] at this
    simp only [Bool.not_true,Bool.false_eq_true,if_false,hs,Option.bind_some,this,if_true,Int.toNat_natCast]
    cases escL es n (fun _=>true) (backP es n w)<;>rfl
 ·cases h
end Go.V.W
namespace Go.V.W
open Go.Proofs
theorem backM_len (l:List Int):∀w:List (List Int),(backM l w).length=w.length:=by
 intro w
 induction w with
 | nil=>rfl
 | cons c w ih=>
  cases w with
  | nil=>rfl
  | cons c2 w=>simp only [backM,List.length_cons,ih]
theorem backM_head (l:List Int) (c:List Int) (w:List (List Int)):∃p ps,backM l (c::w)=p::ps:=by
 have:=backM_len l (c::w)
 cases h:backM l (c::w) with
 | nil=>rw [h] at this;simp at this
 | cons p ps=>exact ⟨p,ps,rfl⟩
theorem arN_lt2 {l:List Int} (h:netB l=true) {s:Nat} (hs:s<2 ^ l.length):arN (fromI l) s l.length 0 s<2 ^ l.length:=by
 obtain ⟨_,h2,h8,h4⟩:=netB_parts h
 have h256:(2:Nat) ^ l.length<=256:=Nat.pow_le_pow_right (by omega) h8
 obtain ⟨_,k⟩:=arN_bit h2 s l.length 0 s (by omega)
 refine Nat.lt_pow_two_of_testBit _ fun i hi => ?_
 rw [k i,Nat.testBit_lt_two_pow (Nat.lt_of_lt_of_le hs (Nat.pow_le_pow_right (by omega) hi)),Bool.false_or,List.any_eq_false]
 intro u hu
 have hu':=List.mem_range'_1.1 hu
 have:=h4 u (by omega)
 rw [Nat.testBit_lt_two_pow (Nat.lt_of_lt_of_le this (Nat.pow_le_pow_right (by omega) hi))]
 simp
theorem andN_le (a b:Nat):andN a b<=a:=Nat.and_le_left
theorem backM_lt {l:List Int} (h:netB l=true):∀w:List (List Int),∀g∈backM l w,g<2 ^ l.length:=by
 intro w
 induction w with
 | nil=>intro g hg;simp [backM] at hg
 | cons c w ih=>
  cases w with
  | nil=>
   intro g hg
   simp only [backM,List.mem_singleton] at hg
   subst hg
   have:=andN_le (2 ^ l.length-1) (maskN c)
   have:=Nat.two_pow_pos l.length
   omega
  | cons c2 w=>
   intro g hg
   obtain ⟨p,ps,hp⟩:=backM_head l c2 w
   simp only [backM,List.mem_cons] at hg
   rcases hg with rfl | hg
   ·rw [hp,List.headD_cons]
    have h1:=ih p (by rw [hp];simp)
    have h2:=arN_lt2 h h1
    have h3:=andN_le (andN (arN (fromI l) p l.length 0 p) (maskN c)) (maskN c2)
    have h4:=andN_le (arN (fromI l) p l.length 0 p) (maskN c)
    omega
   ·exact ih g hg
theorem ne_l0 (N:Nat) {l:List Int} (h:netB l=true) (u:Unit) (w:List (List Int)) (hw:w.length<=40) (hc:w.all (nodesB (l.length:Int))=true):∀(k f:Nat),k+1<=w.length->k<f ->
  q40q_l0 N f (w,(l,u),List.replicate k 0++toI (backM l (w.drop k)),(k:Int)-1,())=some (.inl (w,(l,u),toI (backM l w),())):=by
 obtain ⟨_,_,h8,_⟩:=netB_parts h
 have hmx:w.length<=maxLen:=by unfold maxLen;omega
 intro k
 induction k with
 | zero=>
  intro f h1 h2
  obtain ⟨f,rfl⟩:∃m,f=m+1:=⟨f-1,by omega⟩
  simp [q40q_l0,q40q_l0_r]
 | succ k ih=>
  intro f h1 h2
  obtain ⟨f,rfl⟩:∃m,f=m+1:=⟨f-1,by omega⟩
  have hk:k<w.length:=by omega
  have hk1:k+1<w.length:=by omega
  obtain ⟨p,ps,hp⟩:=backM_head l w[k+1] (w.drop (k+2))
  have hd1:w.drop (k+1)=w[k+1]::w.drop (k+2):=List.drop_eq_getElem_cons hk1
  have hd0:w.drop k=w[k]::w[k+1]::w.drop (k+2):=by rw [List.drop_eq_getElem_cons hk,hd1]
  have hpl:ps.length+1=w.length-(k+1):=by
   have:=backM_len l (w.drop (k+1))
   rw [hd1,hp] at this
   simp at this
   omega
  have hpm:=backM_lt h (w.drop (k+1)) p (by rw [hd1,hp];simp)
  have h256:(2:Nat) ^ l.length<=256:=Nat.pow_le_pow_right (by omega) h8
  have hp256:p<256:=by omega
  have n1:nodesB (l.length:Int) w[k]=true:=List.all_eq_true.1 hc _ (List.getElem_mem hk)
  have n2:nodesB (l.length:Int) w[k+1]=true:=List.all_eq_true.1 hc _ (List.getElem_mem hk1)
  have a1:=arN_lt h hp256
  have a2:=andN_lt (b:=maskN w[k]) a1
  show q40q_l0_r N (q40q_l0 N f) (w,(l,u),_,((k+1:Nat):Int)-1,())=_
  rw [show ((k+1:Nat):Int)-1=(k:Int) by omega,hd1,hp]
  unfold q40q_l0_r
  have hlen:(List.replicate (k+1) (0:Int)++toI (p::ps)).length=w.length:=by simp [toI];omega
  have e0:at_ I (List.replicate (k+1) (0:Int)++toI (p::ps)) (k+1)=(p:Int):=by
   rw [at_get (e:=I) (show k+1<(List.replicate (k+1) (0:Int)++toI (p::ps)).length by omega)]
   simp [toI,List.getElem_append_right]
  have e3:decide ((k:Int)>=0)=true:=by simp
  have hw1:IntKind.wrap .i64 ((k:Int)-1)=(k:Int)-1:=wrap_in _ (by omega) (by omega)
  have hi1:k+1<(List.replicate (k+1) (0:Int)++toI (p::ps)).length:=by omega
  have hi0:k<(List.replicate (k+1) (0:Int)++toI (p::ps)).length:=by omega
  simp only [e3,if_true,wrap_up hk hmx,idxIn_nat hi1,Int.toNat_natCast,e0,around_some h _ _ hp256,Option.bind_some,idxIn_nat hk,at_get (e:=K_Si) hk,List.get_eq_getElem,mask_some h8 n1,idxIn_nat hk1,at_get (e:=K_Si) hk1,mask_some h8 n2,idxIn_nat hi0,hw1,bits_andNot a1 (mask_lt h8 n1)]
  rw [show (arN (fromI l) p l.length 0 p&&&(255^^^maskN w[k]))=andN (arN (fromI l) p l.length 0 p) (maskN w[k]) from rfl,bits_andNot a2 (mask_lt h8 n2)]
  have hset:List.set (List.replicate (k+1) (0:Int)++toI (p::ps)) k (((andN (arN (fromI l) p l.length 0 p) (maskN w[k])&&&(255^^^maskN w[k+1])):Nat):Int)=List.replicate k 0++toI (backM l (w.drop k)):=by
   rw [hd0]
   unfold backM
   rw [hp,List.headD_cons,List.replicate_succ',List.append_assoc,List.set_append_right _ _ (by simp)]
   simp [toI,andN]
  rw [hset]
  exact ih f (by omega) (by omega)
def neOut (A:List Int) (o:Option (List Int)):q40q_l2_O:=match o with
 | none=>.inl ([],false,())
 | some r=>.inr (.inl (A++r,()))
theorem and_lt {a b:Nat} (hb:b<256):a&&&b<256:=Nat.lt_of_le_of_lt Nat.and_le_right hb
theorem ne_l2 (N:Nat) {l:List Int} (h:netB l=true) (u:Unit) (gs:List Nat) (hg:∀g∈gs,g<2 ^ l.length) (hgl:gs.length<=40):∀(rest:List Nat) (i f:Nat) (A:List Int) (m:Nat),i+rest.length=gs.length->gs.drop i=rest->rest.length<f->A.length=i->m<256 ->
  q40q_l2 N f ((l,u),toI gs,A,(m:Int),(gs.length:Int),(i:Int),())=some (neOut A (escM l m rest)):=by
 obtain ⟨_,_,h8,_⟩:=netB_parts h
 have h256:(2:Nat) ^ l.length<=256:=Nat.pow_le_pow_right (by omega) h8
 have hmx:gs.length<=maxLen:=by unfold maxLen;omega
 intro rest
 induction rest with
 | nil=>
  intro i f A m h1 h2 h3 h4 h5
  obtain ⟨f,rfl⟩:∃m,f=m+1:=⟨f-1,by omega⟩
  have e:i=gs.length:=by simpa using h1
  subst e
  simp [q40q_l2,q40q_l2_r,escM,neOut]
 | cons g rest ih=>
  intro i f A m h1 h2 h3 h4 h5
  obtain ⟨f,rfl⟩:∃m,f=m+1:=⟨f-1,by omega⟩
  have hi:i<gs.length:=by simp at h1;omega
  have hd:=List.drop_eq_getElem_cons hi
  rw [h2] at hd
  injection hd with hd1 hd2
  have hgm:g<2 ^ l.length:=by rw [hd1];exact hg _ (List.getElem_mem hi)
  have hit:i<(toI gs).length:=by rw [toI_len];exact hi
  have hgi:at_ I (toI gs) i=(g:Int):=by rw [at_toI,List.getD_eq_getElem?_getD,List.getElem?_eq_getElem hi,<- hd1];rfl
  have hmg:=and_lt (a:=m) (show g<256 by omega)
  show q40q_l2_r N (q40q_l2 N f) ((l,u),toI gs,A,(m:Int),(gs.length:Int),(i:Int),())=_
  unfold q40q_l2_r
  simp only [lt_dec hi,if_true,idxIn_nat hit,Int.toNat_natCast,hgi,bits_and h5 (show g<256 by omega),setOf_some hmg,Option.bind_some]
  unfold escM
  cases hs:setF (fun y=>(m&&&g).testBit y) 8 0 with
  | nil=>simp [neOut]
  | cons x tl=>
   obtain ⟨y,_,hy8,hyb,rfl⟩:=setF_mem.1 (show x∈setF (fun y=>(m&&&g).testBit y) 8 0 by rw [hs];simp)
   have hyl:y<l.length:=by
    apply Classical.byContradiction
    intro hc
    rw [Nat.testBit_and,Nat.testBit_lt_two_pow (x:=g) (Nat.lt_of_lt_of_le hgm (Nat.pow_le_pow_right (by omega) (by omega)))] at hyb
    simp at hyb
   have e0:((((y:Int)::tl).length:Int)==(0:Int))=false:=beq_eq_false_iff_ne.2 (by simp;omega)
   have e1:idxIn (0:Int) ((y:Int)::tl).length=true:=idxIn_nat (i:=0) (by simp)
   have e2:at_ I ((y:Int)::tl) 0=(y:Int):=rfl
   have hle:decide (A.length+List.length [(y:Int)]<=lim)=true:=by unfold lim;simp;omega
   obtain ⟨c1,_⟩:=maskM h hyl
   simp only [e0,Bool.false_eq_true,if_false,e1,if_true,Int.toNat_zero,e2,hle,closedM h u hyl,Option.bind_some,wrap_up hi hmx]
   rw [show ((fromI l).getD y 0|||2 ^ y)=closeN l y from rfl,ih (i+1) f (A++[(y:Int)]) (closeN l y) (by simp at h1;omega) hd2.symm (by simp at h3;omega) (by simp [h4]) c1,Int.toNat_natCast]
   cases escM l (closeN l y) rest<;>simp [neOut]
theorem netEsc_lim (d) (r) (h:G_netEsc d=some r):∃N,F_q40q N d=some r:=by
 obtain ⟨⟨l,u⟩,w,_⟩:=d
 unfold G_netEsc at h
 split at h
 ·rename_i hc
  obtain ⟨hnet,hwk⟩:=(Bool.and_eq_true _ _).mp hc
  have h:=Option.some.inj h
  subst h
  have hnet:netB l=true:=hnet
  have hwk:wkB (l.length:Int) w=true:=hwk
  obtain ⟨_,_,h8,_⟩:=netB_parts hnet
  unfold wkB at hwk
  simp only [Bool.and_eq_true,decide_eq_true_eq] at hwk
  obtain ⟨⟨w1,w40⟩,wn⟩:=hwk
  have hm0:2 ^ l.length-1<256:=by have:=(all_mask h8).2;omega
  have h256:(2:Nat) ^ l.length<=256:=Nat.pow_le_pow_right (by omega) h8
  have hlast:w.length-1<w.length:=by omega
  have hd:w.drop (w.length-1)=[w[w.length-1]]:=by
   rw [List.drop_eq_getElem_cons hlast,show w.length-1+1=w.length by omega,List.drop_of_length_le (Nat.le_refl _)]
  have n1:nodesB (l.length:Int) w[w.length-1]=true:=List.all_eq_true.1 wn _ (List.getElem_mem hlast)
  refine ⟨60,?_⟩
  unfold F_q40q
  have e0:(decide (0<=(w.length:Int))&&decide ((w.length:Int)<=(w.length:Int))&&decide ((w.length:Int)<=(lim:Int)))=true:=by unfold lim;simp;omega
  have e1:IntKind.wrap .i64 ((w.length:Int)-1)=((w.length-1:Nat):Int):=by rw [wrap_in _ (by omega) (by omega)];omega
  have e2:IntKind.wrap .i64 ((w.length:Int)-2)=((w.length-1:Nat):Int)-1:=by rw [wrap_in _ (by omega) (by omega)];omega
  have e3:=ne_l0 60 hnet u w w40 wn (w.length-1) 60 (by omega) (by omega)
  rw [hd] at e3
  have e4:List.set (List.replicate w.length (0:Int)) (w.length-1) (((2 ^ l.length-1)&&&(255^^^maskN w[w.length-1]):Nat):Int)=List.replicate (w.length-1) 0++toI (backM l [w[w.length-1]]):=by
   obtain ⟨k,hk⟩:∃k,w.length=k+1:=⟨w.length-1,by omega⟩
   simp only [hk,Nat.add_sub_cancel]
   rw [List.replicate_succ',List.set_append_right _ _ (by simp)]
   simp [toI,backM,andN]
  have e5:w.length-1<(List.replicate w.length (0:Int)).length:=by simp;omega
  have hl:=backM_len l w
  have hlt:=backM_lt hnet w
  have hh:(backM l w).headD 0<256:=by
   cases hb:backM l w with
   | nil=>simp
   | cons p ps=>
    have:=hlt p (by rw [hb];simp)
    simp only [List.headD_cons]
    omega
  have e6:=ne_l2 60 hnet u (backM l w) hlt (by omega) (backM l w) 0 60 [] ((backM l w).headD 0) (by omega) rfl (by omega) rfl hh
  simp only [Int.natCast_zero,hl] at e6
  have e7:idxIn (0:Int) (toI (backM l w)).length=true:=idxIn_nat (i:=0) (by rw [toI_len];omega)
  have e8:at_ I (toI (backM l w)) 0=(((backM l w).headD 0:Nat):Int):=by
   rw [at_toI]
   cases backM l w<;>rfl
  simp only [e0,if_true,Int.toNat_natCast,e1,all_mask2 h8,Option.bind_some,idxIn_nat hlast,at_get (e:=K_Si) hlast,List.get_eq_getElem,mask_some h8 n1,idxIn_nat e5,bits_andNot hm0 (mask_lt h8 n1),e4,e2,e3,e7,Int.toNat_zero,e8,e6]
  cases escM l ((backM l w).headD 0) (backM l w)<;>rfl
 ·cases h
end Go.V.W
namespace Go.V.W
open Go.Proofs
theorem back_masks {n:Nat} (hn:n<=8) {es:List E} (h:es.all (edgeB (n:Int))=true):∀w:List (List Int),w.all (nodesB (n:Int))=true ->
  ∀i,i<w.length->isM n ((backM (toI (netN n es)) w).getD i 0) ((backP es n w).getD i fun _=>false):=by
 intro w
 induction w with
 | nil=>intro _ i hi;simp at hi
 | cons c w ih=>
  intro hc
  rw [List.all_cons,Bool.and_eq_true] at hc
  have hlen:(toI (netN n es)).length=n:=by rw [toI_len,(netN_ok hn h).1]
  cases w with
  | nil=>
   intro i hi
   have e:i=0:=by simpa using hi
   subst e
   have:=isM_andN (full_isM hn) (maskN_isM hn (nodes7 hn hc.1).2)
   simp only [backM,backP,hlen,List.getD_cons_zero]
   exact isM_congr (fun y _=>by simp [freeP]) this
  | cons c2 w=>
   have ih:=ih hc.2
   have hc2:=hc.2
   rw [List.all_cons,Bool.and_eq_true] at hc2
   intro i hi
   cases i with
   | zero=>
    have h0:=ih 0 (by simp)
    have e1:(backM (toI (netN n es)) (c2::w)).getD 0 0=(backM (toI (netN n es)) (c2::w)).headD 0:=by cases backM (toI (netN n es)) (c2::w)<;>rfl
    have e2:((backP es n (c2::w)).getD 0 fun _=>false)=(backP es n (c2::w)).headD fun _=>false:=by cases backP es n (c2::w)<;>rfl
    rw [e1,e2] at h0
    have h1:=around_isM hn h h0
    have h2:=isM_andN (isM_andN h1 (maskN_isM hn (nodes7 hn hc.1).2)) (maskN_isM hn (nodes7 hn hc2.1).2)
    simp only [backM,backP,List.getD_cons_zero,toI_from,hlen]
    exact h2
   | succ i=>
    have:=ih i (by simp at hi |-;omega)
    simpa [backM,backP] using this
theorem close_isM {n:Nat} (hn:n<=8) {es:List E} (h:es.all (edgeB (n:Int))=true) {x:Nat} (hx:x<n):isM n (closeN (toI (netN n es)) x) (fun y=>nearI es (x:Int) (y:Int)||decide ((y:Int)=(x:Int))):=by
 obtain ⟨n1,n2⟩:=netB_net hn h
 obtain ⟨c1,c2⟩:=maskM n1 (x:=x) (by omega)
 unfold closeN
 refine ⟨c1,fun y => ?_⟩
 rw [Nat.testBit_or,toI_from,Nat.testBit_two_pow]
 have h1:((netN n es).getD x 0).testBit y=nearI es (x:Int) (y:Int):=hasN_near hn h x y
 rw [h1]
 by_cases hy:y<n
 ·simp only [hy,decide_true,Bool.true_and]
  congr 1
  apply bool_eq_iff
  rw [decide_eq_true_eq,decide_eq_true_eq]
  omega
 ·have h2:nearI es (x:Int) (y:Int)=false:=by
   cases hh:nearI es (x:Int) (y:Int) with
   | false=>rfl
   | true=>exact absurd (near_lt h hh) hy
  have h3:¬x=y:=by omega
  simp [hy,h2,h3]
theorem esc_masks {n:Nat} (hn:n<=8) {es:List E} (h:es.all (edgeB (n:Int))=true):∀(gs:List Nat) (ps:List (Nat->Bool)) (m:Nat) (q:Nat->Bool),gs.length=ps.length->(∀i,i<ps.length->isM n (gs.getD i 0) (ps.getD i fun _=>false)) ->
  (∀g p gs' ps',gs=g::gs'->ps=p::ps'->isM n (m&&&g) (fun y=>q y&&p y))->escM (toI (netN n es)) m gs=escL es n q ps:=by
 intro gs
 induction gs with
 | nil=>
  intro ps m q hl _ _
  cases ps with
  | nil=>rfl
  | cons p ps=>simp at hl
 | cons g gs ih=>
  intro ps m q hl hM hm
  cases ps with
  | nil=>simp at hl
  | cons p ps=>
   unfold escM escL
   rw [setF_mask hn (hm g p gs ps rfl rfl)]
   cases hs:setF (fun y=>q y&&p y) n 0 with
   | nil=>rfl
   | cons x tl=>
    obtain ⟨y,hy,rfl⟩:=setF_nat x (by rw [hs];simp)
    simp only [Int.toNat_natCast]
    have hM':∀i,i<ps.length->isM n (gs.getD i 0) (ps.getD i fun _=>false):=fun i hi=>by
     have:=hM (i+1) (by simp;omega)
     simpa using this
    rw [ih ps _ (fun z=>nearI es (y:Int) (z:Int)||decide ((z:Int)=(y:Int))) (by simpa using hl) hM' fun g' p' gs' ps' e1 e2 => ?_]
    subst e1 e2
    have:=hM' 0 (by simp)
    exact isM_and (close_isM hn h hy) (by simpa using this)
theorem implEO {m:Int} {es:List E} {v u:Unit} {w:List (List Int)} (ho:okL es=true) (hw:okLL w=true):F_q49q 0 ((m,es,v),w,u)=some (escO (m,es,v) w):=by
 unfold F_q49q G_walk escO
 simp only [ho,hw,Bool.and_self,if_true,Option.bind_some]
 cases hb:walkB (m,es,v) w with
 | false=>simp only [Bool.not_false,if_true,Bool.false_eq_true,if_false]
 | true=>
  obtain ⟨hg,hwk⟩:=walk_wk hb
  obtain ⟨h0,h8⟩:=graphB_n hg
  obtain ⟨n,rfl⟩:=nat_of h0
  have hn:n<=8:=by omega
  obtain ⟨g1,_⟩:=graphB_edges hg
  obtain ⟨n1,n2⟩:=netB_net hn g1
  have hwk:wkB (n:Int) w=true:=hwk
  have hwk2:=hwk
  unfold wkB at hwk2
  simp only [Bool.and_eq_true,decide_eq_true_eq] at hwk2
  have hM:=back_masks hn g1 w hwk2.2
  have hl1:=backM_len (toI (netN n es)) w
  have hl2:=backP_len es n w
  have hu:G_netEsc ((toI (netN n es),()),w,())=some (escV (escM (toI (netN n es)) ((backM (toI (netN n es)) w).headD 0) (backM (toI (netN n es)) w))):=by
   unfold G_netEsc
   simp only [n1,n2,hwk,Bool.and_self,if_true]
  have key:escM (toI (netN n es)) ((backM (toI (netN n es)) w).headD 0) (backM (toI (netN n es)) w)=escL es n (fun _=>true) (backP es n w):=by
   refine esc_masks hn g1 _ _ _ _ (by omega) (fun i hi=>hM i (by omega)) fun g p gs' ps' e1 e2 => ?_
   have h3:=hM 0 (by omega)
   rw [e1,e2] at h3
   rw [e1,List.headD_cons,Nat.and_self]
   exact isM_congr (fun y _=>by simp) h3
  simp only [Bool.not_true,Bool.false_eq_true,if_false,net_some hg ho,Option.bind_some,hu,key,if_true,Int.toNat_natCast]
theorem esc_small {g:Gr} {w:List (List Int)}:(escO g w).1.length<=40:=by
 unfold escO
 split
 ·rename_i hb
  obtain ⟨hg,hwk⟩:=walk_wk hb
  have w40:w.length<=40:=by
   unfold wkB at hwk
   simp only [Bool.and_eq_true,decide_eq_true_eq] at hwk
   exact hwk.1.2
  have key:∀(ps:List (Nat->Bool)) (q:Nat->Bool) (r:List Int),escL g.2.1 g.1.toNat q ps=some r->r.length=ps.length:=by
   intro ps
   induction ps with
   | nil=>intro q r h;simp [escL] at h;subst h;rfl
   | cons p ps ih=>
    intro q r h
    unfold escL at h
    split at h
    ·cases h
    ·rw [Option.map_eq_some_iff] at h
     obtain ⟨r',h1,rfl⟩:=h
     simp [ih _ _ h1]
  cases hr:escL g.2.1 g.1.toNat (fun _=>true) (backP g.2.1 g.1.toNat w) with
  | none=>simp [escV]
  | some r=>
   have:=key _ _ _ hr
   rw [backP_len] at this
   simp only [escV]
   omega
 ·simp
end Go.V.W
namespace Go.V.W
open Go.Proofs
def clearB (g:Gr) (w:List (List Int)):Bool×Bool×Unit:=if walkB g w=true then (decide ((setsL g w).getD (w.length-1) []=[]),true,()) else (false,false,())
theorem mask_none {n m:Nat} {p:Nat->Bool} (hn:n<=8) (h:isM n m p):decide (m=0)=decide (setF p n 0=[]):=by
 apply bool_eq_iff
 rw [decide_eq_true_eq,decide_eq_true_eq]
 constructor
 ·rintro rfl
  cases hs:setF p n 0 with
  | nil=>rfl
  | cons a l=>
   obtain ⟨y,_,h2,h3,_⟩:=setF_mem.1 (show a∈setF p n 0 by rw [hs];simp)
   have:=h.2 y
   rw [Nat.zero_testBit,h3] at this
   simp at this
   omega
 ·intro hs
  refine Nat.eq_of_testBit_eq fun y => ?_
  rw [Nat.zero_testBit,h.2 y]
  cases hy:decide (y<n)&&p y with
  | false=>rfl
  | true=>
   rw [Bool.and_eq_true,decide_eq_true_eq] at hy
   have:(y:Int)∈setF p n 0:=setF_mem.2 ⟨y,Nat.zero_le _,by omega,hy.2,rfl⟩
   rw [hs] at this
   simp at this
theorem specIC {m:Int} {es:List E} {v u:Unit} {w:List (List Int)} (ho:okL es=true) (hw:okLL w=true):F_q18q 0 ((m,es,v),w,u)=some (clearB (m,es,v) w):=by
 unfold F_q18q G_graph clearB
 simp only [ho,if_true,Option.bind_some]
 cases hg:graphB (m,es,v) with
 | false=>
  have hb:walkB (m,es,v) w=false:=by
   cases hb:walkB (m,es,v) w with
   | false=>rfl
   | true=>rw [(walk_wk hb).1] at hg;cases hg
  simp only [Bool.not_false,if_true,hb,Bool.false_eq_true,if_false]
 | true=>
  unfold G_l11Walk
  simp only [Bool.not_true,Bool.false_eq_true,if_false,ho,hw,hg,Bool.and_self,if_true,Option.bind_some]
  cases hb:walkB (m,es,v) w with
  | false=>simp only [Bool.not_false,if_true,Bool.false_eq_true,if_false]
  | true=>
   have hwk:=(walk_wk hb).2
   have hs:G_l11Sets ((m,es,v),w,())=some (setsL (m,es,v) w,()):=by
    unfold G_l11Sets
    simp only [graph_grB hg ho,hwk,Bool.and_self,if_true]
   obtain ⟨h0,h8⟩:=graphB_n hg
   obtain ⟨n,rfl⟩:=nat_of h0
   obtain ⟨g1,_⟩:=graphB_edges hg
   obtain ⟨k1,k2,k3⟩:=walk_masks (show n<=8 by omega) (v:=v) g1 hwk
   have hwk2:wkB (n:Int) w=true:=hwk
   unfold wkB at hwk2
   simp only [Bool.and_eq_true,decide_eq_true_eq] at hwk2
   have hlen:(setsL ((n:Int),es,v) w).length=w.length:=by
    unfold setsL
    rw [List.length_map,k2]
   have hw1:IntKind.wrap .i64 ((w.length:Int)-1)=((w.length-1:Nat):Int):=wrap_down (by omega) (by unfold maxLen;omega)
   have i1:idxIn ((w.length-1:Nat):Int) (setsL ((n:Int),es,v) w).length=true:=idxIn_nat (by omega)
   have hlt:w.length-1<(setsL ((n:Int),es,v) w).length:=by omega
   have e:at_ K_Si (setsL ((n:Int),es,v) w) (w.length-1)=(setsL ((n:Int),es,v) w).getD (w.length-1) []:=by
    have e:at_ K_Si (setsL ((n:Int),es,v) w) (w.length-1)=(setsL ((n:Int),es,v) w)[w.length-1]:=at_get (e:=K_Si) hlt
    rw [e,List.getD_eq_getElem?_getD,List.getElem?_eq_getElem hlt]
    rfl
   simp only [Bool.not_true,Bool.false_eq_true,if_false,hs,Option.bind_some,if_true,hw1,i1,Int.toNat_natCast,e]
   congr 2
   apply bool_eq_iff
   rw [decide_eq_true_eq,beq_iff_eq,<- List.length_eq_zero_iff]
   constructor
   ·intro h;omega
   ·intro h;omega
theorem implIC {m:Int} {es:List E} {v u:Unit} {w:List (List Int)} (ho:okL es=true) (hw:okLL w=true):F_q17q 0 ((m,es,v),w,u)=some (clearB (m,es,v) w):=by
 unfold F_q17q G_walk clearB
 simp only [ho,hw,Bool.and_self,if_true,Option.bind_some]
 cases hb:walkB (m,es,v) w with
 | false=>simp only [Bool.not_false,if_true,Bool.false_eq_true,if_false]
 | true=>
  obtain ⟨hg,hwk⟩:=walk_wk hb
  obtain ⟨h0,h8⟩:=graphB_n hg
  obtain ⟨n,rfl⟩:=nat_of h0
  have hn:n<=8:=by omega
  obtain ⟨g1,_⟩:=graphB_edges hg
  obtain ⟨n1,n2⟩:=netB_net hn g1
  have hwk:wkB (n:Int) w=true:=hwk
  obtain ⟨k1,k2,k3⟩:=walk_masks hn (v:=v) g1 hwk
  have hu:G_netUns ((toI (netN n es),()),w,())=some (toI (walkM (toI (netN n es)) w),()):=by
   unfold G_netUns
   simp only [n1,n2,hwk,Bool.and_self,if_true]
  have hwk2:=hwk
  unfold wkB at hwk2
  simp only [Bool.and_eq_true,decide_eq_true_eq] at hwk2
  have hl:(toI (walkM (toI (netN n es)) w)).length=w.length:=by rw [toI_len,k1]
  have hw1:IntKind.wrap .i64 ((w.length:Int)-1)=((w.length-1:Nat):Int):=wrap_down (by omega) (by unfold maxLen;omega)
  have i1:idxIn ((w.length-1:Nat):Int) w.length=true:=idxIn_nat (by omega)
  simp only [Bool.not_true,Bool.false_eq_true,if_false,net_some hg ho,Option.bind_some,hu,if_true,hl,hw1,i1,Int.toNat_natCast,at_toI]
  have h3:=k3 (w.length-1) (by omega)
  have e:(setsL ((n:Int),es,v) w).getD (w.length-1) []=setF ((walkP ((n:Int),es,v) w).getD (w.length-1) fun _=>false) n 0:=by
   unfold setsL
   have hlt:w.length-1<(walkP ((n:Int),es,v) w).length:=by omega
   rw [List.getD_eq_getElem?_getD,List.getElem?_map,List.getD_eq_getElem?_getD,List.getElem?_eq_getElem hlt]
   rfl
  rw [e,<- mask_none hn h3]
  congr 2
  apply bool_eq_iff
  rw [decide_eq_true_eq,beq_iff_eq]
  exact Int.natCast_eq_zero
end Go.V.W
