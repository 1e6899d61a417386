/- What the law FnExactBestCops leans on, part 4: an interpreter of the model as plain data, its soundness, the functions as it tells them, and their laws. -/
import Derived.WalkKit
import Derived.LoopN
import Derived.Test.YtcdhlpfcjpnfoaaGreatProg
import Derived.Shelf.RegionOpenPlain
import Derived.Deep.LoopGhost
import Derived.Deep.Draws
import Derived.Lib.Walk
import Derived.Sort.WalkB12
import Derived.Lib.SliceRun
import Derived.Lib.SlicesS
import Derived.Lib.SlicesCompact
import Derived.Test.YtcdhlpfcjpnfoaaGreatVC
set_option linter.unusedVariables false
set_option linter.unusedSimpArgs false
set_option maxRecDepth 100000
set_option linter.unusedVariables false
set_option linter.unusedSimpArgs false
namespace Go.V.W
open Go.RowKit Go.Proofs
open Go.Sort (grow putRow mapBlock putCells onCells SWO PermIn SortedIn)
open Go.Lib
abbrev kSS : Kd := .slice (.slice (.int .i64))
theorem grow_at' {w : World} {os : Array Obj} {k : Nat} (h : k < w.heap.size) : (grow w os).heap[k]? = w.heap[k]? := by
 show (w.heap ++ os)[k]? = _
 exact Array.getElem?_append_left h
open Classical in
noncomputable def goesTo {n : Nat} (d' : Array (Fin (n + 1))) (j : Nat) : Nat := if h : ∃ k, ∃ hk : k < d'.size, (d'[k]).val = j then h.choose else j
theorem goesTo_at {n : Nat} {d' : Array (Fin (n + 1))} (hinj : ∀ i j (hi : i < d'.size) (hj : j < d'.size), d'[i] = d'[j] → i = j) {k : Nat} (hk : k < d'.size) : goesTo d' (d'[k]).val = k := by
 have h : ∃ k', ∃ hk' : k' < d'.size, (d'[k']).val = (d'[k]).val := ⟨k, hk, rfl⟩
 unfold goesTo
 rw [dif_pos h]
 obtain ⟨h1, h2⟩ := h.choose_spec
 exact hinj _ _ h1 hk (Fin.ext h2)
noncomputable def sortLab {n : Nat} (d' : Array (Fin (n + 1))) : Nat × Path → Lab
 | (0, [.i j]) => .io 0 [.i (goesTo d' j)]
 | (i, q) => .io i q
theorem con_sortF {P : Program} {f g : FuncId} (he : ∀ (args : Array Value) (w : World), (callFunc f args).run P w = .ok (.enter f args) w)
  (hc : ∀ (w : World) (v1 v2 : Value) (xs ys : List Int), Hdr w v1 xs → Hdr w v2 ys → xs.length ≤ lim → ys.length ≤ lim → Calls P g #[v1, v2] w fun e w' => e = .returned (.int .i64 (cmpL xs ys)) ∧ w' = w)
  (h : ∀ (n : Nat) (enc : Fin (n + 1) → Value) (cf : Fin (n + 1) → Fin (n + 1) → Int) (blk off cap : Nat) (w : World), OneCell enc → SWO (ltOf cf) → CmpLays1 P g #[] enc cf blk off (idA n).size w → Go.Sort.Holds enc w blk off (idA n) → blk < w.heap.size → (idA n).size < 4611686018427387904 →
   Calls P f #[.slice (some ⟨blk, off, none⟩) (idA n).size cap, .func (.func g) #[] #[]] w fun e w' => e = .returned (.tuple #[]) ∧ ∃ d' m os, PermIn 0 (idA n).size (idA n) d' ∧ SortedIn (ltOf cf) 0 (idA n).size d' ∧ w' = sortWorld enc w blk off m d' os)
  (h0 : ∀ (p : Option Addr) (cap : Nat) (fv : Value) (w : World), Calls P f #[.slice p 0 cap, fv] w fun e w' => e = .returned (.tuple #[]) ∧ w' = w) :
  Contract P f ⟨[(kSS, true), (.clo g .unit .unit, false)], [], true, G_sortF⟩ := by
 intro w ψ U vs d out hargs hU hψ hgl ho
 obtain ⟨xss, fv, u⟩ := d
 have ho : G_sortF (xss, fv, u) = some out := ho
 unfold G_sortF at ho
 split at ho
 case isFalse => cases ho
 rename_i hl
 have hl : (okL xss && xss.all okL) = true := hl
 simp only [Bool.and_eq_true] at hl
 obtain ⟨hl, hal⟩ := hl
 have hl : xss.length ≤ lim := of_decide_eq_true hl
 have hal : ∀ x ∈ xss, x.length ≤ lim := fun x hx => of_decide_eq_true (List.all_eq_true.1 hal x hx)
 obtain rfl := Option.some.inj ho
 obtain ⟨c1, r1, rfl, k2, c2, r2, rfl, k3, k5⟩ := hargs
 have k5 : r2 = [] := k5
 subst k5
 have hfv : mkVal (.clo g .unit .unit) c2 = .func (.func g) #[] #[] := by
  obtain ⟨a1, a2, e, _⟩ := (show Rep w _ (.clo g .unit .unit) [] c2 fv from k3)
  rw [e]
  rfl
 rw [hfv]
 have k2 : Rep w (fun q b => ψ b = some (0, q)) kSS [] c1 xss := k2
 rw [Rep] at k2
 -- the world as it was
 have same : ∀ (v : Value), (∃ p cap, c1 = [.slice p 0 cap]) → xss = [] → CallsTo P f (mkVal kSS c1 :: [.func (.func g) #[] #[]]).toArray w fun v w' => ∃ χ, Post ⟨[(kSS, true), (.clo g .unit .unit, false)], [], true, G_sortF⟩ ψ U (mkVal kSS c1 :: [.func (.func g) #[] #[]]) w (sortS xss, ()) χ v w' := by
  rintro _ ⟨p, cap, rfl⟩ rfl
  unfold CallsTo
  rw [show (mkVal kSS [Value.slice p 0 cap] :: [Value.func (.func g) #[] #[]]).toArray = #[.slice p 0 cap, .func (.func g) #[] #[]] from rfl, he]
  refine Calls.mono (h0 p cap _ w) fun e w' hh => ?_
  obtain ⟨rfl, rfl⟩ := hh
  refine ⟨fun b => match ψ b with | some (i, q) => some (.io i q) | none => none, ⟨rfl, rfl, rfl, Nat.le_refl _, fun _ _ _ => rfl, fun b z hz => ?_, ⟨[], trivial, rfl⟩, ?_⟩⟩
  ·cases hb : ψ b with
   | none => rw [hb] at hz; cases hz
   | some y => exact ⟨.inr (by simp), hψ b y hb⟩
  ·refine ⟨fun _ => ⟨[.slice p 0 cap], rfl, rfl, ?_⟩, trivial⟩
   rw [RepL.of (show Kd.isBx kSS = false from rfl)]
   show Rep _ _ kSS [] [.slice p 0 cap] []
   rw [Rep]
   rcases k2 with ⟨⟨a, e⟩, _⟩ | ⟨b, off, cap', e, kc, kS, kb, ke⟩
   ·exact .inl ⟨⟨a, e⟩, rfl⟩
   ·refine .inr ⟨b, off, cap', e, kc, ?_, kb, fun i hi => absurd hi (by simp)⟩
    show (match ψ b with | some (i, q) => some (Lab.io i q) | none => none) = some (.io 0 [])
    rw [kS]
 rcases k2 with ⟨⟨a, e⟩, hz⟩ | ⟨b, off, cap, e, kc, kS, kb, ke⟩
 ·exact same undef ⟨a, 0, e⟩ hz
 cases hn : xss.length with
 | zero =>
  have hz : xss = [] := List.length_eq_zero_iff.1 hn
  rw [hn] at e
  exact same undef ⟨_, cap, e⟩ hz
 | succ n =>
  clear same
  have kS : ψ b = some (0, []) := kS
  obtain ⟨cs, T, fr, hrow, hthaw⟩ := hψ b _ kS
  obtain ⟨cs2, T2, fr2, hrow2, hfit⟩ := kb
  rw [hrow] at hrow2
  injection hrow2 with hrow2
  injection hrow2 with e1 e2 e3
  subst e1 e2 e3
  simp only [Kd.size, Nat.mul_one] at hfit
  rw [hn] at kc
  -- the headers
  have hlt : ∀ j, j < n + 1 → off + j < cs.size := fun j hj => by omega
  have hel : ∀ j (hj : j < n + 1), Rep w (fun q b => ψ b = some (0, q)) (.slice (.int .i64)) [.i j] [cs[off + j]'(hlt j hj)] (xss.getD j []) := fun j hj => by
   have hj' : j < xss.length := by omega
   have := ke j hj'
   simp only [Kd.size, Nat.mul_one, List.nil_append] at this
   unfold cellsAt at this
   rw [hrow] at this
   have e : (cs.toList.drop (off + j)).take 1 = [cs[off + j]'(hlt j hj)] := by
    rw [List.drop_eq_getElem_cons (by simpa using hlt j hj), List.take_succ_cons, List.take_zero, Array.getElem_toList]
   simp only at this
   rw [e] at this
   have e2 : xss.getD j [] = xss.get ⟨j, hj'⟩ := by simp [List.getD_eq_getElem?_getD, hj']
   rw [e2]
   exact this
  have hb := (Array.getElem?_eq_some_iff.1 hrow).1
  let enc : Fin (n + 1) → Value := fun j => cs[off + j.val]'(hlt j.val j.isLt)
  have hOne : OneCell enc := fun j => by
   have := hel j.val j.isLt
   rw [Rep] at this
   rcases this with ⟨⟨a, e⟩, _⟩ | ⟨b', o', c', e, _⟩
   ·rw [show enc j = .slice a 0 0 from (List.cons.inj e).1]; rfl
   ·rw [show enc j = _ from (List.cons.inj e).1]; rfl
  have hneb : ∀ j b', ψ b' = some (0, [.i j]) → b' ≠ b := fun j b' h1 e => by
   subst e
   rw [kS] at h1
   cases h1
  have hother' : ∀ (m : Nat) (dk : Array (Fin (n + 1))) (os : Array Obj) (k : Nat), k < w.heap.size → k ≠ b → (sortWorld enc w b off m dk os).heap[k]? = w.heap[k]? := fun m dk os k hk hne => by
   unfold sortWorld
   have hsz : (putRow enc (Go.Sort.ahead w m) b off dk).heap.size = w.heap.size := by simp [putRow, mapBlock]
   rw [grow_at' (by rw [hsz]; exact hk), putRowV_else hne]
   rfl
  have hcmp : CmpLays1 P g #[] enc (fun x y => cmpL (xss.getD x.val []) (xss.getD y.val [])) b off (idA n).size w := fun m os dk hs x y => by
   have hh : ∀ z : Fin (n + 1), Hdr (sortWorld enc w b off m dk os) (enc z) (xss.getD z.val []) := fun z => hdr_of (hel z.val z.isLt) fun b' hb' => hother' m dk os b' (hψ b' _ hb').lt (hneb _ _ hb')
   have hln : ∀ z : Fin (n + 1), (xss.getD z.val []).length ≤ lim := fun z => by
    have hz : z.val < xss.length := by omega
    have : xss.getD z.val [] = xss[z.val] := by simp [List.getD_eq_getElem?_getD, hz]
    rw [this]
    exact hal _ (List.getElem_mem hz)
   refine Calls.mono (hc _ _ _ _ _ (hh x) (hh y) (hln x) (hln y)) fun e w' hw => ?_
   obtain ⟨rfl, rfl⟩ := hw
   refine ⟨rfl, 0, #[], ?_⟩
   rw [Go.Sort.grow_empty]
   rfl
  have hH : Go.Sort.Holds enc w b off (idA n) := fun j hj => by
   have hj' : j < n + 1 := by rw [idA_size] at hj; exact hj
   have e : (idA n)[j]! = ⟨j, hj'⟩ := by rw [getElem!_pos (idA n) j hj]; simp [idA]
   constructor
   ·unfold World.cell?
    rw [hrow, e]
    simp [enc, hlt j hj']
   ·unfold World.frozen?
    rw [hrow]
    obtain ⟨f1, f2⟩ := fr
    have := hlt j hj'
    simp only at hthaw
    simp
    omega
  have hcall := h n enc _ b off cap w hOne (swo_cmp fun z : Fin (n + 1) => xss.getD z.val []) hcmp hH hb (by rw [idA_size]; unfold lim at hl; omega)
  unfold CallsTo
  rw [e, hn, show (mkVal kSS [Value.slice (some ⟨b, off, none⟩) (n + 1) cap] :: [Value.func (.func g) #[] #[]]).toArray = #[.slice (some ⟨b, off, none⟩) (n + 1) cap, .func (.func g) #[] #[]] from rfl, he]
  rw [idA_size] at hcall
  refine Calls.mono hcall fun e w' hh => ?_
  obtain ⟨rfl, d', m, os, hperm, hsort, rfl⟩ := hh
  have hperm' : PermIn 0 (idA n).size (idA n) d' := by rw [idA_size]; exact hperm
  obtain ⟨hs, hp, hinj⟩ := place_inj hperm'
  have hdata := sorted_data xss hn hp hs (by rw [idA_size]; exact hsort)
  have hother := hother' m d' os
  have hnew : (sortWorld enc w b off m d' os).heap[b]? = some (.cells (putCells enc off d' cs) T fr) := by
   unfold sortWorld
   have hsz : (putRow enc (Go.Sort.ahead w m) b off d').heap.size = w.heap.size := by simp [putRow, mapBlock]
   rw [grow_at' (by rw [hsz]; exact hb)]
   exact putRowV_at (w := Go.Sort.ahead w m) hrow
  have hps : (putCells enc off d' cs).size = cs.size := by simp [putCells]
  have hlen : (sortS xss).length = n + 1 := by rw [sortS_len, hn]
  refine ⟨fun b => match ψ b with | some z => some (sortLab d' z) | none => none, ⟨rfl, rfl, rfl, ?_, fun k hk hn => ?_, fun k z hz => ?_, ⟨[], trivial, rfl⟩, ?_⟩⟩
  ·show w.heap.size ≤ ((putRow enc (Go.Sort.ahead w m) b off d').heap ++ os).size
   have hsz : (putRow enc (Go.Sort.ahead w m) b off d').heap.size = w.heap.size := by simp [putRow, mapBlock]
   rw [Array.size_append, hsz]
   omega
  ·exact hother k hk (fun e => by subst e; rw [kS] at hn; cases hn)
  ·cases hk : ψ k with
   | none => rw [hk] at hz; cases hz
   | some y =>
    refine ⟨.inr (by simp), ?_⟩
    by_cases e : k = b
    ·subst e
     exact ⟨_, T, fr, hnew, hthaw.imp (fun h => h) fun h => by rw [hps]; exact h⟩
    ·exact (hψ k y hk).same (hother k (hψ k y hk).lt e)
  ·refine ⟨fun _ => ⟨[.slice (some ⟨b, off, none⟩) (n + 1) cap], rfl, rfl, ?_⟩, trivial⟩
   rw [RepL.of (show Kd.isBx kSS = false from rfl)]
   show Rep _ _ kSS [] [.slice (some ⟨b, off, none⟩) (n + 1) cap] (sortS xss)
   rw [Rep]
   refine .inr ⟨b, off, cap, by rw [hlen], by rw [hlen]; exact kc, ?_, ⟨_, T, fr, hnew, ?_⟩, fun i hi => ?_⟩
   ·show (match ψ b with | some z => some (sortLab d' z) | none => none) = some (.io 0 [])
    rw [kS]
    rfl
   ·simp only [Kd.size, Nat.mul_one]
    rw [hps]
    exact hfit
   ·have hi1 : i < n + 1 := by rw [← hlen]; exact hi
    have hi2 : i < d'.size := by omega
    have ecell : cellsAt (sortWorld enc w b off m d' os) b (off + i * (Kd.slice (.int .i64)).size) (Kd.slice (.int .i64)).size = [enc d'[i]] := by
     unfold cellsAt
     rw [hnew]
     simp only [Kd.size, Nat.mul_one]
     have hlt2 : off + i < (putCells enc off d' cs).toList.length := by rw [Array.length_toList, hps]; exact hlt i hi1
     rw [List.drop_eq_getElem_cons hlt2, List.take_succ_cons, List.take_zero]
     congr 1
     simp only [putCells, Array.getElem_toList, Array.getElem_mapIdx]
     rw [if_pos ⟨by omega, by omega⟩, show off + i - off = i by omega, getElem!_pos d' i hi2]
    have edata : (sortS xss).get ⟨i, hi⟩ = xss.getD (d'[i]).val [] := by
     have : (sortS xss)[i] = xss.getD (d'[i]).val [] := by
      simp only [hdata, List.getElem_map, Array.getElem_toList]
     exact this
    rw [ecell, edata]
    refine rep_move (hel (d'[i]).val (d'[i]).isLt) fun b' hb' => ⟨hother b' (hψ b' _ hb').lt (hneb _ _ hb'), ?_⟩
    show (match ψ b' with | some z => some (sortLab d' z) | none => none) = some (.io 0 ([] ++ [.i i]))
    have hb' : ψ b' = some (0, [.i (d'[i]).val]) := hb'
    rw [hb']
    show some (Lab.io 0 [.i (goesTo d' (d'[i]).val)]) = _
    rw [goesTo_at hinj hi2]
    rfl
end Go.V.W
set_option linter.unusedVariables false
set_option linter.unusedSimpArgs false
namespace Go.V.W
open Go.Proofs Go.RowKit
def cmp1 (x y : Int) : Int := if x < y then -1 else if y < x then 1 else 0
theorem cmp1_lt {x y : Int} (h : x < y) : cmp1 x y = -1 := if_pos h
theorem cmp1_gt {x y : Int} (h : ¬ x < y) (h2 : y < x) : cmp1 x y = 1 := by unfold cmp1; rw [if_neg h, if_pos h2]
theorem cmp1_eq {x y : Int} (h : ¬ x < y) (h2 : ¬ y < x) : cmp1 x y = 0 := by unfold cmp1; rw [if_neg h, if_neg h2]
set_option maxRecDepth 1000000 in
theorem cmp65 (x y : Int) (w : World) : Calls Tryz.prog 130 #[.int .i64 x, .int .i64 y] w fun e w' => e = .returned (.int .i64 (cmp1 x y)) ∧ w' = w := by
 go_enter Tryz.func130, Tryz.ntmps130
 go_wp2
 ·have h : x < y := by assumption
  go_ret
  refine ⟨?_, rfl⟩
  rw [cmp1_lt h]
  rfl
 ·have h2 : y < x := by assumption
  have h : ¬ x < y := by omega
  go_ret
  refine ⟨?_, rfl⟩
  rw [cmp1_gt h h2]
  rfl
 ·have h3 : y ≤ x := by assumption
  have h4 : x ≤ y := by assumption
  have h : ¬ x < y := by omega
  have h2 : ¬ y < x := by omega
  go_ret
  refine ⟨?_, rfl⟩
  rw [cmp1_eq h h2]
  rfl
set_option maxRecDepth 1000000 in
set_option maxHeartbeats 4000000 in
theorem cmp44 (b1 o1 c1 b2 o2 c2 : Nat) (xs ys : List Int) (w : World) (hx : ∀ j (h : j < xs.length), w.cell? ⟨b1, o1 + j, none⟩ = some (.int .i64 xs[j])) (hy : ∀ j (h : j < ys.length), w.cell? ⟨b2, o2 + j, none⟩ = some (.int .i64 ys[j]))
  (hl1 : xs.length ≤ lim) (hl2 : ys.length ≤ lim) : Calls Tryz.prog 113 #[.slice (some ⟨b1, o1, none⟩) xs.length c1, .slice (some ⟨b2, o2, none⟩) ys.length c2] w fun e w' => e = .returned (.int .i64 (cmpL xs ys)) ∧ w' = w := by
 have hn1 : xs.length ≤ 1099511627776 := hl1
 have hn2 : ys.length ≤ 1099511627776 := hl2
 go_enter Tryz.func113, Tryz.ntmps113
 go_wp2
 go_loop [11] (fun i => ∃ k : Nat, k ≤ xs.length ∧ k ≤ ys.length ∧ i = .int .i64 k ∧ cmpL xs ys = cmpL (xs.drop k) (ys.drop k)) (fun i => match i with | .int _ m => xs.length - m.toNat | _ => 0)
 case atStart => exact ⟨0, Nat.zero_le _, Nat.zero_le _, rfl, rfl⟩
 case round =>
  obtain ⟨k, hk1, hk2, rfl, hrel⟩ := hrel
  by_cases hkx : k < xs.length
  ·by_cases hky : k < ys.length
   ·obtain ⟨x, hxe⟩ : ∃ x, x = xs[k] := ⟨_, rfl⟩
    obtain ⟨y, hye⟩ : ∃ y, y = ys[k] := ⟨_, rfl⟩
    have hcx : w.cell? ⟨b1, o1 + k, none⟩ = some (.int .i64 x) := by rw [hx k hkx, hxe]
    have hcy : w.cell? ⟨b2, o2 + k, none⟩ = some (.int .i64 y) := by rw [hy k hky, hye]
    have hdx : xs.drop k = x :: xs.drop (k + 1) := by rw [List.drop_eq_getElem_cons hkx, hxe]
    have hdy : ys.drop k = y :: ys.drop (k + 1) := by rw [List.drop_eq_getElem_cons hky, hye]
    have hstep : cmpL xs ys = if x < y then -1 else if y < x then 1 else cmpL (xs.drop (k + 1)) (ys.drop (k + 1)) := by rw [hrel, hdx, hdy]; rfl
    clear hx hy hxe hye hrel hdx hdy
    go_wp2_with (go_at_call 130; refine (cmp65 _ _ _).mono ?_; rintro e w' ⟨rfl, rfl⟩)
    ·have hne : cmp1 x y ≠ 0 := by
      have h : (cmp1 x y != 0) = true := by assumption
      simpa using h
     have he : cmpL xs ys = cmp1 x y := by
      rw [hstep]
      unfold cmp1 at hne ⊢
      by_cases c1 : x < y
      ·rw [if_pos c1, if_pos c1]
      ·by_cases c2 : y < x
       ·rw [if_neg c1, if_neg c1, if_pos c2, if_pos c2]
       ·rw [if_neg c1, if_neg c2] at hne
        exact absurd rfl hne
     go_ret
     refine ⟨?_, rfl⟩
     rw [he]
     rfl
    ·have hz : cmp1 x y = 0 := by
      have h : (cmp1 x y != 0) = false := by assumption
      simpa using h
     have he : cmpL xs ys = cmpL (xs.drop (k + 1)) (ys.drop (k + 1)) := by
      rw [hstep]
      unfold cmp1 at hz
      by_cases c1 : x < y
      ·rw [if_pos c1] at hz; cases hz
      ·by_cases c2 : y < x
       ·rw [if_neg c1, if_pos c2] at hz; cases hz
       ·rw [if_neg c1, if_neg c2]
     refine ⟨⟨k + 1, by omega, by omega, rfl, he⟩, ?_⟩
     show xs.length - ((k : Int) + 1).toNat < xs.length - (k : Int).toNat
     omega
   ·have hdx : xs.drop k = xs[k] :: xs.drop (k + 1) := List.drop_eq_getElem_cons hkx
    have hdy : ys.drop k = [] := List.drop_of_length_le (by omega)
    have he : cmpL xs ys = 1 := by rw [hrel, hdx, hdy]; rfl
    have hcx : w.cell? ⟨b1, o1 + k, none⟩ = some (.int .i64 xs[k]) := hx k hkx
    clear hx hy hrel hdx hdy
    go_wp2
    go_ret
    refine ⟨?_, rfl⟩
    rfl
  ·have hdx : xs.drop k = [] := List.drop_of_length_le (by omega)
   have he : cmpL xs ys = if xs.length < ys.length then -1 else 0 := by
    rw [hrel, hdx]
    by_cases h : k < ys.length
    ·rw [List.drop_eq_getElem_cons h, if_pos (by omega)]
     rfl
    ·rw [List.drop_of_length_le (by omega), if_neg (by omega)]
     rfl
   clear hx hy hrel hdx
   go_wp2
   ·have h : xs.length < ys.length := by assumption
    go_ret
    refine ⟨?_, rfl⟩
    rfl
   ·have h : ¬ xs.length < ys.length := by assumption
    go_ret
    refine ⟨?_, rfl⟩
    rfl
set_option maxRecDepth 1000000 in
set_option maxHeartbeats 4000000 in
theorem cmp44_nil1 (a1 a2 : Option Addr) (c1 m c2 : Nat) (w : World) (hm : m ≤ lim) : Calls Tryz.prog 113 #[.slice a1 0 c1, .slice a2 m c2] w fun e w' => e = .returned (.int .i64 (if 0 < m then -1 else 0)) ∧ w' = w := by
 have hn : m ≤ 1099511627776 := hm
 go_enter Tryz.func113, Tryz.ntmps113
 go_wp2
 go_loop [11] (fun i => i = .int .i64 0) (fun _ => 0)
 case atStart => rfl
 case round =>
  subst hrel
  go_wp2
  ·have h : 0 < m := by assumption
   go_ret
   refine ⟨?_, rfl⟩
   first | rfl | (rw [if_pos h]; rfl)
  ·go_ret
   refine ⟨?_, rfl⟩
   first | rfl | (rw [if_neg (by omega)]; rfl)
set_option maxRecDepth 1000000 in
set_option maxHeartbeats 4000000 in
theorem cmp44_nil2 (b1 o1 n c1 : Nat) (a2 : Option Addr) (c2 : Nat) (x : Int) (w : World) (h0 : 0 < n) (hn : n ≤ 1099511627776) (hx : w.cell? ⟨b1, o1, none⟩ = some (.int .i64 x)) : Calls Tryz.prog 113 #[.slice (some ⟨b1, o1, none⟩) n c1, .slice a2 0 c2] w fun e w' => e = .returned (.int .i64 1) ∧ w' = w := by
 go_enter Tryz.func113, Tryz.ntmps113
 go_wp2
 go_loop [11] (fun i => i = .int .i64 0) (fun _ => 0)
 case atStart => rfl
 case round =>
  subst hrel
  go_wp2
  all_goals (go_ret; exact ⟨rfl, rfl⟩)
theorem cmpL_nil (ys : List Int) : (if 0 < ys.length then (-1 : Int) else 0) = cmpL [] ys := by cases ys <;> rfl
theorem cmpH {w : World} {v1 v2 : Value} {xs ys : List Int} (h1 : Hdr w v1 xs) (h2 : Hdr w v2 ys) (l1 : xs.length ≤ lim) (l2 : ys.length ≤ lim) : Calls Tryz.prog 113 #[v1, v2] w fun e w' => e = .returned (.int .i64 (cmpL xs ys)) ∧ w' = w := by
 rcases h1 with ⟨a1, rfl, rfl⟩ | ⟨b1, o1, c1, rfl, hx⟩
 ·rcases h2 with ⟨a2, rfl, rfl⟩ | ⟨b2, o2, c2, rfl, hy⟩
  ·exact cmp44_nil1 a1 a2 0 0 0 w (Nat.zero_le _)
  ·rw [← cmpL_nil]
   exact cmp44_nil1 a1 (some ⟨b2, o2, none⟩) 0 ys.length c2 w l2
 ·rcases h2 with ⟨a2, rfl, rfl⟩ | ⟨b2, o2, c2, rfl, hy⟩
  ·cases xs with
   | nil => exact cmp44_nil1 (some ⟨b1, o1, none⟩) a2 c1 0 0 w (Nat.zero_le _)
   | cons x xs =>
    have l1' : (x :: xs).length ≤ 1099511627776 := l1
    exact cmp44_nil2 b1 o1 (x :: xs).length c1 a2 0 x w (by simp) l1' (hx 0 (by simp))
  ·exact cmp44 b1 o1 c1 b2 o2 c2 xs ys w hx hy l1 l2
end Go.V.W
set_option linter.unusedVariables false
set_option linter.unusedSimpArgs false
namespace Go.V.W
open Go.Proofs Go.RowKit Go.Shelf Go.Lib Go.Sort
set_option maxRecDepth 1000000 in
set_option maxHeartbeats 4000000 in
theorem eq49 (b1 o1 c1 b2 o2 c2 : Nat) (xs ys : List Int) (n : Nat) (w : World) (hx : ∀ j (h : j < xs.length), w.cell? ⟨b1, o1 + j, none⟩ = some (.int .i64 xs[j])) (hy : ∀ j (h : j < ys.length), w.cell? ⟨b2, o2 + j, none⟩ = some (.int .i64 ys[j]))
  (hn : n ≤ 1099511627776) (h1 : Aside (xs.length = n)) (h2 : Aside (ys.length = n)) : Calls Tryz.prog 92 #[.slice (some ⟨b1, o1, none⟩) n c1, .slice (some ⟨b2, o2, none⟩) n c2] w fun e w' => e = .returned (.bool (decide (xs = ys))) ∧ ∃ q, w' = w.drewN q := by
 have mixed : Tryz.prog.follows .mixedOrders = true := by kernel_rfl
 have HX : Aside _ := hx
 have HY : Aside _ := hy
 clear hx hy
 go_enter Tryz.func92, Tryz.ntmps92
 go_wp2
 go_loopg [13] n (fun g s13 wr => ∃ k q : Nat, k ≤ n ∧ n - k ≤ g ∧ s13 = .int .i64 k ∧ wr = w.drewN q ∧ Aside (decide (xs = ys) = decide (xs.drop k = ys.drop k)))
 case atStart => exact ⟨0, 0, Nat.zero_le _, by omega, rfl, rfl, rfl⟩
 case round =>
  obtain ⟨k, q, hk1, hg, rfl, rfl, hrel⟩ := hrel
  by_cases hkx : k < n
  ·have hkx' : k < xs.length := by rw [h1.out]; exact hkx
   have hky' : k < ys.length := by rw [h2.out]; exact hkx
   obtain ⟨x, hxe⟩ : ∃ x, x = xs[k] := ⟨_, rfl⟩
   obtain ⟨y, hye⟩ : ∃ y, y = ys[k] := ⟨_, rfl⟩
   have hcx : w.cell? ⟨b1, o1 + k, none⟩ = some (.int .i64 x) := by rw [HX.out k hkx', hxe]
   have hcy : w.cell? ⟨b2, o2 + k, none⟩ = some (.int .i64 y) := by rw [HY.out k hky', hye]
   have hdx : xs.drop k = x :: xs.drop (k + 1) := by rw [List.drop_eq_getElem_cons hkx', hxe]
   have hdy : ys.drop k = y :: ys.drop (k + 1) := by rw [List.drop_eq_getElem_cons hky', hye]
   have hstep : Aside (decide (xs = ys) = (decide (x = y) && decide (xs.drop (k + 1) = ys.drop (k + 1)))) := by
    show _ = _
    rw [hrel.out, hdx, hdy]
    rw [Bool.eq_iff_iff]
    simp
   clear hkx' hky' hxe hye hrel hdx hdy
   by_cases hxy : x = y
   ·subst hxy
    have he : Aside (decide (xs = ys) = decide (xs.drop (k + 1) = ys.drop (k + 1))) := by
     show _ = _
     rw [hstep.out]; simp
    clear hstep
    go_wp2_with fail
    go_region_o
    go_wp2
    go_roundg (n - (k + 1))
    case measure => omega
    case rel => exact ⟨k + 1, q + 1, by omega, Nat.le_refl _, by go_num, rfl, he⟩
   ·have he : Aside (decide (xs = ys) = false) := by
     show _ = _
     rw [hstep.out]; simp [hxy]
    clear hstep
    go_wp2_with fail
    go_region_o
    go_wp2
    go_ret
    exact ⟨by rw [he.out]; rfl, q + 1, rfl⟩
  ·have he : Aside (decide (xs = ys) = true) := by
    show _ = _
    rw [hrel.out, List.drop_of_length_le (by rw [h1.out]; omega), List.drop_of_length_le (by rw [h2.out]; omega)]
    simp
   clear hrel
   go_wp2
   go_ret
   exact ⟨by rw [he.out]; rfl, q, rfl⟩
set_option maxRecDepth 1000000 in
theorem eq49_len (a1 a2 : Option Addr) (m n c1 c2 : Nat) (w : World) (h : ¬ (m : Int) = n) (hm : m ≤ 1099511627776) (hn : n ≤ 1099511627776) : Calls Tryz.prog 92 #[.slice a1 m c1, .slice a2 n c2] w fun e w' => e = .returned (.bool false) ∧ ∃ q, w' = w.drewN q := by
 go_enter Tryz.func92, Tryz.ntmps92
 go_wp2
 go_ret
 exact ⟨rfl, 0, rfl⟩
set_option maxRecDepth 1000000 in
theorem eq49_zero (a1 a2 : Option Addr) (c1 c2 : Nat) (w : World) : Calls Tryz.prog 92 #[.slice a1 0 c1, .slice a2 0 c2] w fun e w' => e = .returned (.bool true) ∧ ∃ q, w' = w.drewN q := by
 go_enter Tryz.func92, Tryz.ntmps92
 go_wp2
 go_loopg [13] 0 (fun g s13 wr => s13 = .int .i64 0 ∧ wr = w)
 case atStart => exact ⟨rfl, rfl⟩
 case round =>
  obtain ⟨rfl, rfl⟩ := hrel
  go_wp2
  go_ret
  exact ⟨rfl, 0, rfl⟩
theorem eqH {w : World} {v1 v2 : Value} {xs ys : List Int} (h1 : Hdr w v1 xs) (h2 : Hdr w v2 ys) (l1 : xs.length ≤ lim) (l2 : ys.length ≤ lim) : Calls Tryz.prog 92 #[v1, v2] w fun e w' => e = .returned (.bool (decide (xs = ys))) ∧ ∃ q, w' = w.drewN q := by
 have l1' : xs.length ≤ 1099511627776 := l1
 have l2' : ys.length ≤ 1099511627776 := l2
 obtain ⟨a1, c1, e1⟩ : ∃ a c, v1 = .slice a xs.length c := by
  rcases h1 with ⟨a, rfl, rfl⟩ | ⟨b, off, cap, rfl, _⟩
  ·exact ⟨a, 0, rfl⟩
  ·exact ⟨_, cap, rfl⟩
 obtain ⟨a2, c2, e2⟩ : ∃ a c, v2 = .slice a ys.length c := by
  rcases h2 with ⟨a, rfl, rfl⟩ | ⟨b, off, cap, rfl, _⟩
  ·exact ⟨a, 0, rfl⟩
  ·exact ⟨_, cap, rfl⟩
 by_cases hne : xs.length = ys.length
 ·by_cases h0 : xs.length = 0
  ·have hx : xs = [] := List.length_eq_zero_iff.1 h0
   have hy : ys = [] := List.length_eq_zero_iff.1 (by omega)
   subst hx hy
   rw [e1, e2]
   exact eq49_zero a1 a2 c1 c2 w
  ·rcases h1 with ⟨a, _, hx⟩ | ⟨b, off, cap, rfl, hx⟩
   ·rw [hx] at h0; exact absurd rfl h0
   ·rcases h2 with ⟨a, _, hy⟩ | ⟨b', off', cap', rfl, hy⟩
    ·rw [hy] at hne; exact absurd hne h0
    ·have := eq49 b off cap b' off' cap' xs ys xs.length w hx hy l1' rfl hne.symm
     rw [hne] at this ⊢
     exact this
 ·rw [e1, e2]
  have : decide (xs = ys) = false := decide_eq_false fun e => hne (by rw [e])
  rw [this]
  exact eq49_len a1 a2 _ _ c1 c2 w (by omega) l1' l2'
end Go.V.W
set_option linter.unusedVariables false
set_option linter.unusedSimpArgs false
namespace Go.V.W
open Go.Proofs Go.RowKit Go.Shelf Go.Lib Go.Sort
def kpB (key : Nat → List Int) (j : Nat) : Bool := j == 0 || !decide (key j = key (j - 1))
def keepI (key : Nat → List Int) (m : Nat) : List Nat := (List.range m).filter (kpB key)
theorem keepI_succ (key : Nat → List Int) (m : Nat) : keepI key (m + 1) = if kpB key m = true then keepI key m ++ [m] else keepI key m := by
 unfold keepI
 rw [List.range_succ, List.filter_append]
 cases h : kpB key m <;> simp [h]
theorem keepI_all {key : Nat → List Int} : ∀ {m : Nat}, (∀ j, j < m → kpB key j = true) → keepI key m = List.range m := by
 intro m h
 unfold keepI
 exact List.filter_eq_self.2 fun j hj => h j (List.mem_range.1 hj)
theorem keepI_le (key : Nat → List Int) (m : Nat) : (keepI key m).length ≤ m := by
 have := List.length_filter_le (kpB key) (List.range m)
 rw [List.length_range] at this
 exact this
structure CInv (key : Nat → List Int) (n m k : Nat) (dk : Array Nat) : Prop where
 size : dk.size = n
 len : (keepI key m).length = k
 lt : k < m
 low : ∀ j, j < k → (keepI key m)[j]? = some dk[j]!
 high : ∀ j, k ≤ j → j < n → dk[j]! = j
theorem range_get {n j : Nat} (h : j < n) : (Array.range n)[j]! = j := by
 rw [getElem!_pos (Array.range n) j (by simpa using h)]
 simp
theorem CInv.start {key : Nat → List Int} {n k0 : Nat} (hk : k0 < n) (hall : ∀ j, j < k0 → kpB key j = true) (hdup : kpB key k0 = false) : CInv key n (k0 + 1) k0 (Array.range n) := by
 have e : keepI key (k0 + 1) = List.range k0 := by rw [keepI_succ, hdup, keepI_all hall]; rfl
 refine ⟨by simp, by rw [e]; simp, Nat.lt_succ_self _, fun j hj => ?_, fun j _ hj => range_get hj⟩
 rw [e, range_get (by omega)]
 simp [hj]
theorem CInv.keep {key : Nat → List Int} {n m k : Nat} {dk : Array Nat} (h : CInv key n m k dk) (hm : m < n) (hk : kpB key m = true) : CInv key n (m + 1) (k + 1) (dk.setIfInBounds k m) := by
 have hs := h.size
 have hl := h.len
 have hlt := h.lt
 have hs2 : (dk.setIfInBounds k m).size = n := by simp [hs]
 have e : keepI key (m + 1) = keepI key m ++ [m] := by rw [keepI_succ, hk]; rfl
 refine ⟨by simp [hs], by rw [e]; simp [hl], by omega, fun j hj => ?_, fun j h1 h2 => ?_⟩
 ·rw [e]
  by_cases hj2 : j < k
  ·rw [List.getElem?_append_left (by omega), h.low j hj2]
   rw [getElem!_pos (dk.setIfInBounds k m) j (by omega), getElem!_pos dk j (by omega), Array.getElem_setIfInBounds (by omega), if_neg (by omega)]
  ·have : j = k := by omega
   subst this
   rw [List.getElem?_append_right (by omega), hl, Nat.sub_self]
   rw [getElem!_pos (dk.setIfInBounds j m) j (by omega), Array.getElem_setIfInBounds (by omega), if_pos rfl]
   rfl
 ·rw [getElem!_pos (dk.setIfInBounds k m) j (by omega), Array.getElem_setIfInBounds (by omega), if_neg (by omega), ← getElem!_pos dk j (by omega)]
  exact h.high j (by omega) h2
theorem CInv.skip {key : Nat → List Int} {n m k : Nat} {dk : Array Nat} (h : CInv key n m k dk) (hk : kpB key m = false) : CInv key n (m + 1) k dk := by
 have e : keepI key (m + 1) = keepI key m := by rw [keepI_succ, hk]; rfl
 have := h.lt
 exact ⟨h.size, by rw [e]; exact h.len, by omega, by rw [e]; exact h.low, h.high⟩
end Go.V.W
set_option linter.unusedVariables false
set_option linter.unusedSimpArgs false
namespace Go.V.W
open Go.Proofs Go.RowKit Go.Shelf Go.Lib Go.Sort
theorem CInv.done {key : Nat → List Int} {n k : Nat} {dk : Array Nat} (h : CInv key n n k dk) (z : Nat) : lay dk k (List.replicate (n - k) z) = (keepI key n ++ List.replicate (n - k) z).toArray := by
 have hk := h.lt
 have hs := h.size
 have hl := h.len
 apply Array.ext_getElem?
 intro i
 rw [lay_get? _ _ _ _ (by simp; omega)]
 simp only [List.length_replicate, List.getElem?_toArray]
 by_cases h1 : i < k
 ·rw [if_neg (by omega), List.getElem?_append_left (by omega), h.low i h1, getElem!_pos dk i (by omega)]
  exact Array.getElem?_eq_getElem (by omega)
 ·rw [List.getElem?_append_right (by omega), hl]
  by_cases h2 : i < n
  ·rw [if_pos (by omega)]
  ·rw [if_neg (by omega), Array.getElem?_eq_none (by omega), List.getElem?_eq_none (by simp; omega)]
theorem kp_one (key : Nat → List Int) : ∀ j, j < 1 → kpB key j = true := fun j hj => by
 have : j = 0 := by omega
 subst this
 rfl
set_option maxHeartbeats 8000000 in
set_option maxRecDepth 1000000 in
theorem compact74 (enc : Nat → Value) (key : Nat → List Int) (blk off cap n : Nat) (w : World) (henc : Aside (∀ i, ∃ a l c, enc i = .slice a l c)) (hz : Aside (enc n = .slice none 0 0))
  (hH : Go.Sort.Holds enc w blk off (Array.range n)) (hn : n ≤ 1099511627776) (hcap : n ≤ cap) (h2 : 2 ≤ n)
  (heq : Aside (∀ (q : Nat) (dk : Array Nat), dk.size = n → ∀ i j, i < n → j < n → Calls Tryz.prog 92 #[enc i, enc j] (putRow enc (Sort.ahead w q) blk off dk) fun e w' => e = .returned (.bool (decide (key i = key j))) ∧ ∃ q', w' = (putRow enc (Sort.ahead w q) blk off dk).drewN q')) :
  Calls Tryz.prog 123 #[.slice (some ⟨blk, off, none⟩) n cap, .func (.func 92) #[] #[]] w fun e w' => e = .returned (.slice (some ⟨blk, off, none⟩) (keepI key n).length cap) ∧ ∃ q, w' = putRow enc (Sort.ahead w q) blk off (keepI key n ++ List.replicate (n - (keepI key n).length) n).toArray := by
 have mixed : Tryz.prog.follows .mixedOrders = true := by kernel_rfl
 have hsr : (Array.range n).size = n := by simp
 have HH : Aside (Go.Sort.Holds enc w blk off (Array.range n)) := hH
 have e49 : ∀ (args : Array Value) (w : World), (callFunc 92 args).run Tryz.prog w = .ok (.enter 92 args) w := enters_of Tryz.func92 (by kernel_rfl) rfl
 clear hH
 go_enter Tryz.func123, Tryz.ntmps123
 go_wp2
 go_loopg [5] n (fun g s5 wr => ∃ k q : Nat, 1 ≤ k ∧ k ≤ n ∧ n - k ≤ g ∧ s5 = .int .i64 k ∧ wr = w.drewN q ∧ Aside (∀ j, j < k → kpB key j = true))
 case atStart => exact ⟨1, 0, Nat.le_refl _, by omega, by omega, rfl, rfl, kp_one key⟩
 case round =>
  obtain ⟨k, q, hk1, hk, hg, rfl, hwr, A⟩ := hrel
  have HW : Aside (wr = w.drewN q) := hwr
  clear hwr
  by_cases hlt : k < n
  ·obtain ⟨a1, l1, c1, ek⟩ := henc.out k
   obtain ⟨a0, l0, c0, ek0⟩ := henc.out (k - 1)
   obtain ⟨kp, hkp⟩ : ∃ p, p + 1 = k := ⟨k - 1, by omega⟩
   obtain ⟨iN, hiN⟩ : ∃ p, p = k := ⟨_, rfl⟩
   obtain ⟨jN, hjN⟩ : ∃ p, p = k - 1 := ⟨_, rfl⟩
   have zk : (k : Int) = (kp : Int) + 1 := by omega
   have ea : ((kp : Int) + 1).toNat = iN := by omega
   have pa : (0 : Int) ≤ (kp : Int) + 1 := by omega
   have ba : (kp : Int) + 1 < (n : Int) := by omega
   have ra : IntKind.i64.wrap ((kp : Int) + 1) = (kp : Int) + 1 := by rw [IntKind.wrap_i64]; omega
   have ec : ((kp : Int)).toNat = jN := by omega
   have pc : (0 : Int) ≤ (kp : Int) := by omega
   have bc : (kp : Int) < (n : Int) := by omega
   have rc : IntKind.i64.wrap ((kp : Int)) = (kp : Int) := by rw [IntKind.wrap_i64]; omega
   have hc1 : wr.cell? ⟨blk, off + iN, none⟩ = some (.slice a1 l1 c1) := by
    have := (HH.out k (by rw [hsr]; exact hlt)).1
    rw [range_get hlt, ek] at this
    rw [hiN, HW.out]
    exact this
   have hc0 : wr.cell? ⟨blk, off + jN, none⟩ = some (.slice a0 l0 c0) := by
    have := (HH.out (k - 1) (by rw [hsr]; omega)).1
    rw [range_get (by omega), ek0] at this
    rw [hjN, HW.out]
    exact this
   have hcall : ∀ m, Calls Tryz.prog 92 #[.slice a1 l1 c1, .slice a0 l0 c0] (wr.drewN m) fun e w' => e = .returned (.bool (decide (key k = key (k - 1)))) ∧ ∃ q', w' = (wr.drewN m).drewN q' := fun m => by
    have := heq.out (q + m) (Array.range n) hsr k (k - 1) hlt (by omega)
    rw [putRow_self enc (Sort.ahead w (q + m)) blk off _ (holds_ahead enc w (q + m) blk off _ HH.out), ek, ek0] at this
    rw [HW.out, World.drewN_drewN]
    exact this
   by_cases hdup : key k = key (k - 1)
   ·have hb : decide (key k = key (k - 1)) = true := decide_eq_true hdup
    rw [hb] at hcall
    have D : Aside (kpB key k = false) := by
     show _ = _
     unfold kpB
     have : (k == 0) = false := by simp; omega
     rw [this, hb]; rfl
    have IN : Aside (iN = k) := hiN
    clear hdup hb ek ek0 hiN hjN
    go_wp2_with fail
    go_quiet_o (first | (go_at_fn 92; refine Calls.quiet_of (hcall _)))
    clear hcall hc1 hc0
    go_wp2
    go_loopg [5, 7] n (fun g s5 s7 w2 => ∃ (kk k2 q2 : Nat) (dk : Array Nat), s5 = .int .i64 kk ∧ s7 = .int .i64 k2 ∧ 1 ≤ k2 ∧ k + k2 ≤ n ∧ n - (k + k2) ≤ g ∧ Aside (w2 = putRow enc (Sort.ahead w q2) blk off dk) ∧ Aside (CInv key n (k + k2) kk dk))
    case atStart =>
     refine ⟨k, 1, q + nq, Array.range n, by rw [zk], rfl, Nat.le_refl _, by omega, by omega, ?_, CInv.start hlt A.out D.out⟩
     show _ = _
     rw [HW.out, World.drewN_drewN]
     exact (putRow_self enc (Sort.ahead w (q + nq)) blk off _ (holds_ahead enc w (q + nq) blk off _ HH.out)).symm
    case round =>
     obtain ⟨kk, k2, q2, dk, rfl, rfl, h1, hle, hg2, W2, I2⟩ := hrel
     have hkk := I2.out.lt
     have hds := I2.out.size
     have HK : Aside (Go.Sort.Holds enc wr blk off dk) := by
      show Go.Sort.Holds _ _ _ _ _
      rw [W2.out]
      exact holds_putRow enc _ blk off _ dk (holds_ahead enc w q2 blk off _ HH.out) (by rw [hds, hsr])
     clear ea pa ba ra ec pc bc rc
     by_cases hlt2 : k + k2 < n
     ·obtain ⟨a1, l1, c1, ek⟩ := henc.out (k + k2)
      obtain ⟨a0, l0, c0, ek0⟩ := henc.out (k + k2 - 1)
      obtain ⟨old, hold⟩ : ∃ v, v = enc dk[kk]! := ⟨_, rfl⟩
      obtain ⟨p2, hp2⟩ : ∃ p, p + 1 = k2 := ⟨k2 - 1, by omega⟩
      obtain ⟨iM, hiM⟩ : ∃ p, p = k2 := ⟨_, rfl⟩
      obtain ⟨jM, hjM⟩ : ∃ p, p = k2 - 1 := ⟨_, rfl⟩
      have zk2 : (k2 : Int) = (p2 : Int) + 1 := by omega
      have ea : ((p2 : Int) + 1).toNat = iM := by omega
      have pa : (0 : Int) ≤ (p2 : Int) + 1 := by omega
      have ra : IntKind.i64.wrap ((p2 : Int) + 1) = (p2 : Int) + 1 := by rw [IntKind.wrap_i64]; omega
      have ec : ((p2 : Int)).toNat = jM := by omega
      have pc : (0 : Int) ≤ (p2 : Int) := by omega
      have rc : IntKind.i64.wrap ((p2 : Int)) = (p2 : Int) := by rw [IntKind.wrap_i64]; omega
      have ba : (p2 : Int) + 1 < ((n - iN : Nat) : Int) := by have := IN.out; omega
      have bc : (p2 : Int) < ((n - iN : Nat) : Int) := by have := IN.out; omega
      have hc1 : wr.cell? ⟨blk, off + iN + iM, none⟩ = some (.slice a1 l1 c1) := by
       have := (HK.out (k + k2) (by omega)).1
       rw [I2.out.high (k + k2) (by omega) hlt2, ek] at this
       rw [hiM, IN.out, Nat.add_assoc]
       exact this
      have hc0 : wr.cell? ⟨blk, off + iN + jM, none⟩ = some (.slice a0 l0 c0) := by
       have := (HK.out (k + k2 - 1) (by omega)).1
       rw [I2.out.high (k + k2 - 1) (by omega) (by omega), ek0] at this
       rw [hjM, IN.out, show off + k + (k2 - 1) = off + (k + k2 - 1) by omega]
       exact this
      have hck : wr.cell? ⟨blk, off + kk, none⟩ = some old := by
       rw [hold]
       exact (HK.out kk (by omega)).1
      have hfk : wr.frozen? ⟨blk, off + kk, none⟩ = false := (HK.out kk (by omega)).2
      have hcall : ∀ m, Calls Tryz.prog 92 #[.slice a1 l1 c1, .slice a0 l0 c0] (wr.drewN m) fun e w' => e = .returned (.bool (decide (key (k + k2) = key (k + k2 - 1)))) ∧ ∃ q', w' = (wr.drewN m).drewN q' := fun m => by
       have := heq.out (q2 + m) dk hds (k + k2) (k + k2 - 1) hlt2 (by omega)
       have e : wr.drewN m = putRow enc (Sort.ahead w (q2 + m)) blk off dk := by rw [W2.out]; exact putRow_drewN _ _ _ _ _ _ _
       rw [ek, ek0, ← e] at this
       exact this
      have IM : Aside (iM = k2) := hiM
      have EK : Aside (enc (k + k2) = .slice a1 l1 c1) := ek
      by_cases hdup : key (k + k2) = key (k + k2 - 1)
      ·have hb : decide (key (k + k2) = key (k + k2 - 1)) = true := decide_eq_true hdup
       rw [hb] at hcall
       have D2 : Aside (kpB key (k + k2) = false) := by
        show _ = _
        unfold kpB
        have : (k + k2 == 0) = false := by simp; omega
        rw [this, hb]; rfl
       clear hdup hb ek ek0 hiM hjM hold
       go_wp2_with fail
       go_quiet_o (first | (go_at_fn 92; refine Calls.quiet_of (hcall _)))
       clear hcall hc1 hc0
       go_wp2
       go_roundg (n - (k + (k2 + 1)))
       case measure => omega
       case rel => exact ⟨kk, k2 + 1, q2 + nq, dk, rfl, by congr 1; omega, by omega, by omega, Nat.le_refl _, (by show _ = _; rw [W2.out]; exact putRow_drewN _ _ _ _ _ _ _), I2.out.skip D2.out⟩
      ·have hb : decide (key (k + k2) = key (k + k2 - 1)) = false := decide_eq_false hdup
       rw [hb] at hcall
       have D2 : Aside (kpB key (k + k2) = true) := by
        show _ = _
        unfold kpB
        rw [hb]; simp
       clear hdup hb ek ek0 hiM hjM hold
       go_wp2_with fail
       go_quiet_o (first | (go_at_fn 92; refine Calls.quiet_of (hcall _)))
       clear hcall
       go_wp2
       go_roundg (n - (k + (k2 + 1)))
       case measure => omega
       case rel =>
        refine ⟨kk + 1, k2 + 1, q2 + nq, dk.setIfInBounds kk (k + k2), by first | rfl | (congr 1; omega), by first | rfl | (congr 1; omega), by omega, by omega, Nat.le_refl _, ?_, I2.out.keep hlt2 D2.out⟩
        show _ = _
        rw [← putRow_set enc _ blk off dk kk (k + k2) (by omega), EK.out, ← putRow_drewN, ← W2.out]
     ·have hend : k + k2 = n := by omega
      have hcl : ∀ ty, (Builtin.clear_ #[25] ty #[.slice (some ⟨blk, off + kk, none⟩) (n - kk) (cap - kk)]).run Tryz.prog wr = .ok (.tuple #[]) (wr.setCells blk (off + kk) (List.replicate (n - kk) (enc n))) := fun ty => by
       rw [hz.out]
       exact Lib.run_clear_slice wr 25 37 ty _ Tryz.underlying25 (fun w => by rfl) rfl rfl blk (off + kk) _ _ (by omega) (fun j hj => by rw [show off + kk + j = off + (kk + j) by omega, (HK.out (kk + j) (by omega)).1]; rfl) (fun j hj => by rw [show off + kk + j = off + (kk + j) by omega]; exact (HK.out (kk + j) (by omega)).2)
      have hge : ¬ k2 < n - iN := by have := IN.out; omega
      have hge2 : ¬ (k2 : Int) < ((n - iN : Nat) : Int) := by omega
      go_wp2
      go_ret
      have hI := I2.out
      rw [hend] at hI
      refine ⟨by rw [hI.len]; rfl, q2, ?_⟩
      rw [hI.len, ← hI.done n, ← putRow_setCells enc _ blk off _ dk kk (by simp; omega), ← W2.out, List.map_replicate]
   ·have hb : decide (key k = key (k - 1)) = false := decide_eq_false hdup
    rw [hb] at hcall
    have D : Aside (kpB key k = true) := by
     show _ = _
     unfold kpB
     rw [hb]; simp
    clear hdup hb ek ek0 hiN hjN
    go_wp2_with fail
    go_quiet_o (first | (go_at_fn 92; refine Calls.quiet_of (hcall _)))
    clear hcall hc1 hc0
    go_wp2
    go_roundg (n - (k + 1))
    case measure => omega
    case rel =>
     refine ⟨k + 1, q + nq, by omega, by omega, Nat.le_refl _, by congr 1; omega, by rw [HW.out, World.drewN_drewN], fun j hj => ?_⟩
     by_cases e : j = k
     ·subst e
      exact D.out
     ·exact A.out j (by omega)
  ·have : k = n := by omega
   subst this
   go_wp2
   go_ret
   have e := keepI_all A.out
   have el : (keepI key k).length = k := by rw [e]; simp
   refine ⟨by rw [el]; rfl, q, ?_⟩
   rw [el, e, Nat.sub_self, List.replicate_zero, List.append_nil, HW.out]
   have e2 : (List.range k).toArray = Array.range k := by simp
   rw [e2]
   exact (putRow_self enc (Sort.ahead w q) blk off _ (holds_ahead enc w q blk off _ HH.out)).symm
set_option maxRecDepth 1000000 in
theorem compact74_small (p : Option Addr) (n cap : Nat) (fv : Value) (w : World) (h : n < 2) : Calls Tryz.prog 123 #[.slice p n cap, fv] w fun e w' => e = .returned (.slice p n cap) ∧ w' = w := by
 have hn : (n : Int) < 2 := by omega
 go_enter Tryz.func123, Tryz.ntmps123
 go_wp2
 go_ret
 exact ⟨rfl, rfl⟩
end Go.V.W
set_option linter.unusedVariables false
set_option linter.unusedSimpArgs false
namespace Go.V.W
open Go.RowKit Go.Proofs Go.Lib
open Go.Sort (grow putRow mapBlock putCells onCells)
def keyL (xss : List (List Int)) (j : Nat) : List Int := xss.getD j []
def compL (xss : List (List Int)) : List (List Int) := (keepI (keyL xss) xss.length).map (keyL xss)
def G_compactF (d : List (List Int) × (Unit × Unit) × Unit) : Option (List (List Int) × List (List Int) × Unit) := if okLL d.1 = true then some (compL d.1, d.1, ()) else none
theorem compL_short {xss : List (List Int)} (h : xss.length < 2) : compL xss = xss := by
 match xss, h with
 | [], _ => rfl
 | [x], _ => rfl
theorem keepI_pair (key : Nat → List Int) (n : Nat) : (keepI key n).Pairwise (· ≠ ·) := by
 unfold keepI
 exact List.Pairwise.filter _ (List.Pairwise.imp (fun h => by omega) List.pairwise_lt_range)
open Classical in
noncomputable def keptAt (l : List Nat) (j : Nat) : Option Nat := if h : ∃ i, ∃ hi : i < l.length, l[i] = j then some h.choose else none
theorem keptAt_get {l : List Nat} (hp : l.Pairwise (· ≠ ·)) {i : Nat} (hi : i < l.length) : keptAt l l[i] = some i := by
 have h : ∃ k, ∃ hk : k < l.length, l[k] = l[i] := ⟨i, hi, rfl⟩
 unfold keptAt
 rw [dif_pos h]
 obtain ⟨h1, h2⟩ := h.choose_spec
 congr 1
 rw [List.pairwise_iff_getElem] at hp
 rcases Nat.lt_trichotomy h.choose i with h' | h' | h'
 ·exact absurd h2 (hp _ _ h1 hi h')
 ·exact h'
 ·exact absurd h2.symm (hp _ _ hi h1 h')
noncomputable def compLab (l : List Nat) : Nat × Path → Option Lab
 | (0, []) => some (.res [.l])
 | (0, [.i j]) => (keptAt l j).map fun i => .res [.l, .i i]
 | (0, _) => none
 | (i, q) => some (.io i q)
theorem con_compactF {P : Program} {f g : FuncId} (he : ∀ (args : Array Value) (w : World), (callFunc f args).run P w = .ok (.enter f args) w)
  (hc : ∀ (w : World) (v1 v2 : Value) (xs ys : List Int), Hdr w v1 xs → Hdr w v2 ys → xs.length ≤ lim → ys.length ≤ lim → Calls P g #[v1, v2] w fun e w' => e = .returned (.bool (decide (xs = ys))) ∧ ∃ q, w' = w.drewN q)
  (h : ∀ (enc : Nat → Value) (key : Nat → List Int) (blk off cap n : Nat) (w : World), Aside (∀ i, ∃ a l c, enc i = .slice a l c) → Aside (enc n = .slice none 0 0) → Go.Sort.Holds enc w blk off (Array.range n) → n ≤ 1099511627776 → n ≤ cap → 2 ≤ n →
   Aside (∀ (q : Nat) (dk : Array Nat), dk.size = n → ∀ i j, i < n → j < n → Calls P g #[enc i, enc j] (putRow enc (Go.Sort.ahead w q) blk off dk) fun e w' => e = .returned (.bool (decide (key i = key j))) ∧ ∃ q', w' = (putRow enc (Go.Sort.ahead w q) blk off dk).drewN q') →
   Calls P f #[.slice (some ⟨blk, off, none⟩) n cap, .func (.func g) #[] #[]] w fun e w' => e = .returned (.slice (some ⟨blk, off, none⟩) (keepI key n).length cap) ∧ ∃ q, w' = putRow enc (Go.Sort.ahead w q) blk off (keepI key n ++ List.replicate (n - (keepI key n).length) n).toArray)
  (h0 : ∀ (p : Option Addr) (n cap : Nat) (fv : Value) (w : World), n < 2 → Calls P f #[.slice p n cap, fv] w fun e w' => e = .returned (.slice p n cap) ∧ w' = w) :
  ContractG P f (⟨[(kSS, true), (.clo g .unit .unit, false)], [kSS], true, G_compactF⟩, { gone := [0], deep := [] }) := by
 intro w ψ U vs d out hargs hU hψ hgl ho
 obtain ⟨xss, fv, u⟩ := d
 have ho : G_compactF (xss, fv, u) = some out := ho
 unfold G_compactF at ho
 split at ho
 case isFalse => cases ho
 rename_i hl
 have hl : (okL xss && xss.all okL) = true := hl
 simp only [Bool.and_eq_true] at hl
 obtain ⟨hl, hal⟩ := hl
 have hl : xss.length ≤ lim := of_decide_eq_true hl
 have hal : ∀ x ∈ xss, x.length ≤ lim := fun x hx => of_decide_eq_true (List.all_eq_true.1 hal x hx)
 obtain rfl := Option.some.inj ho
 obtain ⟨c1, r1, rfl, k2, c2, r2, rfl, k3, k5⟩ := hargs
 have k5 : r2 = [] := k5
 subst k5
 have hfv : mkVal (.clo g .unit .unit) c2 = .func (.func g) #[] #[] := by
  obtain ⟨a1, a2, e, _⟩ := (show Rep w _ (.clo g .unit .unit) [] c2 fv from k3)
  rw [e]
  rfl
 rw [hfv]
 have k2 : Rep w (fun q b => ψ b = some (0, q)) kSS [] c1 xss := k2
 have k2' := k2
 rw [Rep] at k2
 by_cases hsm : xss.length < 2
 ·-- nothing to cut
  obtain ⟨p, cap, e⟩ : ∃ p cap, c1 = [.slice p xss.length cap] := by
   rcases k2 with ⟨⟨a, e⟩, hz⟩ | ⟨b, off, cap, e, _⟩
   ·have hz : xss = [] := hz
    rw [hz]
    exact ⟨a, 0, e⟩
   ·exact ⟨_, cap, e⟩
  unfold CallsTo
  rw [e, show (mkVal kSS [Value.slice p xss.length cap] :: [Value.func (.func g) #[] #[]]).toArray = #[.slice p xss.length cap, .func (.func g) #[] #[]] from rfl, he]
  refine Calls.mono (h0 p xss.length cap _ w hsm) fun v w' hh => ?_
  obtain ⟨rfl, rfl⟩ := hh
  refine ⟨fun b => match ψ b with | some (0, q) => some (.res (.l :: q)) | some (i, q) => some (.io i q) | none => none, ⟨rfl, rfl, rfl, Nat.le_refl _, fun _ _ _ => rfl, fun b z hz => ?_, ⟨[.slice p xss.length cap], rfl, ?_⟩, ⟨fun h => (by cases h), trivial⟩, fun _ _ k hk => (by cases hk)⟩⟩
  ·cases hb : ψ b with
   | none => rw [hb] at hz; cases hz
   | some y => exact ⟨.inr (by simp), hψ b y hb⟩
  ·show Rep _ _ (.pair kSS .unit) [] [.slice p xss.length cap] (compL xss, ())
   rw [compL_short hsm]
   refine ⟨?_, rfl⟩
   show Rep _ _ kSS [.l] [.slice p xss.length cap] xss
   rw [e] at k2
   rw [Rep]
   rcases k2 with hz | ⟨b, off, cap', e', kc, kS, kb, ke⟩
   ·exact .inl hz
   ·refine .inr ⟨b, off, cap', e', kc, ?_, kb, fun i hi => ?_⟩
    ·show (match ψ b with | some (0, q) => some (Lab.res (.l :: q)) | some (i, q) => some (.io i q) | none => none) = some (.res [.l])
     rw [kS]
     rfl
    ·have hj := ke i hi
     obtain ⟨v, hv⟩ : ∃ v, cellsAt w' b (off + i * (Kd.slice (.int .i64)).size) (Kd.slice (.int .i64)).size = [v] := by
      have := hj.length
      match hcl : cellsAt w' b (off + i * (Kd.slice (.int .i64)).size) (Kd.slice (.int .i64)).size, this with
      | [v], _ => exact ⟨v, rfl⟩
     rw [hv] at hj ⊢
     refine rep_move hj fun b' hb' => ⟨rfl, ?_⟩
     show (match ψ b' with | some (0, q) => some (Lab.res (.l :: q)) | some (i, q) => some (.io i q) | none => none) = some (.res ([.l] ++ [.i i]))
     have hb' : ψ b' = some (0, [.i i]) := hb'
     rw [hb']
     rfl
 ·rcases k2 with ⟨_, hz⟩ | ⟨b, off, cap, e, kc, kS, kb, ke⟩
  ·have hz : xss = [] := hz
   rw [hz] at hsm
   exact absurd (show [].length < 2 by simp) hsm
  have kS : ψ b = some (0, []) := kS
  obtain ⟨cs, T, fr, hrow, hthaw⟩ := hψ b _ kS
  obtain ⟨cs2, T2, fr2, hrow2, hfit⟩ := kb
  rw [hrow] at hrow2
  injection hrow2 with hrow2
  injection hrow2 with e1 e2 e3
  subst e1 e2 e3
  simp only [Kd.size, Nat.mul_one] at hfit
  obtain ⟨n, hn⟩ : ∃ n, xss.length = n := ⟨_, rfl⟩
  rw [hn] at kc hsm
  have hlt : ∀ j, j < n → off + j < cs.size := fun j hj => by omega
  have hel : ∀ j (hj : j < n), Rep w (fun q b => ψ b = some (0, q)) (.slice (.int .i64)) [.i j] [cs[off + j]'(hlt j hj)] (keyL xss j) := fun j hj => by
   have hj' : j < xss.length := by omega
   have := ke j hj'
   simp only [Kd.size, Nat.mul_one, List.nil_append] at this
   unfold cellsAt at this
   rw [hrow] at this
   have e : (cs.toList.drop (off + j)).take 1 = [cs[off + j]'(hlt j hj)] := by
    rw [List.drop_eq_getElem_cons (by simpa using hlt j hj), List.take_succ_cons, List.take_zero, Array.getElem_toList]
   simp only at this
   rw [e] at this
   have e2 : keyL xss j = xss.get ⟨j, hj'⟩ := by simp [keyL, List.getD_eq_getElem?_getD, hj']
   rw [e2]
   exact this
  have hb := (Array.getElem?_eq_some_iff.1 hrow).1
  let enc : Nat → Value := fun j => if hj : j < n then cs[off + j]'(hlt j hj) else .slice none 0 0
  have henc : ∀ j (hj : j < n), enc j = cs[off + j]'(hlt j hj) := fun j hj => dif_pos hj
  have hsl : Aside (∀ i, ∃ a l c, enc i = .slice a l c) := fun i => by
   by_cases hi : i < n
   ·rw [henc i hi]
    have := hel i hi
    rw [Rep] at this
    rcases this with ⟨⟨a, e⟩, _⟩ | ⟨b', o', c', e, _⟩
    ·exact ⟨_, _, _, (List.cons.inj e).1⟩
    ·exact ⟨_, _, _, (List.cons.inj e).1⟩
   ·exact ⟨none, 0, 0, dif_neg hi⟩
  have hneb : ∀ j b', ψ b' = some (0, [.i j]) → b' ≠ b := fun j b' h1 e => by
   subst e
   rw [kS] at h1
   cases h1
  have hother' : ∀ (m : Nat) (dk : Array Nat) (k : Nat), k < w.heap.size → k ≠ b → (putRow enc (Go.Sort.ahead w m) b off dk).heap[k]? = w.heap[k]? := fun m dk k hk hne => by
   rw [putRowV_else hne]
   rfl
  have hH : Go.Sort.Holds enc w b off (Array.range n) := fun j hj => by
   have hj' : j < n := by simpa using hj
   rw [range_get hj', henc j hj']
   constructor
   ·unfold World.cell?
    rw [hrow]
    simp [hlt j hj']
   ·unfold World.frozen?
    rw [hrow]
    obtain ⟨f1, f2⟩ := fr
    have := hlt j hj'
    simp only at hthaw
    simp
    omega
  have hcmp : Aside (∀ (q : Nat) (dk : Array Nat), dk.size = n → ∀ i j, i < n → j < n → Calls P g #[enc i, enc j] (putRow enc (Go.Sort.ahead w q) b off dk) fun e w' => e = .returned (.bool (decide (keyL xss i = keyL xss j))) ∧ ∃ q', w' = (putRow enc (Go.Sort.ahead w q) b off dk).drewN q') := fun q dk hs i j hi hj => by
   have hh : ∀ z (hz : z < n), Hdr (putRow enc (Go.Sort.ahead w q) b off dk) (enc z) (keyL xss z) := fun z hz => by
    rw [henc z hz]
    exact hdr_of (hel z hz) fun b' hb' => hother' q dk b' (hψ b' _ hb').lt (hneb _ _ hb')
   have hln : ∀ z, z < n → (keyL xss z).length ≤ lim := fun z hz => by
    have hz : z < xss.length := by omega
    have : keyL xss z = xss[z] := by simp [keyL, List.getD_eq_getElem?_getD, hz]
    rw [this]
    exact hal _ (List.getElem_mem hz)
   exact hc _ _ _ _ _ (hh i hi) (hh j hj) (hln i hi) (hln j hj)
  have hcall := h enc (keyL xss) b off cap n w hsl (dif_neg (Nat.lt_irrefl n)) hH (by unfold lim at hl; omega) kc (by omega) hcmp
  unfold CallsTo
  rw [e, hn, show (mkVal kSS [Value.slice (some ⟨b, off, none⟩) n cap] :: [Value.func (.func g) #[] #[]]).toArray = #[.slice (some ⟨b, off, none⟩) n cap, .func (.func g) #[] #[]] from rfl, he]
  refine Calls.mono hcall fun v w' hh => ?_
  obtain ⟨rfl, m, rfl⟩ := hh
  have hother := hother' m (keepI (keyL xss) n ++ List.replicate (n - (keepI (keyL xss) n).length) n).toArray
  have hkl := keepI_le (keyL xss) n
  have hnew : (putRow enc (Go.Sort.ahead w m) b off (keepI (keyL xss) n ++ List.replicate (n - (keepI (keyL xss) n).length) n).toArray).heap[b]? = some (.cells (putCells enc off (keepI (keyL xss) n ++ List.replicate (n - (keepI (keyL xss) n).length) n).toArray cs) T fr) := putRowV_at (w := Go.Sort.ahead w m) hrow
  generalize hD : (keepI (keyL xss) n ++ List.replicate (n - (keepI (keyL xss) n).length) n).toArray = D at hother hnew
  have hDs : D.size = n := by rw [← hD]; simp; omega
  have hps : (putCells enc off D cs).size = cs.size := by simp [putCells]
  have hsz : (putRow enc (Go.Sort.ahead w m) b off D).heap.size = w.heap.size := by simp [putRow, mapBlock]
  refine ⟨fun b => match ψ b with | some z => compLab (keepI (keyL xss) n) z | none => none, ⟨rfl, rfl, rfl, by rw [hsz]; exact Nat.le_refl _, fun k hk hn => ?_, fun k z hz => ?_, ⟨[.slice (some ⟨b, off, none⟩) (keepI (keyL xss) n).length cap], rfl, ?_⟩, ⟨fun h => (by cases h), trivial⟩, fun _ _ k hk => (by cases hk)⟩⟩
  ·exact hother k hk (fun e => by subst e; rw [kS] at hn; cases hn)
  ·cases hk : ψ k with
   | none => rw [hk] at hz; cases hz
   | some y =>
    refine ⟨.inr (by simp), ?_⟩
    by_cases e : k = b
    ·subst e
     exact ⟨_, T, fr, hnew, hthaw.imp (fun h => h) fun h => by rw [hps]; exact h⟩
    ·exact (hψ k y hk).same (hother k (hψ k y hk).lt e)
  ·show Rep _ _ (.pair kSS .unit) [] [.slice (some ⟨b, off, none⟩) (keepI (keyL xss) n).length cap] (compL xss, ())
   refine ⟨?_, rfl⟩
   show Rep _ _ kSS [.l] [.slice (some ⟨b, off, none⟩) (keepI (keyL xss) n).length cap] (compL xss)
   have hlen : (compL xss).length = (keepI (keyL xss) n).length := by unfold compL; rw [List.length_map, hn]
   rw [Rep]
   refine .inr ⟨b, off, cap, by rw [hlen], by rw [hlen]; omega, ?_, ⟨_, T, fr, hnew, ?_⟩, fun i hi => ?_⟩
   ·show (match ψ b with | some z => compLab (keepI (keyL xss) n) z | none => none) = some (.res [.l])
    rw [kS]
    rfl
   ·simp only [Kd.size, Nat.mul_one]
    rw [hps]
    exact hfit
   ·have hi1 : i < (keepI (keyL xss) n).length := by rw [← hlen]; exact hi
    have hjn : (keepI (keyL xss) n)[i] < n := by
     have := List.mem_filter.1 (List.getElem_mem hi1)
     exact List.mem_range.1 this.1
    have hDi : D[i]! = (keepI (keyL xss) n)[i] := by
     rw [← hD, getElem!_pos _ i (by simp; omega)]
     simp [List.getElem_append, hi1]
    have ecell : cellsAt (putRow enc (Go.Sort.ahead w m) b off D) b (off + i * (Kd.slice (.int .i64)).size) (Kd.slice (.int .i64)).size = [enc (keepI (keyL xss) n)[i]] := by
     unfold cellsAt
     rw [hnew]
     simp only [Kd.size, Nat.mul_one]
     have hlt2 : off + i < (putCells enc off D cs).toList.length := by rw [Array.length_toList, hps]; exact hlt i (by omega)
     rw [List.drop_eq_getElem_cons hlt2, List.take_succ_cons, List.take_zero]
     congr 1
     simp only [putCells, Array.getElem_toList, Array.getElem_mapIdx]
     rw [if_pos ⟨by omega, by omega⟩, show off + i - off = i by omega, hDi]
    have edata : (compL xss).get ⟨i, hi⟩ = keyL xss (keepI (keyL xss) n)[i] := by
     have : (compL xss)[i] = keyL xss (keepI (keyL xss) n)[i] := by
      subst hn
      simp [compL]
     exact this
    rw [ecell, edata, henc _ hjn]
    refine rep_move (hel _ hjn) fun b' hb' => ⟨hother b' (hψ b' _ hb').lt (hneb _ _ hb'), ?_⟩
    show (match ψ b' with | some z => compLab (keepI (keyL xss) n) z | none => none) = some (.res ([.l] ++ [.i i]))
    have hb' : ψ b' = some (0, [.i (keepI (keyL xss) n)[i]]) := hb'
    rw [hb']
    show (keptAt (keepI (keyL xss) n) (keepI (keyL xss) n)[i]).map (fun i => Lab.res [.l, .i i]) = _
    rw [keptAt_get (keepI_pair _ _) hi1]
    rfl
end Go.V.W
set_option linter.unusedVariables false
set_option linter.unusedSimpArgs false
namespace Go.V.W
def ltL (a b : List Int) : Prop := cmpL a b < 0
theorem ltL_trans {a b c : List Int} (h1 : ltL a b) (h2 : ltL b c) : ltL a c := by
 unfold ltL at h1 h2 ⊢
 have h3 := cmpL_le (Int.le_of_lt h1) (Int.le_of_lt h2)
 rcases Int.lt_or_eq_of_le h3 with h | h
 ·exact h
 ·have e := cmpL_eq h
  rw [e, cmpL_swap b c] at h1
  omega
theorem ltL_irr (a : List Int) : ¬ ltL a a := by
 unfold ltL
 rw [cmpL_self]
 omega
theorem ltL_of_le {a b : List Int} (h : leL a b) (hne : ¬ a = b) : ltL a b := by
 unfold leL at h
 unfold ltL
 rcases Int.lt_or_eq_of_le h with h' | h'
 ·exact h'
 ·exact absurd (cmpL_eq h') hne
theorem strict_ext : ∀ {l m : List (List Int)}, l.Pairwise ltL → m.Pairwise ltL → (∀ x, x ∈ l ↔ x ∈ m) → l = m := by
 intro l
 induction l with
 | nil =>
  intro m _ _ h
  cases m with
  | nil => rfl
  | cons b m => exact absurd ((h b).2 (by simp)) (by simp)
 | cons a l ih =>
  intro m hl hm h
  cases m with
  | nil => exact absurd ((h a).1 (by simp)) (by simp)
  | cons b m =>
   rw [List.pairwise_cons] at hl hm
   have e : a = b := by
    rcases List.mem_cons.1 ((h a).1 (by simp)) with e | ha
    ·exact e
    rcases List.mem_cons.1 ((h b).2 (by simp)) with e | hb
    ·exact e.symm
    exact absurd (ltL_trans (hl.1 b hb) (hm.1 a ha)) (ltL_irr a)
   subst e
   congr 1
   refine ih hl.2 hm.2 fun x => ⟨fun hx => ?_, fun hx => ?_⟩
   ·rcases List.mem_cons.1 ((h x).1 (by simp [hx])) with e | hx'
    ·subst e
     exact absurd (hl.1 x hx) (ltL_irr x)
    ·exact hx'
   ·rcases List.mem_cons.1 ((h x).2 (by simp [hx])) with e | hx'
    ·subst e
     exact absurd (hm.1 x hx) (ltL_irr x)
    ·exact hx'
def putS (x : List Int) : List (List Int) → List (List Int)
 | [] => [x]
 | a :: l => if cmpL a x < 0 then a :: putS x l else if a = x then a :: l else x :: a :: l
theorem putS_mem {x y : List Int} : ∀ {l : List (List Int)}, y ∈ putS x l ↔ y = x ∨ y ∈ l := by
 intro l
 induction l with
 | nil => simp [putS]
 | cons a l ih =>
  unfold putS
  split
  ·simp only [List.mem_cons, ih]
   constructor
   ·rintro (h | h | h)
    ·exact .inr (.inl h)
    ·exact .inl h
    ·exact .inr (.inr h)
   ·rintro (h | h | h)
    ·exact .inr (.inl h)
    ·exact .inl h
    ·exact .inr (.inr h)
  ·split
   ·rename_i e
    subst e
    simp
   ·simp
theorem putS_strict {x : List Int} : ∀ {l : List (List Int)}, l.Pairwise ltL → (putS x l).Pairwise ltL := by
 intro l
 induction l with
 | nil => intro _; simp [putS]
 | cons a l ih =>
  intro h
  rw [List.pairwise_cons] at h
  unfold putS
  split
  ·rename_i ha
   rw [List.pairwise_cons]
   refine ⟨fun b hb => ?_, ih h.2⟩
   rcases putS_mem.1 hb with rfl | hb
   ·exact ha
   ·exact h.1 b hb
  ·rename_i ha
   split
   ·rw [List.pairwise_cons]
    exact h
   ·rename_i hne
    have hxa : ltL x a := ltL_of_le ((leL_total x a).resolve_right fun hh => ha (by
     have := ltL_of_le hh hne
     exact this)) fun e => hne e.symm
    rw [List.pairwise_cons, List.pairwise_cons]
    refine ⟨fun b hb => ?_, h⟩
    rcases List.mem_cons.1 hb with rfl | hb
    ·exact hxa
    ·exact ltL_trans hxa (h.1 b hb)
def putsS (L : List (List Int)) : List (List Int) := L.foldl (fun o x => putS x o) []
theorem puts_fold : ∀ (L o : List (List Int)), o.Pairwise ltL → (L.foldl (fun o x => putS x o) o).Pairwise ltL ∧ ∀ y, y ∈ L.foldl (fun o x => putS x o) o ↔ y ∈ o ∨ y ∈ L := by
 intro L
 induction L with
 | nil => intro o h; exact ⟨h, fun y => by simp⟩
 | cons x L ih =>
  intro o h
  obtain ⟨h1, h2⟩ := ih (putS x o) (putS_strict h)
  refine ⟨h1, fun y => ?_⟩
  rw [List.foldl_cons, h2 y, putS_mem, List.mem_cons]
  constructor
  ·rintro ((h | h) | h)
   ·exact .inr (.inl h)
   ·exact .inl h
   ·exact .inr (.inr h)
  ·rintro (h | h | h)
   ·exact .inl (.inr h)
   ·exact .inl (.inl h)
   ·exact .inr h
theorem keyL_get {xss : List (List Int)} {j : Nat} (h : j < xss.length) : keyL xss j = xss[j] := by simp [keyL, List.getD_eq_getElem?_getD, h]
theorem key_mono {xss : List (List Int)} (h : xss.Pairwise leL) : ∀ i j, i ≤ j → j < xss.length → leL (keyL xss i) (keyL xss j) := by
 intro i j hij hj
 rcases Nat.lt_or_eq_of_le hij with h' | h'
 ·rw [keyL_get (by omega), keyL_get hj]
  exact (List.pairwise_iff_getElem.1 h) i j (by omega) hj h'
 ·subst h'
  unfold leL
  rw [cmpL_self]
  omega
theorem comp_strict {xss : List (List Int)} (h : xss.Pairwise leL) : (compL xss).Pairwise ltL := by
 unfold compL keepI
 rw [List.pairwise_map]
 have hlt : ((List.range xss.length).filter (kpB (keyL xss))).Pairwise (· < ·) := List.Pairwise.filter _ List.pairwise_lt_range
 refine List.Pairwise.imp_of_mem (fun {i j} hi hj hij => ?_) hlt
 have hj' := List.mem_filter.1 hj
 have hjn := List.mem_range.1 hj'.1
 have hk : ¬ keyL xss j = keyL xss (j - 1) := by
  have := hj'.2
  unfold kpB at this
  have hj0 : (j == 0) = false := by simp; omega
  rw [hj0, Bool.false_or] at this
  simpa using this
 refine ltL_of_le (key_mono h i j (by omega) hjn) fun e => hk ?_
 have h1 := key_mono h i (j - 1) (by omega) (by omega)
 have h2 := key_mono h (j - 1) j (by omega) hjn
 rw [e] at h1
 exact leL_antisymm h1 h2
theorem comp_mem {xss : List (List Int)} (y : List Int) : y ∈ compL xss ↔ y ∈ xss := by
 unfold compL keepI
 rw [List.mem_map]
 constructor
 ·rintro ⟨i, hi, rfl⟩
  have := List.mem_range.1 (List.mem_filter.1 hi).1
  rw [keyL_get this]
  exact List.getElem_mem this
 ·intro hy
  obtain ⟨i, hi, rfl⟩ := List.getElem_of_mem hy
  have key : ∀ i, i < xss.length → ∃ j, j ∈ (List.range xss.length).filter (kpB (keyL xss)) ∧ keyL xss j = keyL xss i := by
   intro i
   induction i with
   | zero =>
    intro hi
    exact ⟨0, List.mem_filter.2 ⟨List.mem_range.2 hi, rfl⟩, rfl⟩
   | succ i ih =>
    intro hi
    cases hk : kpB (keyL xss) (i + 1) with
    | true => exact ⟨i + 1, List.mem_filter.2 ⟨List.mem_range.2 hi, hk⟩, rfl⟩
    | false =>
     obtain ⟨j, hj1, hj2⟩ := ih (by omega)
     refine ⟨j, hj1, hj2.trans ?_⟩
     unfold kpB at hk
     simp only [Nat.add_sub_cancel, Bool.or_eq_false_iff, Bool.not_eq_false', decide_eq_true_eq] at hk
     exact hk.2.symm
  obtain ⟨j, hj1, hj2⟩ := key i hi
  exact ⟨j, hj1, by rw [hj2, keyL_get hi]⟩
theorem puts_comp (L : List (List Int)) : putsS L = compL (sortS L) := by
 obtain ⟨h1, h2⟩ := puts_fold L [] .nil
 refine strict_ext h1 (comp_strict (sortS_sorted L)) fun x => ?_
 have h3 := h2 x
 unfold putsS
 rw [h3, comp_mem, (sortS_perm L).mem_iff]
 simp
def chL (ball : Int → List Int) : List Int → List (List Int) → List (List Int)
 | [], now => now
 | c :: cs, now => chL ball cs (now.flatMap fun l => (ball c).map fun x => l ++ [x])
def movesL (ball : Int → List Int) (cops : List Int) : List (List Int) := compL (sortS ((chL ball cops [[]]).map sortI))
theorem chL_congr {b1 b2 : Int → List Int} : ∀ {cs : List Int} {now : List (List Int)}, (∀ c ∈ cs, b1 c = b2 c) → chL b1 cs now = chL b2 cs now := by
 intro cs
 induction cs with
 | nil => intro now _; rfl
 | cons c cs ih =>
  intro now h
  simp only [chL, h c (by simp)]
  exact ih fun c hc => h c (by simp [hc])
theorem moves_congr {b1 b2 : Int → List Int} {cs : List Int} (h : ∀ c ∈ cs, b1 c = b2 c) : movesL b1 cs = movesL b2 cs := by
 unfold movesL
 rw [chL_congr h]
end Go.V.W
namespace Go.V.W
noncomputable def pickF {α β : Type} (F : Nat → α → Option β) (P : α → β → Prop) (d : α) : Option β :=
 open Classical in if h : ∃ r, P d r ∧ ∃ N, F N d = some r then some h.choose else none
theorem pickF_of {α β : Type} {F : Nat → α → Option β} {P : α → β → Prop} {d : α} (h : ∃ N r, F N d = some r ∧ P d r) : ∃ r, pickF F P d = some r ∧ P d r := by
 obtain ⟨N, r, h1, h2⟩ := h
 have hh : ∃ r, P d r ∧ ∃ N, F N d = some r := ⟨r, h2, N, h1⟩
 unfold pickF
 rw [dif_pos hh]
 exact ⟨_, rfl, hh.choose_spec.1⟩
def Ok {α : Type} (o : Option α) (Q : α → Prop) : Prop := ∃ r, o = some r ∧ Q r
theorem Ok.bind {α β : Type} {o : Option α} {f : α → Option β} {Q : α → Prop} {R : β → Prop} (h : Ok o Q) (hf : ∀ r, Q r → Ok (f r) R) : Ok (o.bind f) R := by
 obtain ⟨r, h1, h2⟩ := h
 obtain ⟨x, h3, h4⟩ := hf r h2
 exact ⟨x, by rw [h1]; exact h3, h4⟩
theorem Ok.some {α : Type} {r : α} {Q : α → Prop} (h : Q r) : Ok (some r) Q := ⟨r, rfl, h⟩
theorem Ok.ite {α : Type} {c : Bool} {a b : Option α} {Q : α → Prop} (ha : c = true → Ok a Q) (hb : c = false → Ok b Q) : Ok (if c = true then a else b) Q := by
 cases c with
 | true => exact ha rfl
 | false => exact hb rfl
theorem Ok.pos {α : Type} {c : Bool} {a b : Option α} {Q : α → Prop} (hc : c = true) (ha : Ok a Q) : Ok (if c = true then a else b) Q := by rw [if_pos hc]; exact ha
theorem Ok.mono {α : Type} {o : Option α} {Q R : α → Prop} (h : Ok o Q) (hR : ∀ r, Q r → R r) : Ok o R := by
 obtain ⟨r, h1, h2⟩ := h
 exact ⟨r, h1, hR r h2⟩
theorem Ok.pick {α β : Type} {F : Nat → α → Option β} {P : α → β → Prop} {d : α} (N : Nat) (h : Ok (F N d) (P d)) : Ok (pickF F P d) (P d) := by
 obtain ⟨r, h1, h2⟩ := h
 exact pickF_of ⟨N, r, h1, h2⟩
abbrev Cur := List Int × Int × Int × Unit
def CurB (c : Cur) : Prop := (∀ x ∈ c.1, 0 ≤ x ∧ x ≤ 255) ∧ 0 ≤ c.2.1
def Adv (k : Int) (c c' : Cur) : Prop := CurB c' ∧ c'.2.1 ≤ c.2.1 + k
theorem Adv.trans {k m : Int} {c d e : Cur} (h : Adv k c d) (h' : Adv m d e) : Adv (k + m) c e := ⟨h'.1, by have := h.2; have := h'.2; omega⟩
theorem Adv.le {k m : Int} {c d : Cur} (h : Adv k c d) (hk : k ≤ m) : Adv m c d := ⟨h.1, by have := h.2; omega⟩
end Go.V.W
set_option linter.unusedVariables false
namespace Go.V.W
def ndB : List Int → Bool
 | [] => true
 | [_] => true
 | a :: b :: l => decide (a ≤ b) && ndB (b :: l)
def copsB (n : Int) (l : List Int) : Bool := l.all (inB 0 (n - 1)) && ndB l
def G_l4Less (d : List Int × List Int × Unit) : Option (Bool × Unit) := if (okL d.1 && decide (d.1.length = d.2.1.length)) = true then some (decide (cmpL d.1 d.2.1 < 0), ()) else none
def G_l1Same (d : List Int × List Int × Unit) : Option (Bool × Unit) := if okL d.1 = true then some (decide (d.1 = d.2.1), ()) else none
def G_l4Sorted (d : List Int × Unit) : Option (List Int × Unit) := if decide (d.1.length ≤ 1000) = true then some (sortI d.1, ()) else none
def G_l4Put (d : List (List Int) × List Int × Unit) : Option (List (List Int) × Unit) := if (decide (d.1.length ≤ 1000) && okL d.2.1 && d.1.all (fun l => decide (l.length = d.2.1.length))) = true then some (putS d.2.1 d.1, ()) else none
def nodesB (n : Int) (l : List Int) : Bool := decide (l.length ≤ 3) && l.all (inB 0 (n - 1))
def G_l4Moves (d : Gr × List Int × Unit) : Option (List (List Int) × Unit) := if (grB d.1 && nodesB d.1.1 d.2.1) = true then some (movesL (ballF d.1.1.toNat d.1.2.1) d.2.1, ()) else none
def G_copMoves (d : Nt × List Int × Unit) : Option (List (List Int) × Unit) := if (netB d.1.1 && nodesB (d.1.1.length : Int) d.2.1) = true then some (movesL (ballM d.1.1) d.2.1, ()) else none
def G_l4At (d : List (List Int) × List Int × Unit) : Option (Int × Unit) := if okLL d.1 = true then some (idxI (idxN (fun y => decide (y = d.2.1)) d.1 0), ()) else none
def hasL (S : List Int) (y : Int) : Bool := S.any fun z => z == y
end Go.V.W
set_option linter.unusedVariables false
namespace Go.V.W
def upTo (a n : Nat) : List Int := (List.range' a (n - a)).map fun (i : Nat) => (i : Int)
def confL (n : Nat) : Nat → List (List Int)
 | 0 => [[]]
 | k + 1 => (confL n k).flatMap fun l => (upTo (l.getLastD 0).toNat n).map fun x => l ++ [x]
def G_configs (d : Int × Int × Unit) : Option (List (List Int) × Unit) := if (inB 0 8 d.1 && inB 0 3 d.2.1) = true then some (confL d.1.toNat d.2.1.toNat, ()) else none
def riseB : List (List Int) → Bool
 | [] => true
 | [_] => true
 | a :: b :: l => decide (cmpL a b < 0) && riseB (b :: l)
def memB (cf : List (List Int)) (c : List Int) : Bool := cf.any fun y => decide (y = c)
def placeL (cf : List (List Int)) (c : List Int) : Int := idxI (idxN (fun y => decide (y = c)) cf 0)
def G_bin (d : List (List Int) × List Int × (Unit × Unit) × Unit) : Option (Int × Bool × Unit) := if (decide (d.1.length ≤ 1000) && okLL d.1 && okL d.2.1 && riseB d.1 && memB d.1 d.2.1) = true then some (placeL d.1 d.2.1, true, ()) else none
abbrev Gm := List (List Int) × List (List Int) × List (List Int) × Unit
abbrev Cg := Nt × List (List Int) × List (List Int) × List (List Int) × Unit
def movesI (ball : Int → List Int) (cf : List (List Int)) : List (List Int) := cf.map fun c => (movesL ball c).map (placeL cf)
def ballsL (n : Nat) (es : List E) : List (List Int) := (List.range n).map fun (x : Nat) => ballF n es (x : Int)
def ballA (bl : List (List Int)) (x : Int) : List Int := bl.getD x.toNat []
def G_l4Make (d : Gr × Int × Unit) : Option (Gm × Unit) := if (grB d.1 && inB 0 3 d.2.1) = true then some ((confL d.1.1.toNat d.2.1.toNat, movesI (ballF d.1.1.toNat d.1.2.1) (confL d.1.1.toNat d.2.1.toNat), ballsL d.1.1.toNat d.1.2.1, ()), ()) else none
def G_copBoard (d : Nt × Int × Unit) : Option (Cg × Unit) := if (netB d.1.1 && inB 0 3 d.2.1) = true then some ((d.1, confL d.1.1.length d.2.1.toNat, movesI (ballM d.1.1) (confL d.1.1.length d.2.1.toNat), [], ()), ()) else none
def afterG (cf : List (List Int)) (ball : Int → List Int) (T : Tab) (d x : Int) : Int := if hasL (cf.getD d.toNat []) x = true then 0 else worstL (tab2 T d) (ball x) 0
def tabM (m n : Nat) (f : Nat → Nat → Int) : Tab := (List.range m).map fun c => (List.range n).map fun x => f c x
def canG (cf mv : List (List Int)) (ball : Int → List Int) (T : Tab) (c x : Nat) : Bool := decide (tab2 T (c : Int) (x : Int) < 0) && (mv.getD c []).any fun d => decide (0 ≤ afterG cf ball T d (x : Int))
def stepG (cf mv : List (List Int)) (ball : Int → List Int) (n : Nat) (t : Int) (T : Tab) : Tab := tabM cf.length n fun c x => if canG cf mv ball T c x = true then t else tab2 T (c : Int) (x : Int)
def anyG (cf mv : List (List Int)) (ball : Int → List Int) (n : Nat) (T : Tab) : Bool := (List.range cf.length).any fun c => (List.range n).any fun x => canG cf mv ball T c x
def gameT (cf mv : List (List Int)) (ball : Int → List Int) (n : Nat) : Nat → Int → Tab → Tab
 | 0, _, T => T
 | k + 1, t, T => if anyG cf mv ball n T = true then gameT cf mv ball n k (t + 1) (stepG cf mv ball n t T) else T
def startG (cf : List (List Int)) (n : Nat) : Tab := tabM cf.length n fun c x => if hasL (cf.getD c []) (x : Int) = true then 0 else -1
def timesG (cf mv : List (List Int)) (ball : Int → List Int) (n : Nat) : Tab := gameT cf mv ball n 1000 1 (startG cf n)
def gmB (n : Nat) (cf mv : List (List Int)) : Bool := decide (cf.length ≤ 120) && decide (mv.length = cf.length) && cf.all (fun c => decide (c.length ≤ 3) && c.all (inB 0 ((n : Int) - 1))) && mv.all (fun l => decide (l.length ≤ 1000) && l.all (inB 0 ((cf.length : Int) - 1)))
def blB (bl : List (List Int)) : Bool := decide (bl.length ≤ 8) && bl.all (fun b => decide (b.length ≤ 8) && b.all (inB 0 ((bl.length : Int) - 1)))
def rcB (m n : Nat) (T : Tab) : Bool := decide (T.length = m) && T.all fun row => decide (row.length = n)
def G_l4After (d : Gm × Tab × Int × Int × Unit) : Option (Int × Unit) := if (gmB d.1.2.2.1.length d.1.1 d.1.2.1 && blB d.1.2.2.1 && rcB d.1.1.length d.1.2.2.1.length d.2.1 && inB 0 ((d.1.1.length : Int) - 1) d.2.2.1 && inB 0 ((d.1.2.2.1.length : Int) - 1) d.2.2.2.1) = true then some (afterG d.1.1 (ballA d.1.2.2.1) d.2.1 d.2.2.1 d.2.2.2.1, ()) else none
def G_l4Times (d : Gm × Unit) : Option (Tab × Unit) := if (gmB d.1.2.2.1.length d.1.1 d.1.2.1 && blB d.1.2.2.1) = true then some (timesG d.1.1 d.1.2.1 (ballA d.1.2.2.1) d.1.2.2.1.length, ()) else none
def cgB (c : Cg) : Bool := netB c.1.1 && decide (1 ≤ c.1.1.length) && gmB c.1.1.length c.2.1 c.2.2.1 && rcB c.2.1.length c.1.1.length c.2.2.2.1
def G_gameCan (d : List Int × (Unit × Cg × Int × Unit) × Unit) : Option (Int × Unit) := if (cgB d.2.1.2.1 && inB 0 ((d.2.1.2.1.1.1.length : Int) - 1) d.2.1.2.2.1 && decide (d.1.length ≤ 1000) && d.1.all (inB 0 ((d.2.1.2.1.2.1.length : Int) - 1))) = true then some (idxI (idxN (fun b => decide (0 ≤ afterG d.2.1.2.1.2.1 (ballM d.2.1.2.1.1.1) d.2.1.2.1.2.2.2.1 b d.2.1.2.2.1)) d.1 0), ()) else none
def G_copGame (d : Nt × Int × Unit) : Option (Cg × Unit) := if (netB d.1.1 && decide (1 ≤ d.1.1.length) && inB 0 3 d.2.1) = true then some ((d.1, confL d.1.1.length d.2.1.toNat, movesI (ballM d.1.1) (confL d.1.1.length d.2.1.toNat), timesG (confL d.1.1.length d.2.1.toNat) (movesI (ballM d.1.1) (confL d.1.1.length d.2.1.toNat)) (ballM d.1.1) d.1.1.length, ()), ()) else none
def cfG (g : Gr) (k : Nat) : List (List Int) := confL g.1.toNat k
def mvG (g : Gr) (k : Nat) : List (List Int) := movesI (ballF g.1.toNat g.2.1) (cfG g k)
def tmG (g : Gr) (k : Nat) : Tab := timesG (cfG g k) (mvG g k) (ballF g.1.toNat g.2.1) g.1.toNat
def fieldB (g : Gr) (k : Int) : Bool := graphB g && decide (g.1 > 0) && inB 1 3 k
def worstR (row : List Int) : Int := worstL (fun z => z) row 0
def bestRow : List (List Int) → Int → Int → Int → Int × Int
 | [], _, b, l => (b, l)
 | r :: rs, i, b, l => if 0 ≤ worstR r ∧ (b < 0 ∨ worstR r < l) then bestRow rs (i + 1) i (worstR r) else bestRow rs (i + 1) b l
def bestOut (cf : List (List Int)) (o : Int × Int) : List Int × Int × Bool × Unit := if o.1 < 0 then ([], 0, false, ()) else (cf.getD o.1.toNat [], o.2, true, ())
def lowB (T : Tab) : Bool := T.all fun row => row.all fun v => decide (-1 ≤ v)
def G_copBest (d : Cg × Unit) : Option (List Int × Int × Bool × Unit) := if (cgB d.1 && lowB d.1.2.2.2.1) = true then some (bestOut d.1.2.1 (bestRow d.1.2.2.2.1 0 (-1) 0)) else none
def bestCB (g : Gr) (k : Int) : List Int × Int × Bool × Unit := if fieldB g k = true then bestOut (cfG g k.toNat) (bestRow (tmG g k.toNat) 0 (-1) 0) else ([], 0, false, ())
def G_specBest (d : Gr × Int × Unit) : Option (List Int × Int × Bool × Unit) := if okL d.1.2.1 = true then some (bestCB d.1 d.2.1) else none
end Go.V.W
set_option linter.unusedVariables false
set_option maxRecDepth 100000
namespace Go.V.W
open Go.Proofs
abbrev I : Kd := .int .i64
abbrev K_Piq : Kd := .pair I .unit
abbrev K_Piiq : Kd := .pair I K_Piq
abbrev K_SPiiq : Kd := .slice K_Piiq
abbrev K_PSPiiqq : Kd := .pair K_SPiiq .unit
abbrev K_PiSPiiqq : Kd := .pair I K_PSPiiqq
abbrev K_Si : Kd := .slice I
abbrev K_SSi : Kd := .slice K_Si
abbrev K_ZSi : Kd := .ssl K_Si
abbrev K_PSSiq : Kd := .pair K_SSi .unit
abbrev K_PSSiSSiq : Kd := .pair K_SSi K_PSSiq
abbrev K_PZSiSSiSSiq : Kd := .pair K_ZSi K_PSSiSSiq
abbrev K_PSiq : Kd := .pair K_Si .unit
abbrev K_F_slices_Compare_Sint_int_qq : Kd := .clo 113 .unit .unit
abbrev K_F_slices_Equal_Sint_int_qq : Kd := .clo 92 .unit .unit
abbrev K_Zi : Kd := .ssl I
abbrev K_PZiq : Kd := .pair K_Zi .unit
abbrev K_PPZiqZSiSSiSSiq : Kd := .pair K_PZiq K_PZSiSSiSSiq
abbrev K_BPPZiqZSiSSiSSiq : Kd := .bx K_PPZiqZSiSSiSSiq
abbrev K_BBPPZiqZSiSSiSSiq : Kd := .bx K_BPPZiqZSiSSiSSiq
abbrev K_Bi : Kd := .bx I
abbrev K_PBiq : Kd := .pair K_Bi .unit
abbrev K_PBBPPZiqZSiSSiSSiqBiq : Kd := .pair K_BBPPZiqZSiSSiSSiq K_PBiq
abbrev K_F_impl_copGame_can_1_qPBBPPZiqZSiSSiSSiqBiq : Kd := .clo 128 .unit K_PBBPPZiqZSiSSiSSiqBiq
def tks : List (Nat × Kd) := [(3, I), (4, .bool), (22, K_SPiiq), (24, K_PiSPiiqq), (25, K_SSi), (30, K_PiSPiiqq), (37, K_Si), (62, K_PSiq), (73, K_PZSiSSiSSiq), (76, K_PPZiqZSiSSiSSiq), (88, K_Piiq), (114, (.int .u64))]
def ars : List (Nat × Nat) := [(88, 3)]
noncomputable def Γ_laws_szIntA2S : Ctx := { tk := assoc tks, ar := assoc ars, fs := assoc [] }
noncomputable def F_laws_szIntA2S (N : Nat) (d : (List (Int × Int × Unit)) × Int × Unit) : Option (Int × Unit) :=
 let a0 : List (Int × Int × Unit) := d.1
 let a1 : Int := d.2.1
 let x1 : Int := IntKind.wrap .i64 (a1 - (List.length a0 : Int))
 if (decide (x1 < (0 : Int))) = true then
  some ((-1 : Int), ())
 else
  some (x1, ())
theorem F_laws_szIntA2S_ok (N : Nat) (d) : fnR Γ_laws_szIntA2S (assoc []) true [(K_SPiiq, false), (I, false)] [I] Tryz.f43.results.toList (bodyOf Tryz.f43) d = F_laws_szIntA2S N d := by kernel_rfl
noncomputable def g_laws_szIntA2S (d : (List (Int × Int × Unit)) × Int × Unit) : Int × Unit :=
 let a0 : List (Int × Int × Unit) := d.1
 let a1 : Int := d.2.1
 let x1 : Int := IntKind.wrap .i64 (a1 - (List.length a0 : Int))
 if (decide (x1 < (0 : Int))) = true then
  ((-1 : Int), ())
 else
  (x1, ())
theorem F_laws_szIntA2S_tot (N : Nat) (d) : F_laws_szIntA2S N d = some (g_laws_szIntA2S d) := by
 unfold F_laws_szIntA2S g_laws_szIntA2S
 first
  | rfl
  | (dsimp only; (repeat' split) <;> rfl)
noncomputable def S_laws_szIntA2S : FSig := ⟨[(K_SPiiq, false), (I, false)], [I], true, (fun d => some (g_laws_szIntA2S d))⟩
noncomputable def Γ_laws_szGraph : Ctx := { tk := assoc tks, ar := assoc ars, fs := assoc [(43, S_laws_szIntA2S)] }
noncomputable def F_laws_szGraph (N : Nat) (d : (Int × (List (Int × Int × Unit)) × Unit) × Int × Unit) : Option (Int × Unit) :=
 let a0 : Int × (List (Int × Int × Unit)) × Unit := d.1
 let a1 : Int := d.2.1
 let r1 : Int × Unit := g_laws_szIntA2S ((a0.2.1, (a1, ())))
 if (decide (r1.1 < (0 : Int))) = true then
  some ((-1 : Int), ())
 else
  some (r1.1, ())
theorem F_laws_szGraph_ok (N : Nat) (d) : fnR Γ_laws_szGraph (assoc []) true [(K_PiSPiiqq, false), (I, false)] [I] Tryz.f12.results.toList (bodyOf Tryz.f12) d = F_laws_szGraph N d := by kernel_rfl
noncomputable def g_laws_szGraph (d : (Int × (List (Int × Int × Unit)) × Unit) × Int × Unit) : Int × Unit :=
 let a0 : Int × (List (Int × Int × Unit)) × Unit := d.1
 let a1 : Int := d.2.1
 let r1 : Int × Unit := g_laws_szIntA2S ((a0.2.1, (a1, ())))
 if (decide (r1.1 < (0 : Int))) = true then
  ((-1 : Int), ())
 else
  (r1.1, ())
theorem F_laws_szGraph_tot (N : Nat) (d) : F_laws_szGraph N d = some (g_laws_szGraph d) := by
 unfold F_laws_szGraph g_laws_szGraph
 first
  | rfl
  | (dsimp only; (repeat' split) <;> rfl)
noncomputable def S_laws_szGraph : FSig := ⟨[(K_PiSPiiqq, false), (I, false)], [I], true, (fun d => some (g_laws_szGraph d))⟩
noncomputable def Γ_laws_toIntA2 : Ctx := { tk := assoc tks, ar := assoc ars, fs := assoc [] }
abbrev laws_toIntA2_l0_H := (Int × Int × Unit) × (Int × Int × Unit) × (Int × Int × Unit) × Int × Unit
abbrev laws_toIntA2_l0_O := ((Int × Int × Unit) × (Int × Int × Unit) × Unit) ⊕ Empty
def laws_toIntA2_l0_h : Form := [(1, .box K_Piiq 99), (2, .box K_Piiq 99), (3, .box K_Piiq 99), (4, .v I)]
def laws_toIntA2_l0_o : Outs := [(.normal, [(2, .box K_Piiq 99), (3, .box K_Piiq 99)])]
noncomputable def laws_toIntA2_l0_r (N : Nat) (back : laws_toIntA2_l0_H → Option laws_toIntA2_l0_O) (d : laws_toIntA2_l0_H) : Option laws_toIntA2_l0_O :=
 let s1 : Int × Int × Unit := d.1
 let s2 : Int × Int × Unit := d.2.1
 let s3 : Int × Int × Unit := d.2.2.1
 let s4 : Int := d.2.2.2.1
 if (decide (s4 < (2 : Int))) = true then
  if (s4 == (0 : Int)) = true then
   if (s4 == (0 : Int)) = true then
    let x10 : Int := IntKind.wrap .i64 (s4 + (1 : Int))
    back ((s1, (s2, ((s1.1, s3.2), (x10, ())))))
   else
    if (s4 == (1 : Int)) = true then
    let x9 : Int := IntKind.wrap .i64 (s4 + (1 : Int))
    back ((s1, (s2, ((s3.1, (s1.1, s3.2.2)), (x9, ())))))
    else none
  else
   if (s4 == (1 : Int)) = true then
   if (s4 == (0 : Int)) = true then
    let x8 : Int := IntKind.wrap .i64 (s4 + (1 : Int))
    back ((s1, (s2, ((s1.2.1, s3.2), (x8, ())))))
   else
    if (s4 == (1 : Int)) = true then
    let x7 : Int := IntKind.wrap .i64 (s4 + (1 : Int))
    back ((s1, (s2, ((s3.1, (s1.2.1, s3.2.2)), (x7, ())))))
    else none
   else none
 else
  some (.inl ((s2, (s3, ()))))
noncomputable def laws_toIntA2_l0 (N : Nat) : Nat → laws_toIntA2_l0_H → Option laws_toIntA2_l0_O
 | 0, _ => none
 | k + 1, d => laws_toIntA2_l0_r N (laws_toIntA2_l0 N k) d
theorem laws_toIntA2_l0_ok (N : Nat) (back) (d) : roundR Γ_laws_toIntA2 (assoc []) 0 laws_toIntA2_l0_h laws_toIntA2_l0_o (loopOf Tryz.f87 0) back d = laws_toIntA2_l0_r N back d := by kernel_rfl
noncomputable def F_laws_toIntA2 (N : Nat) (d : (Int × Int × Unit) × Unit) : Option ((Int × Int × Unit) × Unit) :=
 let a0 : Int × Int × Unit := d.1
 (laws_toIntA2_l0 N N ((a0, (((0 : Int), ((0 : Int), ())), (((0 : Int), ((0 : Int), ())), ((0 : Int), ())))))).bind fun o5 => match o5 with
 | .inl d6 =>
  some (d6.2.1, ())
theorem F_laws_toIntA2_ok (N : Nat) (d) : fnR Γ_laws_toIntA2 (assoc [(0, ⟨laws_toIntA2_l0_h, laws_toIntA2_l0_o, laws_toIntA2_l0 N N⟩)]) true [(K_Piiq, false)] [K_Piiq] Tryz.f87.results.toList (bodyOf Tryz.f87) d = F_laws_toIntA2 N d := by kernel_rfl
noncomputable def S_laws_toIntA2 : FSig := ⟨[(K_Piiq, false)], [K_Piiq], true, (G_toIntA2)⟩
noncomputable def Γ_laws_toIntA2S : Ctx := { tk := assoc tks, ar := assoc ars, fs := assoc [(87, S_laws_toIntA2)] }
abbrev laws_toIntA2S_l0_H := (List (Int × Int × Unit)) × (List (Int × Int × Unit)) × Int × Unit
abbrev laws_toIntA2S_l0_O := ((List (Int × Int × Unit)) × Unit) ⊕ Empty
def laws_toIntA2S_l0_h : Form := [(0, .v K_SPiiq), (3, .own K_SPiiq 99), (4, .v I)]
def laws_toIntA2S_l0_o : Outs := [(.normal, [(3, .own K_SPiiq 99)])]
noncomputable def laws_toIntA2S_l0_r (N : Nat) (back : laws_toIntA2S_l0_H → Option laws_toIntA2S_l0_O) (d : laws_toIntA2S_l0_H) : Option laws_toIntA2S_l0_O :=
 let s0 : List (Int × Int × Unit) := d.1
 let s3 : List (Int × Int × Unit) := d.2.1
 let s4 : Int := d.2.2.1
 if (decide (s4 < (List.length s0 : Int))) = true then
  if (idxIn s4 (List.length s0)) = true then
  (G_toIntA2 (at_ K_Piiq s0 s4.toNat, ())).bind fun r6 =>
  if (idxIn s4 (List.length s3)) = true then
  let x7 : Int := IntKind.wrap .i64 (s4 + (1 : Int))
  back ((s0, (List.set s3 s4.toNat r6.1, (x7, ()))))
  else none
  else none
 else
  some (.inl (s3, ()))
noncomputable def laws_toIntA2S_l0 (N : Nat) : Nat → laws_toIntA2S_l0_H → Option laws_toIntA2S_l0_O
 | 0, _ => none
 | k + 1, d => laws_toIntA2S_l0_r N (laws_toIntA2S_l0 N k) d
theorem laws_toIntA2S_l0_ok (N : Nat) (back) (d) : roundR Γ_laws_toIntA2S (assoc []) 0 laws_toIntA2S_l0_h laws_toIntA2S_l0_o (loopOf Tryz.f48 0) back d = laws_toIntA2S_l0_r N back d := by kernel_rfl
noncomputable def F_laws_toIntA2S (N : Nat) (d : (List (Int × Int × Unit)) × Unit) : Option ((List (Int × Int × Unit)) × Unit) :=
 let a0 : List (Int × Int × Unit) := d.1
 if ((decide (0 ≤ (List.length a0 : Int)) && decide ((List.length a0 : Int) ≤ (List.length a0 : Int)) && decide ((List.length a0 : Int) ≤ (lim : Int)))) = true then
 let x1 : List (Int × Int × Unit) := List.replicate (List.length a0 : Int).toNat (((0 : Int), ((0 : Int), ())))
 (laws_toIntA2S_l0 N N ((a0, (x1, ((0 : Int), ()))))).bind fun o4 => match o4 with
 | .inl d5 =>
  some (d5.1, ())
 else none
theorem F_laws_toIntA2S_ok (N : Nat) (d) : fnR Γ_laws_toIntA2S (assoc [(0, ⟨laws_toIntA2S_l0_h, laws_toIntA2S_l0_o, laws_toIntA2S_l0 N N⟩)]) true [(K_SPiiq, false)] [K_SPiiq] Tryz.f48.results.toList (bodyOf Tryz.f48) d = F_laws_toIntA2S N d := by kernel_rfl
noncomputable def S_laws_toIntA2S : FSig := ⟨[(K_SPiiq, false)], [K_SPiiq], true, (G_toIntA2S)⟩
noncomputable def Γ_laws_toGraph : Ctx := { tk := assoc tks, ar := assoc ars, fs := assoc [(48, S_laws_toIntA2S)] }
noncomputable def F_laws_toGraph (N : Nat) (d : (Int × (List (Int × Int × Unit)) × Unit) × Unit) : Option ((Int × (List (Int × Int × Unit)) × Unit) × Unit) :=
 let a0 : Int × (List (Int × Int × Unit)) × Unit := d.1
 (G_toIntA2S (a0.2.1, ())).bind fun r1 =>
 some (((a0.1, (r1.1, ())), ()))
theorem F_laws_toGraph_ok (N : Nat) (d) : fnR Γ_laws_toGraph (assoc []) true [(K_PiSPiiqq, false)] [K_PiSPiiqq] Tryz.f15.results.toList (bodyOf Tryz.f15) d = F_laws_toGraph N d := by kernel_rfl
noncomputable def S_laws_toGraph : FSig := ⟨[(K_PiSPiiqq, false)], [K_PiSPiiqq], true, (F_laws_toGraph 0)⟩
noncomputable def Γ_spec_l1In : Ctx := { tk := assoc tks, ar := assoc ars, fs := assoc [] }
noncomputable def F_spec_l1In (N : Nat) (d : Int × Int × Int × Unit) : Option (Bool × Unit) :=
 let a0 : Int := d.1
 let a1 : Int := d.2.1
 let a2 : Int := d.2.2.1
 if (decide (a0 ≥ a1)) = true then
  some (decide (a0 ≤ a2), ())
 else
  some (false, ())
theorem F_spec_l1In_ok (N : Nat) (d) : fnR Γ_spec_l1In (assoc []) true [(I, false), (I, false), (I, false)] [.bool] Tryz.f77.results.toList (bodyOf Tryz.f77) d = F_spec_l1In N d := by kernel_rfl
noncomputable def g_spec_l1In (d : Int × Int × Int × Unit) : Bool × Unit :=
 let a0 : Int := d.1
 let a1 : Int := d.2.1
 let a2 : Int := d.2.2.1
 if (decide (a0 ≥ a1)) = true then
  (decide (a0 ≤ a2), ())
 else
  (false, ())
theorem F_spec_l1In_tot (N : Nat) (d) : F_spec_l1In N d = some (g_spec_l1In d) := by
 unfold F_spec_l1In g_spec_l1In
 first
  | rfl
  | (dsimp only; (repeat' split) <;> rfl)
noncomputable def S_spec_l1In : FSig := ⟨[(I, false), (I, false), (I, false)], [.bool], true, (fun d => some (g_spec_l1In d))⟩
noncomputable def Γ_spec_l2Before : Ctx := { tk := assoc tks, ar := assoc ars, fs := assoc [] }
noncomputable def F_spec_l2Before (N : Nat) (d : (Int × Int × Unit) × (Int × Int × Unit) × Unit) : Option (Bool × Unit) :=
 let a0 : Int × Int × Unit := d.1
 let a1 : Int × Int × Unit := d.2.1
 if (decide (a0.1 < a1.1)) = true then
  some (true, ())
 else
  if (a0.1 == a1.1) = true then
   some (decide (a0.2.1 < a1.2.1), ())
  else
   some (false, ())
theorem F_spec_l2Before_ok (N : Nat) (d) : fnR Γ_spec_l2Before (assoc []) true [(K_Piiq, false), (K_Piiq, false)] [.bool] Tryz.f82.results.toList (bodyOf Tryz.f82) d = F_spec_l2Before N d := by kernel_rfl
noncomputable def g_spec_l2Before (d : (Int × Int × Unit) × (Int × Int × Unit) × Unit) : Bool × Unit :=
 let a0 : Int × Int × Unit := d.1
 let a1 : Int × Int × Unit := d.2.1
 if (decide (a0.1 < a1.1)) = true then
  (true, ())
 else
  if (a0.1 == a1.1) = true then
   (decide (a0.2.1 < a1.2.1), ())
  else
   (false, ())
theorem F_spec_l2Before_tot (N : Nat) (d) : F_spec_l2Before N d = some (g_spec_l2Before d) := by
 unfold F_spec_l2Before g_spec_l2Before
 first
  | rfl
  | (dsimp only; (repeat' split) <;> rfl)
noncomputable def S_spec_l2Before : FSig := ⟨[(K_Piiq, false), (K_Piiq, false)], [.bool], true, (fun d => some (g_spec_l2Before d))⟩
noncomputable def Γ_spec_l2Good : Ctx := { tk := assoc tks, ar := assoc ars, fs := assoc [(77, S_spec_l1In), (82, S_spec_l2Before)] }
abbrev spec_l2Good_l0_H := (Int × (List (Int × Int × Unit)) × Unit) × Int × Unit
abbrev spec_l2Good_l0_O := (Bool × Unit) ⊕ ((Int × (List (Int × Int × Unit)) × Unit) × Unit) ⊕ Empty
def spec_l2Good_l0_h : Form := [(1, .box K_PiSPiiqq 0), (3, .v I)]
def spec_l2Good_l0_o : Outs := [(.ret, [(2, .v .bool)]), (.normal, [(1, .box K_PiSPiiqq 0)])]
noncomputable def spec_l2Good_l0_r (N : Nat) (back : spec_l2Good_l0_H → Option spec_l2Good_l0_O) (d : spec_l2Good_l0_H) : Option spec_l2Good_l0_O :=
 let s1 : Int × (List (Int × Int × Unit)) × Unit := d.1
 let s3 : Int := d.2.1
 if (decide (s3 < (List.length s1.2.1 : Int))) = true then
  if (idxIn s3 (List.length s1.2.1)) = true then
  let x13 : Int := IntKind.wrap .i64 (s1.1 - (1 : Int))
  let r14 : Bool × Unit := g_spec_l1In (((at_ K_Piiq s1.2.1 s3.toNat).1, ((0 : Int), (x13, ()))))
  if (!r14.1) = true then
   some (.inl (false, ()))
  else
   let x15 : Int := IntKind.wrap .i64 (s1.1 - (1 : Int))
   let r16 : Bool × Unit := g_spec_l1In (((at_ K_Piiq s1.2.1 s3.toNat).2.1, ((0 : Int), (x15, ()))))
   if (!r16.1) = true then
    some (.inl (false, ()))
   else
    if (decide ((at_ K_Piiq s1.2.1 s3.toNat).1 ≥ (at_ K_Piiq s1.2.1 s3.toNat).2.1)) = true then
     some (.inl (false, ()))
    else
     if (decide (s3 > (0 : Int))) = true then
      let x17 : Int := IntKind.wrap .i64 (s3 - (1 : Int))
      if (idxIn x17 (List.length s1.2.1)) = true then
      let r18 : Bool × Unit := g_spec_l2Before ((at_ K_Piiq s1.2.1 x17.toNat, (at_ K_Piiq s1.2.1 s3.toNat, ())))
      if (!r18.1) = true then
       some (.inl (false, ()))
      else
       let x19 : Int := IntKind.wrap .i64 (s3 + (1 : Int))
       back ((s1, (x19, ())))
      else none
     else
      let x20 : Int := IntKind.wrap .i64 (s3 + (1 : Int))
      back ((s1, (x20, ())))
  else none
 else
  some (.inr (.inl (s1, ())))
noncomputable def spec_l2Good_l0 (N : Nat) : Nat → spec_l2Good_l0_H → Option spec_l2Good_l0_O
 | 0, _ => none
 | k + 1, d => spec_l2Good_l0_r N (spec_l2Good_l0 N k) d
theorem spec_l2Good_l0_ok (N : Nat) (back) (d) : roundR Γ_spec_l2Good (assoc []) 0 spec_l2Good_l0_h spec_l2Good_l0_o (loopOf Tryz.f45 0) back d = spec_l2Good_l0_r N back d := by kernel_rfl
noncomputable def F_spec_l2Good (N : Nat) (d : (Int × (List (Int × Int × Unit)) × Unit) × Unit) : Option (Bool × Unit) :=
 let a0 : Int × (List (Int × Int × Unit)) × Unit := d.1
 (spec_l2Good_l0 N N ((a0, ((0 : Int), ())))).bind fun o9 => match o9 with
 | .inl d10 =>
  some (d10.1, ())
 | .inr (.inl d11) =>
  let r12 : Bool × Unit := g_spec_l1In ((d11.1.1, ((0 : Int), ((8 : Int), ()))))
  some (r12.1, ())
theorem F_spec_l2Good_ok (N : Nat) (d) : fnR Γ_spec_l2Good (assoc [(0, ⟨spec_l2Good_l0_h, spec_l2Good_l0_o, spec_l2Good_l0 N N⟩)]) true [(K_PiSPiiqq, false)] [.bool] Tryz.f45.results.toList (bodyOf Tryz.f45) d = F_spec_l2Good N d := by kernel_rfl
noncomputable def S_spec_l2Good : FSig := ⟨[(K_PiSPiiqq, false)], [.bool], true, (G_graph)⟩
noncomputable def Γ_spec_l4Field : Ctx := { tk := assoc tks, ar := assoc ars, fs := assoc [(45, S_spec_l2Good), (77, S_spec_l1In)] }
noncomputable def F_spec_l4Field (N : Nat) (d : (Int × (List (Int × Int × Unit)) × Unit) × Int × Unit) : Option (Bool × Unit) :=
 let a0 : Int × (List (Int × Int × Unit)) × Unit := d.1
 let a1 : Int := d.2.1
 (G_graph (a0, ())).bind fun r1 =>
 if (r1.1) = true then
  if (decide (a0.1 > (0 : Int))) = true then
   let r2 : Bool × Unit := g_spec_l1In ((a1, ((1 : Int), ((3 : Int), ()))))
   some (r2.1, ())
  else
   some (false, ())
 else
  some (false, ())
theorem F_spec_l4Field_ok (N : Nat) (d) : fnR Γ_spec_l4Field (assoc []) true [(K_PiSPiiqq, false), (I, false)] [.bool] Tryz.f59.results.toList (bodyOf Tryz.f59) d = F_spec_l4Field N d := by kernel_rfl
noncomputable def S_spec_l4Field : FSig := ⟨[(K_PiSPiiqq, false), (I, false)], [.bool], true, (F_spec_l4Field 0)⟩
noncomputable def Γ_spec_l1Own : Ctx := { tk := assoc tks, ar := assoc ars, fs := assoc [] }
noncomputable def F_spec_l1Own (N : Nat) (d : List Int × Unit) : Option (List Int × Unit) :=
 let a0 : List Int := d.1
 if (decide (List.length ([] : List Int) + List.length a0 ≤ lim)) = true then
 some (([] : List Int) ++ a0, ())
 else none
theorem F_spec_l1Own_ok (N : Nat) (d) : fnR Γ_spec_l1Own (assoc []) true [(K_Si, false)] [K_Si] Tryz.f73.results.toList (bodyOf Tryz.f73) d = F_spec_l1Own N d := by kernel_rfl
noncomputable def S_spec_l1Own : FSig := ⟨[(K_Si, false)], [K_Si], true, (F_spec_l1Own 0)⟩
noncomputable def Γ_spec_l4Configs : Ctx := { tk := assoc tks, ar := assoc ars, fs := assoc [(73, S_spec_l1Own)] }
abbrev spec_l4Configs_l4_H := Int × Int × List (List Int) × Int × List (List Int) × Int × Int × Unit
abbrev spec_l4Configs_l4_O := (Int × Int × List (List Int) × Int × List (List Int) × Int × Unit) ⊕ Empty
def spec_l4Configs_l4_h : Form := [(0, .v I), (1, .v I), (5, .own K_SSi 100), (6, .v I), (7, .own K_SSi 100), (8, .v I), (10, .v I)]
def spec_l4Configs_l4_o : Outs := [(.normal, [(0, .v I), (1, .v I), (5, .own K_SSi 100), (6, .v I), (7, .own K_SSi 100), (8, .v I)])]
noncomputable def spec_l4Configs_l4_r (N : Nat) (back : spec_l4Configs_l4_H → Option spec_l4Configs_l4_O) (d : spec_l4Configs_l4_H) : Option spec_l4Configs_l4_O :=
 let s0 : Int := d.1
 let s1 : Int := d.2.1
 let s5 : List (List Int) := d.2.2.1
 let s6 : Int := d.2.2.2.1
 let s7 : List (List Int) := d.2.2.2.2.1
 let s8 : Int := d.2.2.2.2.2.1
 let s10 : Int := d.2.2.2.2.2.2.1
 if (decide (s10 < s0)) = true then
  if (idxIn s8 (List.length s5)) = true then
  ((F_spec_l1Own 0) (at_ K_Si s5 s8.toNat, ())).bind fun r36 =>
  if (decide (List.length r36.1 + List.length ([s10]) ≤ lim)) = true then
  if (decide (List.length s7 + List.length ([r36.1 ++ ([s10])]) ≤ lim)) = true then
  let x37 : Int := IntKind.wrap .i64 (s10 + (1 : Int))
  back ((s0, (s1, (s5, (s6, (s7 ++ ([r36.1 ++ ([s10])]), (s8, (x37, ()))))))))
  else none
  else none
  else none
 else
  some (.inl ((s0, (s1, (s5, (s6, (s7, (s8, ()))))))))
noncomputable def spec_l4Configs_l4 (N : Nat) : Nat → spec_l4Configs_l4_H → Option spec_l4Configs_l4_O
 | 0, _ => none
 | k + 1, d => spec_l4Configs_l4_r N (spec_l4Configs_l4 N k) d
theorem spec_l4Configs_l4_ok (N : Nat) (back) (d) : roundR Γ_spec_l4Configs (assoc []) 4 spec_l4Configs_l4_h spec_l4Configs_l4_o (loopOf Tryz.f102 4) back d = spec_l4Configs_l4_r N back d := by kernel_rfl
abbrev spec_l4Configs_l2_H := Int × Int × List (List Int) × Int × List (List Int) × Int × Unit
abbrev spec_l4Configs_l2_O := (Int × Int × Int × List (List Int) × Unit) ⊕ Empty
def spec_l4Configs_l2_h : Form := [(0, .v I), (1, .v I), (5, .own K_SSi 100), (6, .v I), (7, .own K_SSi 100), (8, .v I)]
def spec_l4Configs_l2_o : Outs := [(.normal, [(0, .v I), (1, .v I), (6, .v I), (7, .own K_SSi 100)])]
noncomputable def spec_l4Configs_l2_r (N : Nat) (back : spec_l4Configs_l2_H → Option spec_l4Configs_l2_O) (d : spec_l4Configs_l2_H) : Option spec_l4Configs_l2_O :=
 let s0 : Int := d.1
 let s1 : Int := d.2.1
 let s5 : List (List Int) := d.2.2.1
 let s6 : Int := d.2.2.2.1
 let s7 : List (List Int) := d.2.2.2.2.1
 let s8 : Int := d.2.2.2.2.2.1
 if (decide (s8 < (List.length s5 : Int))) = true then
  if (decide (s6 > (0 : Int))) = true then
   if (idxIn s8 (List.length s5)) = true then
   let x27 : Int := IntKind.wrap .i64 (s6 - (1 : Int))
   if (idxIn x27 (List.length (at_ K_Si s5 s8.toNat))) = true then
   (spec_l4Configs_l4 N N ((s0, (s1, (s5, (s6, (s7, (s8, (at_ I (at_ K_Si s5 s8.toNat) x27.toNat, ()))))))))).bind fun o30 => match o30 with
   | .inl d31 =>
    let x32 : Int := IntKind.wrap .i64 (d31.2.2.2.2.2.1 + (1 : Int))
    back ((d31.1, (d31.2.1, (d31.2.2.1, (d31.2.2.2.1, (d31.2.2.2.2.1, (x32, ())))))))
   else none
   else none
  else
   (spec_l4Configs_l4 N N ((s0, (s1, (s5, (s6, (s7, (s8, ((0 : Int), ()))))))))).bind fun o33 => match o33 with
   | .inl d34 =>
    let x35 : Int := IntKind.wrap .i64 (d34.2.2.2.2.2.1 + (1 : Int))
    back ((d34.1, (d34.2.1, (d34.2.2.1, (d34.2.2.2.1, (d34.2.2.2.2.1, (x35, ())))))))
 else
  some (.inl ((s0, (s1, (s6, (s7, ()))))))
noncomputable def spec_l4Configs_l2 (N : Nat) : Nat → spec_l4Configs_l2_H → Option spec_l4Configs_l2_O
 | 0, _ => none
 | k + 1, d => spec_l4Configs_l2_r N (spec_l4Configs_l2 N k) d
theorem spec_l4Configs_l2_ok (N : Nat) (back) (d) : roundR Γ_spec_l4Configs (assoc [(4, ⟨spec_l4Configs_l4_h, spec_l4Configs_l4_o, spec_l4Configs_l4 N N⟩)]) 2 spec_l4Configs_l2_h spec_l4Configs_l2_o (loopOf Tryz.f102 2) back d = spec_l4Configs_l2_r N back d := by kernel_rfl
abbrev spec_l4Configs_l0_H := Int × Int × List (List Int) × Int × Unit
abbrev spec_l4Configs_l0_O := (List (List Int) × Unit) ⊕ Empty
def spec_l4Configs_l0_h : Form := [(0, .v I), (1, .v I), (5, .own K_SSi 100), (6, .v I)]
def spec_l4Configs_l0_o : Outs := [(.normal, [(5, .own K_SSi 100)])]
noncomputable def spec_l4Configs_l0_r (N : Nat) (back : spec_l4Configs_l0_H → Option spec_l4Configs_l0_O) (d : spec_l4Configs_l0_H) : Option spec_l4Configs_l0_O :=
 let s0 : Int := d.1
 let s1 : Int := d.2.1
 let s5 : List (List Int) := d.2.2.1
 let s6 : Int := d.2.2.2.1
 if (decide (s6 < s1)) = true then
  (spec_l4Configs_l2 N N ((s0, (s1, (s5, (s6, (([] : List (List Int)), ((0 : Int), ())))))))).bind fun o24 => match o24 with
  | .inl d25 =>
   let x26 : Int := IntKind.wrap .i64 (d25.2.2.1 + (1 : Int))
   back ((d25.1, (d25.2.1, (d25.2.2.2.1, (x26, ())))))
 else
  some (.inl (s5, ()))
noncomputable def spec_l4Configs_l0 (N : Nat) : Nat → spec_l4Configs_l0_H → Option spec_l4Configs_l0_O
 | 0, _ => none
 | k + 1, d => spec_l4Configs_l0_r N (spec_l4Configs_l0 N k) d
theorem spec_l4Configs_l0_ok (N : Nat) (back) (d) : roundR Γ_spec_l4Configs (assoc [(2, ⟨spec_l4Configs_l2_h, spec_l4Configs_l2_o, spec_l4Configs_l2 N N⟩)]) 0 spec_l4Configs_l0_h spec_l4Configs_l0_o (loopOf Tryz.f102 0) back d = spec_l4Configs_l0_r N back d := by kernel_rfl
noncomputable def F_spec_l4Configs (N : Nat) (d : Int × Int × Unit) : Option (List (List Int) × Unit) :=
 let a0 : Int := d.1
 let a1 : Int := d.2.1
 (spec_l4Configs_l0 N N ((a0, (a1, ([([] : List Int)], ((0 : Int), ())))))).bind fun o13 => match o13 with
 | .inl d14 =>
  some (d14.1, ())
theorem F_spec_l4Configs_ok (N : Nat) (d) : fnR Γ_spec_l4Configs (assoc [(0, ⟨spec_l4Configs_l0_h, spec_l4Configs_l0_o, spec_l4Configs_l0 N N⟩)]) true [(I, false), (I, false)] [K_SSi] Tryz.f102.results.toList (bodyOf Tryz.f102) d = F_spec_l4Configs N d := by kernel_rfl
noncomputable def S_spec_l4Configs : FSig := ⟨[(I, false), (I, false)], [K_SSi], true, (G_configs)⟩
noncomputable def Γ_spec_l2Near : Ctx := { tk := assoc tks, ar := assoc ars, fs := assoc [] }
abbrev spec_l2Near_l0_H := Int × Int × (Int × (List (Int × Int × Unit)) × Unit) × Int × Unit
abbrev spec_l2Near_l0_O := (Bool × Unit) ⊕ Unit ⊕ Empty
def spec_l2Near_l0_h : Form := [(1, .v I), (2, .v I), (3, .box K_PiSPiiqq 0), (7, .v I)]
def spec_l2Near_l0_o : Outs := [(.ret, [(6, .v .bool)]), (.normal, [])]
noncomputable def spec_l2Near_l0_r (N : Nat) (back : spec_l2Near_l0_H → Option spec_l2Near_l0_O) (d : spec_l2Near_l0_H) : Option spec_l2Near_l0_O :=
 let s1 : Int := d.1
 let s2 : Int := d.2.1
 let s3 : Int × (List (Int × Int × Unit)) × Unit := d.2.2.1
 let s7 : Int := d.2.2.2.1
 if (decide (s7 < (List.length s3.2.1 : Int))) = true then
  if (idxIn s7 (List.length s3.2.1)) = true then
  if ((at_ K_Piiq s3.2.1 s7.toNat).1 == s1) = true then
   if ((at_ K_Piiq s3.2.1 s7.toNat).2.1 == s2) = true then
    some (.inl (true, ()))
   else
    if ((at_ K_Piiq s3.2.1 s7.toNat).1 == s2) = true then
     if ((at_ K_Piiq s3.2.1 s7.toNat).2.1 == s1) = true then
      some (.inl (true, ()))
     else
      let x8 : Int := IntKind.wrap .i64 (s7 + (1 : Int))
      back ((s1, (s2, (s3, (x8, ())))))
    else
     let x9 : Int := IntKind.wrap .i64 (s7 + (1 : Int))
     back ((s1, (s2, (s3, (x9, ())))))
  else
   if ((at_ K_Piiq s3.2.1 s7.toNat).1 == s2) = true then
    if ((at_ K_Piiq s3.2.1 s7.toNat).2.1 == s1) = true then
     some (.inl (true, ()))
    else
     let x10 : Int := IntKind.wrap .i64 (s7 + (1 : Int))
     back ((s1, (s2, (s3, (x10, ())))))
   else
    let x11 : Int := IntKind.wrap .i64 (s7 + (1 : Int))
    back ((s1, (s2, (s3, (x11, ())))))
  else none
 else
  some (.inr (.inl ()))
noncomputable def spec_l2Near_l0 (N : Nat) : Nat → spec_l2Near_l0_H → Option spec_l2Near_l0_O
 | 0, _ => none
 | k + 1, d => spec_l2Near_l0_r N (spec_l2Near_l0 N k) d
theorem spec_l2Near_l0_ok (N : Nat) (back) (d) : roundR Γ_spec_l2Near (assoc []) 0 spec_l2Near_l0_h spec_l2Near_l0_o (loopOf Tryz.f124 0) back d = spec_l2Near_l0_r N back d := by kernel_rfl
noncomputable def F_spec_l2Near (N : Nat) (d : (Int × (List (Int × Int × Unit)) × Unit) × Int × Int × Unit) : Option (Bool × Unit) :=
 let a0 : Int × (List (Int × Int × Unit)) × Unit := d.1
 let a1 : Int := d.2.1
 let a2 : Int := d.2.2.1
 (spec_l2Near_l0 N N ((a1, (a2, (a0, ((0 : Int), ())))))).bind fun o5 => match o5 with
 | .inl d6 =>
  some (d6.1, ())
 | .inr (.inl d7) =>
  some (false, ())
theorem F_spec_l2Near_ok (N : Nat) (d) : fnR Γ_spec_l2Near (assoc [(0, ⟨spec_l2Near_l0_h, spec_l2Near_l0_o, spec_l2Near_l0 N N⟩)]) true [(K_PiSPiiqq, false), (I, false), (I, false)] [.bool] Tryz.f124.results.toList (bodyOf Tryz.f124) d = F_spec_l2Near N d := by kernel_rfl
noncomputable def S_spec_l2Near : FSig := ⟨[(K_PiSPiiqq, false), (I, false), (I, false)], [.bool], true, (G_l2Near)⟩
noncomputable def Γ_spec_l2Neighbors : Ctx := { tk := assoc tks, ar := assoc ars, fs := assoc [(124, S_spec_l2Near)] }
abbrev spec_l2Neighbors_l0_H := Int × (Int × (List (Int × Int × Unit)) × Unit) × List Int × Int × Unit
abbrev spec_l2Neighbors_l0_O := (List Int × Unit) ⊕ Empty
def spec_l2Neighbors_l0_h : Form := [(1, .v I), (2, .box K_PiSPiiqq 0), (5, .own K_Si 99), (6, .v I)]
def spec_l2Neighbors_l0_o : Outs := [(.normal, [(5, .own K_Si 99)])]
noncomputable def spec_l2Neighbors_l0_r (N : Nat) (back : spec_l2Neighbors_l0_H → Option spec_l2Neighbors_l0_O) (d : spec_l2Neighbors_l0_H) : Option spec_l2Neighbors_l0_O :=
 let s1 : Int := d.1
 let s2 : Int × (List (Int × Int × Unit)) × Unit := d.2.1
 let s5 : List Int := d.2.2.1
 let s6 : Int := d.2.2.2.1
 if (decide (s6 < s2.1)) = true then
  (G_l2Near ((s2, (s1, (s6, ()))))).bind fun r6 =>
  if (r6.1) = true then
   if (decide (List.length s5 + List.length ([s6]) ≤ lim)) = true then
   let x7 : Int := IntKind.wrap .i64 (s6 + (1 : Int))
   back ((s1, (s2, (s5 ++ ([s6]), (x7, ())))))
   else none
  else
   let x8 : Int := IntKind.wrap .i64 (s6 + (1 : Int))
   back ((s1, (s2, (s5, (x8, ())))))
 else
  some (.inl (s5, ()))
noncomputable def spec_l2Neighbors_l0 (N : Nat) : Nat → spec_l2Neighbors_l0_H → Option spec_l2Neighbors_l0_O
 | 0, _ => none
 | k + 1, d => spec_l2Neighbors_l0_r N (spec_l2Neighbors_l0 N k) d
theorem spec_l2Neighbors_l0_ok (N : Nat) (back) (d) : roundR Γ_spec_l2Neighbors (assoc []) 0 spec_l2Neighbors_l0_h spec_l2Neighbors_l0_o (loopOf Tryz.f98 0) back d = spec_l2Neighbors_l0_r N back d := by kernel_rfl
noncomputable def F_spec_l2Neighbors (N : Nat) (d : (Int × (List (Int × Int × Unit)) × Unit) × Int × Unit) : Option (List Int × Unit) :=
 let a0 : Int × (List (Int × Int × Unit)) × Unit := d.1
 let a1 : Int := d.2.1
 (spec_l2Neighbors_l0 N N ((a1, (a0, (([] : List Int), ((0 : Int), ())))))).bind fun o4 => match o4 with
 | .inl d5 =>
  some (d5.1, ())
theorem F_spec_l2Neighbors_ok (N : Nat) (d) : fnR Γ_spec_l2Neighbors (assoc [(0, ⟨spec_l2Neighbors_l0_h, spec_l2Neighbors_l0_o, spec_l2Neighbors_l0 N N⟩)]) true [(K_PiSPiiqq, false), (I, false)] [K_Si] Tryz.f98.results.toList (bodyOf Tryz.f98) d = F_spec_l2Neighbors N d := by kernel_rfl
noncomputable def S_spec_l2Neighbors : FSig := ⟨[(K_PiSPiiqq, false), (I, false)], [K_Si], true, (G_l2Neighbors)⟩
noncomputable def Γ_spec_l1Put : Ctx := { tk := assoc tks, ar := assoc ars, fs := assoc [] }
abbrev spec_l1Put_l0_H := List Int × Int × Int × Unit
abbrev spec_l1Put_l0_O := (List Int × Int × Int × Unit) ⊕ Empty
def spec_l1Put_l0_h : Form := [(0, .v K_Si), (1, .v I), (5, .v I)]
def spec_l1Put_l0_o : Outs := [(.normal, [(0, .v K_Si), (1, .v I), (5, .v I)])]
noncomputable def spec_l1Put_l0_r (N : Nat) (back : spec_l1Put_l0_H → Option spec_l1Put_l0_O) (d : spec_l1Put_l0_H) : Option spec_l1Put_l0_O :=
 let s0 : List Int := d.1
 let s1 : Int := d.2.1
 let s5 : Int := d.2.2.1
 if (decide (s5 < (List.length s0 : Int))) = true then
  if (idxIn s5 (List.length s0)) = true then
  if (decide (at_ I s0 s5.toNat < s1)) = true then
   let x11 : Int := IntKind.wrap .i64 (s5 + (1 : Int))
   back ((s0, (s1, (x11, ()))))
  else
   some (.inl ((s0, (s1, (s5, ())))))
  else none
 else
  some (.inl ((s0, (s1, (s5, ())))))
noncomputable def spec_l1Put_l0 (N : Nat) : Nat → spec_l1Put_l0_H → Option spec_l1Put_l0_O
 | 0, _ => none
 | k + 1, d => spec_l1Put_l0_r N (spec_l1Put_l0 N k) d
theorem spec_l1Put_l0_ok (N : Nat) (back) (d) : roundR Γ_spec_l1Put (assoc []) 0 spec_l1Put_l0_h spec_l1Put_l0_o (loopOf Tryz.f97 0) back d = spec_l1Put_l0_r N back d := by kernel_rfl
noncomputable def F_spec_l1Put (N : Nat) (d : List Int × Int × Unit) : Option (List Int × Unit) :=
 let a0 : List Int := d.1
 let a1 : Int := d.2.1
 (spec_l1Put_l0 N N ((a0, (a1, ((0 : Int), ()))))).bind fun o5 => match o5 with
 | .inl d6 =>
  if (decide (d6.2.2.1 < (List.length d6.1 : Int))) = true then
   if (idxIn d6.2.2.1 (List.length d6.1)) = true then
   if (at_ I d6.1 d6.2.2.1.toNat == d6.2.1) = true then
    some (d6.1, ())
   else
    if ((decide (0 ≤ (0 : Int)) && decide ((0 : Int) ≤ d6.2.2.1) && decide (d6.2.2.1 ≤ (List.length d6.1 : Int)))) = true then
    if (decide (List.length ([] : List Int) + List.length (sub_ d6.1 (0 : Int) d6.2.2.1) ≤ lim)) = true then
    let x7 : List Int := ([] : List Int) ++ (sub_ d6.1 (0 : Int) d6.2.2.1)
    if (decide (List.length x7 + List.length ([d6.2.1]) ≤ lim)) = true then
    if ((decide (0 ≤ d6.2.2.1) && decide (d6.2.2.1 ≤ (List.length d6.1 : Int)) && decide ((List.length d6.1 : Int) ≤ (List.length d6.1 : Int)))) = true then
    let x8 : List Int := sub_ d6.1 d6.2.2.1 (List.length d6.1 : Int)
    if (decide (List.length (x7 ++ ([d6.2.1])) + List.length x8 ≤ lim)) = true then
    some (((x7 ++ ([d6.2.1])) ++ x8, ()))
    else none
    else none
    else none
    else none
    else none
   else none
  else
   if ((decide (0 ≤ (0 : Int)) && decide ((0 : Int) ≤ d6.2.2.1) && decide (d6.2.2.1 ≤ (List.length d6.1 : Int)))) = true then
   if (decide (List.length ([] : List Int) + List.length (sub_ d6.1 (0 : Int) d6.2.2.1) ≤ lim)) = true then
   let x9 : List Int := ([] : List Int) ++ (sub_ d6.1 (0 : Int) d6.2.2.1)
   if (decide (List.length x9 + List.length ([d6.2.1]) ≤ lim)) = true then
   if ((decide (0 ≤ d6.2.2.1) && decide (d6.2.2.1 ≤ (List.length d6.1 : Int)) && decide ((List.length d6.1 : Int) ≤ (List.length d6.1 : Int)))) = true then
   let x10 : List Int := sub_ d6.1 d6.2.2.1 (List.length d6.1 : Int)
   if (decide (List.length (x9 ++ ([d6.2.1])) + List.length x10 ≤ lim)) = true then
   some (((x9 ++ ([d6.2.1])) ++ x10, ()))
   else none
   else none
   else none
   else none
   else none
theorem F_spec_l1Put_ok (N : Nat) (d) : fnR Γ_spec_l1Put (assoc [(0, ⟨spec_l1Put_l0_h, spec_l1Put_l0_o, spec_l1Put_l0 N N⟩)]) false [(K_Si, false), (I, false)] [K_Si] Tryz.f97.results.toList (bodyOf Tryz.f97) d = F_spec_l1Put N d := by kernel_rfl
noncomputable def S_spec_l1Put : FSig := ⟨[(K_Si, false), (I, false)], [K_Si], false, (G_l1Put)⟩
noncomputable def Γ_spec_l2Ball : Ctx := { tk := assoc tks, ar := assoc ars, fs := assoc [(97, S_spec_l1Put), (98, S_spec_l2Neighbors)] }
noncomputable def F_spec_l2Ball (N : Nat) (d : (Int × (List (Int × Int × Unit)) × Unit) × Int × Unit) : Option (List Int × Unit) :=
 let a0 : Int × (List (Int × Int × Unit)) × Unit := d.1
 let a1 : Int := d.2.1
 (G_l2Neighbors ((a0, (a1, ())))).bind fun r3 =>
 (G_l1Put ((r3.1, (a1, ())))).bind fun r4 =>
 some (r4.1, ())
theorem F_spec_l2Ball_ok (N : Nat) (d) : fnR Γ_spec_l2Ball (assoc []) false [(K_PiSPiiqq, false), (I, false)] [K_Si] Tryz.f56.results.toList (bodyOf Tryz.f56) d = F_spec_l2Ball N d := by kernel_rfl
noncomputable def S_spec_l2Ball : FSig := ⟨[(K_PiSPiiqq, false), (I, false)], [K_Si], false, (F_spec_l2Ball 0)⟩
noncomputable def Γ_spec_l4Sorted : Ctx := { tk := assoc tks, ar := assoc ars, fs := assoc [], dm := fun t => Nat.beq t 3, cs := assoc [] }
abbrev spec_l4Sorted_l2_H := List Int × List Int × Int × Int × Unit
abbrev spec_l4Sorted_l2_O := (List Int × List Int × Int × Int × Unit) ⊕ Empty
def spec_l4Sorted_l2_h : Form := [(0, .v K_Si), (3, .v K_Si), (4, .v I), (5, .v I)]
def spec_l4Sorted_l2_o : Outs := [(.normal, [(0, .v K_Si), (3, .v K_Si), (4, .v I), (5, .v I)])]
noncomputable def spec_l4Sorted_l2_r (N : Nat) (back : spec_l4Sorted_l2_H → Option spec_l4Sorted_l2_O) (d : spec_l4Sorted_l2_H) : Option spec_l4Sorted_l2_O :=
 let s0 : List Int := d.1
 let s3 : List Int := d.2.1
 let s4 : Int := d.2.2.1
 let s5 : Int := d.2.2.2.1
 if (decide (s5 < (List.length s3 : Int))) = true then
  if (idxIn s5 (List.length s3)) = true then
  if (idxIn s4 (List.length s0)) = true then
  if (decide (at_ I s3 s5.toNat ≤ at_ I s0 s4.toNat)) = true then
   let x26 : Int := IntKind.wrap .i64 (s5 + (1 : Int))
   back ((s0, (s3, (s4, (x26, ())))))
  else
   some (.inl ((s0, (s3, (s4, (s5, ()))))))
  else none
  else none
 else
  some (.inl ((s0, (s3, (s4, (s5, ()))))))
noncomputable def spec_l4Sorted_l2 (N : Nat) : Nat → spec_l4Sorted_l2_H → Option spec_l4Sorted_l2_O
 | 0, _ => none
 | k + 1, d => spec_l4Sorted_l2_r N (spec_l4Sorted_l2 N k) d
theorem spec_l4Sorted_l2_ok (N : Nat) (back) (d) : roundR Γ_spec_l4Sorted (assoc []) 2 spec_l4Sorted_l2_h spec_l4Sorted_l2_o (loopOf Tryz.f118 2) back d = spec_l4Sorted_l2_r N back d := by kernel_rfl
abbrev spec_l4Sorted_l0_H := List Int × List Int × Int × Unit
abbrev spec_l4Sorted_l0_O := (List Int × Unit) ⊕ Empty
def spec_l4Sorted_l0_h : Form := [(0, .v K_Si), (3, .v K_Si), (4, .v I)]
def spec_l4Sorted_l0_o : Outs := [(.normal, [(3, .v K_Si)])]
noncomputable def spec_l4Sorted_l0_r (N : Nat) (back : spec_l4Sorted_l0_H → Option spec_l4Sorted_l0_O) (d : spec_l4Sorted_l0_H) : Option spec_l4Sorted_l0_O :=
 let s0 : List Int := d.1
 let s3 : List Int := d.2.1
 let s4 : Int := d.2.2.1
 if (decide (s4 < (List.length s0 : Int))) = true then
  (spec_l4Sorted_l2 N N ((s0, (s3, (s4, ((0 : Int), ())))))).bind fun o20 => match o20 with
  | .inl d21 =>
   if ((decide (0 ≤ (0 : Int)) && decide ((0 : Int) ≤ d21.2.2.2.1) && decide (d21.2.2.2.1 ≤ (List.length d21.2.1 : Int)))) = true then
   let x22 : List Int := sub_ d21.2.1 (0 : Int) d21.2.2.2.1
   if (decide (List.length ([] : List Int) + List.length x22 ≤ lim)) = true then
   if (idxIn d21.2.2.1 (List.length d21.1)) = true then
   if (decide (List.length (([] : List Int) ++ x22) + List.length ([at_ I d21.1 d21.2.2.1.toNat]) ≤ lim)) = true then
   let x23 : List Int := (([] : List Int) ++ x22) ++ ([at_ I d21.1 d21.2.2.1.toNat])
   if ((decide (0 ≤ d21.2.2.2.1) && decide (d21.2.2.2.1 ≤ (List.length d21.2.1 : Int)) && decide ((List.length d21.2.1 : Int) ≤ (List.length d21.2.1 : Int)))) = true then
   let x24 : List Int := sub_ d21.2.1 d21.2.2.2.1 (List.length d21.2.1 : Int)
   if (decide (List.length x23 + List.length x24 ≤ lim)) = true then
   let x25 : Int := IntKind.wrap .i64 (d21.2.2.1 + (1 : Int))
   back ((d21.1, (x23 ++ x24, (x25, ()))))
   else none
   else none
   else none
   else none
   else none
   else none
 else
  some (.inl (s3, ()))
noncomputable def spec_l4Sorted_l0 (N : Nat) : Nat → spec_l4Sorted_l0_H → Option spec_l4Sorted_l0_O
 | 0, _ => none
 | k + 1, d => spec_l4Sorted_l0_r N (spec_l4Sorted_l0 N k) d
theorem spec_l4Sorted_l0_ok (N : Nat) (back) (d) : roundR Γ_spec_l4Sorted (assoc [(2, ⟨spec_l4Sorted_l2_h, spec_l4Sorted_l2_o, spec_l4Sorted_l2 N N⟩)]) 0 spec_l4Sorted_l0_h spec_l4Sorted_l0_o (loopOf Tryz.f118 0) back d = spec_l4Sorted_l0_r N back d := by kernel_rfl
noncomputable def F_spec_l4Sorted (N : Nat) (d : List Int × Unit) : Option (List Int × Unit) :=
 let a0 : List Int := d.1
 (spec_l4Sorted_l0 N N ((a0, (([] : List Int), ((0 : Int), ()))))).bind fun o17 => match o17 with
 | .inl d18 =>
  some (d18.1, ())
theorem F_spec_l4Sorted_ok (N : Nat) (d) : fnR Γ_spec_l4Sorted (assoc [(0, ⟨spec_l4Sorted_l0_h, spec_l4Sorted_l0_o, spec_l4Sorted_l0 N N⟩)]) false [(K_Si, false)] [K_Si] Tryz.f118.results.toList (bodyOf Tryz.f118) d = F_spec_l4Sorted N d := by kernel_rfl
noncomputable def S_spec_l4Sorted : FSig := ⟨[(K_Si, false)], [K_Si], false, (G_l4Sorted)⟩
noncomputable def Γ_spec_l4Less : Ctx := { tk := assoc tks, ar := assoc ars, fs := assoc [] }
abbrev spec_l4Less_l0_H := List Int × List Int × Int × Unit
abbrev spec_l4Less_l0_O := (Bool × Unit) ⊕ Unit ⊕ Empty
def spec_l4Less_l0_h : Form := [(0, .v K_Si), (1, .v K_Si), (5, .v I)]
def spec_l4Less_l0_o : Outs := [(.ret, [(4, .v .bool)]), (.normal, [])]
noncomputable def spec_l4Less_l0_r (N : Nat) (back : spec_l4Less_l0_H → Option spec_l4Less_l0_O) (d : spec_l4Less_l0_H) : Option spec_l4Less_l0_O :=
 let s0 : List Int := d.1
 let s1 : List Int := d.2.1
 let s5 : Int := d.2.2.1
 if (decide (s5 < (List.length s0 : Int))) = true then
  if (idxIn s5 (List.length s0)) = true then
  if (idxIn s5 (List.length s1)) = true then
  if (at_ I s0 s5.toNat != at_ I s1 s5.toNat) = true then
   if (idxIn s5 (List.length s0)) = true then
   if (idxIn s5 (List.length s1)) = true then
   some (.inl (decide (at_ I s0 s5.toNat < at_ I s1 s5.toNat), ()))
   else none
   else none
  else
   let x5 : Int := IntKind.wrap .i64 (s5 + (1 : Int))
   back ((s0, (s1, (x5, ()))))
  else none
  else none
 else
  some (.inr (.inl ()))
noncomputable def spec_l4Less_l0 (N : Nat) : Nat → spec_l4Less_l0_H → Option spec_l4Less_l0_O
 | 0, _ => none
 | k + 1, d => spec_l4Less_l0_r N (spec_l4Less_l0 N k) d
theorem spec_l4Less_l0_ok (N : Nat) (back) (d) : roundR Γ_spec_l4Less (assoc []) 0 spec_l4Less_l0_h spec_l4Less_l0_o (loopOf Tryz.f131 0) back d = spec_l4Less_l0_r N back d := by kernel_rfl
noncomputable def F_spec_l4Less (N : Nat) (d : List Int × List Int × Unit) : Option (Bool × Unit) :=
 let a0 : List Int := d.1
 let a1 : List Int := d.2.1
 (spec_l4Less_l0 N N ((a0, (a1, ((0 : Int), ()))))).bind fun o2 => match o2 with
 | .inl d3 =>
  some (d3.1, ())
 | .inr (.inl d4) =>
  some (false, ())
theorem F_spec_l4Less_ok (N : Nat) (d) : fnR Γ_spec_l4Less (assoc [(0, ⟨spec_l4Less_l0_h, spec_l4Less_l0_o, spec_l4Less_l0 N N⟩)]) true [(K_Si, false), (K_Si, false)] [.bool] Tryz.f131.results.toList (bodyOf Tryz.f131) d = F_spec_l4Less N d := by kernel_rfl
noncomputable def S_spec_l4Less : FSig := ⟨[(K_Si, false), (K_Si, false)], [.bool], true, (G_l4Less)⟩
noncomputable def Γ_spec_l1Same : Ctx := { tk := assoc tks, ar := assoc ars, fs := assoc [] }
abbrev spec_l1Same_l0_H := List Int × List Int × Int × Unit
abbrev spec_l1Same_l0_O := (Bool × Unit) ⊕ Unit ⊕ Empty
def spec_l1Same_l0_h : Form := [(0, .v K_Si), (1, .v K_Si), (5, .v I)]
def spec_l1Same_l0_o : Outs := [(.ret, [(4, .v .bool)]), (.normal, [])]
noncomputable def spec_l1Same_l0_r (N : Nat) (back : spec_l1Same_l0_H → Option spec_l1Same_l0_O) (d : spec_l1Same_l0_H) : Option spec_l1Same_l0_O :=
 let s0 : List Int := d.1
 let s1 : List Int := d.2.1
 let s5 : Int := d.2.2.1
 if (decide (s5 < (List.length s0 : Int))) = true then
  if (idxIn s5 (List.length s0)) = true then
  if (idxIn s5 (List.length s1)) = true then
  if (at_ I s0 s5.toNat != at_ I s1 s5.toNat) = true then
   some (.inl (false, ()))
  else
   let x5 : Int := IntKind.wrap .i64 (s5 + (1 : Int))
   back ((s0, (s1, (x5, ()))))
  else none
  else none
 else
  some (.inr (.inl ()))
noncomputable def spec_l1Same_l0 (N : Nat) : Nat → spec_l1Same_l0_H → Option spec_l1Same_l0_O
 | 0, _ => none
 | k + 1, d => spec_l1Same_l0_r N (spec_l1Same_l0 N k) d
theorem spec_l1Same_l0_ok (N : Nat) (back) (d) : roundR Γ_spec_l1Same (assoc []) 0 spec_l1Same_l0_h spec_l1Same_l0_o (loopOf Tryz.f108 0) back d = spec_l1Same_l0_r N back d := by kernel_rfl
noncomputable def F_spec_l1Same (N : Nat) (d : List Int × List Int × Unit) : Option (Bool × Unit) :=
 let a0 : List Int := d.1
 let a1 : List Int := d.2.1
 if ((List.length a0 : Int) != (List.length a1 : Int)) = true then
  some (false, ())
 else
  (spec_l1Same_l0 N N ((a0, (a1, ((0 : Int), ()))))).bind fun o2 => match o2 with
  | .inl d3 =>
   some (d3.1, ())
  | .inr (.inl d4) =>
   some (true, ())
theorem F_spec_l1Same_ok (N : Nat) (d) : fnR Γ_spec_l1Same (assoc [(0, ⟨spec_l1Same_l0_h, spec_l1Same_l0_o, spec_l1Same_l0 N N⟩)]) true [(K_Si, false), (K_Si, false)] [.bool] Tryz.f108.results.toList (bodyOf Tryz.f108) d = F_spec_l1Same N d := by kernel_rfl
noncomputable def S_spec_l1Same : FSig := ⟨[(K_Si, false), (K_Si, false)], [.bool], true, (G_l1Same)⟩
noncomputable def Γ_spec_l4Put : Ctx := { tk := assoc tks, ar := assoc ars, fs := assoc [(108, S_spec_l1Same), (131, S_spec_l4Less)] }
abbrev spec_l4Put_l0_H := List (List Int) × List Int × Int × Unit
abbrev spec_l4Put_l0_O := (List (List Int) × List Int × Int × Unit) ⊕ Empty
def spec_l4Put_l0_h : Form := [(0, .v K_SSi), (1, .v K_Si), (5, .v I)]
def spec_l4Put_l0_o : Outs := [(.normal, [(0, .v K_SSi), (1, .v K_Si), (5, .v I)])]
noncomputable def spec_l4Put_l0_r (N : Nat) (back : spec_l4Put_l0_H → Option spec_l4Put_l0_O) (d : spec_l4Put_l0_H) : Option spec_l4Put_l0_O :=
 let s0 : List (List Int) := d.1
 let s1 : List Int := d.2.1
 let s5 : Int := d.2.2.1
 if (decide (s5 < (List.length s0 : Int))) = true then
  if (idxIn s5 (List.length s0)) = true then
  (G_l4Less ((at_ K_Si s0 s5.toNat, (s1, ())))).bind fun r15 =>
  if (r15.1) = true then
   let x16 : Int := IntKind.wrap .i64 (s5 + (1 : Int))
   back ((s0, (s1, (x16, ()))))
  else
   some (.inl ((s0, (s1, (s5, ())))))
  else none
 else
  some (.inl ((s0, (s1, (s5, ())))))
noncomputable def spec_l4Put_l0 (N : Nat) : Nat → spec_l4Put_l0_H → Option spec_l4Put_l0_O
 | 0, _ => none
 | k + 1, d => spec_l4Put_l0_r N (spec_l4Put_l0 N k) d
theorem spec_l4Put_l0_ok (N : Nat) (back) (d) : roundR Γ_spec_l4Put (assoc []) 0 spec_l4Put_l0_h spec_l4Put_l0_o (loopOf Tryz.f117 0) back d = spec_l4Put_l0_r N back d := by kernel_rfl
noncomputable def F_spec_l4Put (N : Nat) (d : List (List Int) × List Int × Unit) : Option (List (List Int) × Unit) :=
 let a0 : List (List Int) := d.1
 let a1 : List Int := d.2.1
 (spec_l4Put_l0 N N ((a0, (a1, ((0 : Int), ()))))).bind fun o8 => match o8 with
 | .inl d9 =>
  if (decide (d9.2.2.1 < (List.length d9.1 : Int))) = true then
   if (idxIn d9.2.2.1 (List.length d9.1)) = true then
   (G_l1Same ((at_ K_Si d9.1 d9.2.2.1.toNat, (d9.2.1, ())))).bind fun r10 =>
   if (r10.1) = true then
    some (d9.1, ())
   else
    if ((decide (0 ≤ (0 : Int)) && decide ((0 : Int) ≤ d9.2.2.1) && decide (d9.2.2.1 ≤ (List.length d9.1 : Int)))) = true then
    if (decide (List.length ([] : List (List Int)) + List.length (sub_ d9.1 (0 : Int) d9.2.2.1) ≤ lim)) = true then
    let x11 : List (List Int) := ([] : List (List Int)) ++ (sub_ d9.1 (0 : Int) d9.2.2.1)
    if (decide (List.length x11 + List.length ([d9.2.1]) ≤ lim)) = true then
    if ((decide (0 ≤ d9.2.2.1) && decide (d9.2.2.1 ≤ (List.length d9.1 : Int)) && decide ((List.length d9.1 : Int) ≤ (List.length d9.1 : Int)))) = true then
    let x12 : List (List Int) := sub_ d9.1 d9.2.2.1 (List.length d9.1 : Int)
    if (decide (List.length (x11 ++ ([d9.2.1])) + List.length x12 ≤ lim)) = true then
    some (((x11 ++ ([d9.2.1])) ++ x12, ()))
    else none
    else none
    else none
    else none
    else none
   else none
  else
   if ((decide (0 ≤ (0 : Int)) && decide ((0 : Int) ≤ d9.2.2.1) && decide (d9.2.2.1 ≤ (List.length d9.1 : Int)))) = true then
   if (decide (List.length ([] : List (List Int)) + List.length (sub_ d9.1 (0 : Int) d9.2.2.1) ≤ lim)) = true then
   let x13 : List (List Int) := ([] : List (List Int)) ++ (sub_ d9.1 (0 : Int) d9.2.2.1)
   if (decide (List.length x13 + List.length ([d9.2.1]) ≤ lim)) = true then
   if ((decide (0 ≤ d9.2.2.1) && decide (d9.2.2.1 ≤ (List.length d9.1 : Int)) && decide ((List.length d9.1 : Int) ≤ (List.length d9.1 : Int)))) = true then
   let x14 : List (List Int) := sub_ d9.1 d9.2.2.1 (List.length d9.1 : Int)
   if (decide (List.length (x13 ++ ([d9.2.1])) + List.length x14 ≤ lim)) = true then
   some (((x13 ++ ([d9.2.1])) ++ x14, ()))
   else none
   else none
   else none
   else none
   else none
theorem F_spec_l4Put_ok (N : Nat) (d) : fnR Γ_spec_l4Put (assoc [(0, ⟨spec_l4Put_l0_h, spec_l4Put_l0_o, spec_l4Put_l0 N N⟩)]) false [(K_SSi, false), (K_Si, false)] [K_SSi] Tryz.f117.results.toList (bodyOf Tryz.f117) d = F_spec_l4Put N d := by kernel_rfl
noncomputable def S_spec_l4Put : FSig := ⟨[(K_SSi, false), (K_Si, false)], [K_SSi], false, (G_l4Put)⟩
noncomputable def Γ_spec_l4Moves : Ctx := { tk := assoc tks, ar := assoc ars, fs := assoc [(56, S_spec_l2Ball), (73, S_spec_l1Own), (117, S_spec_l4Put), (118, S_spec_l4Sorted)], dm := fun t => Nat.beq t 5 || Nat.beq t 11, cs := assoc [] }
abbrev spec_l4Moves_l4_H := List Int × (Int × (List (Int × Int × Unit)) × Unit) × List (List Int) × Int × List (List Int) × List Int × Int × Int × Unit
abbrev spec_l4Moves_l4_O := (List Int × (Int × (List (Int × Int × Unit)) × Unit) × List (List Int) × Int × List (List Int) × List Int × Int × Unit) ⊕ Empty
def spec_l4Moves_l4_h : Form := [(1, .v K_Si), (2, .box K_PiSPiiqq 0), (5, .v K_SSi), (6, .v I), (7, .own K_SSi 100), (8, .v K_Si), (9, .v I), (10, .v I)]
def spec_l4Moves_l4_o : Outs := [(.normal, [(1, .v K_Si), (2, .box K_PiSPiiqq 0), (5, .v K_SSi), (6, .v I), (7, .own K_SSi 100), (8, .v K_Si), (9, .v I)])]
noncomputable def spec_l4Moves_l4_r (N : Nat) (back : spec_l4Moves_l4_H → Option spec_l4Moves_l4_O) (d : spec_l4Moves_l4_H) : Option spec_l4Moves_l4_O :=
 let s1 : List Int := d.1
 let s2 : Int × (List (Int × Int × Unit)) × Unit := d.2.1
 let s5 : List (List Int) := d.2.2.1
 let s6 : Int := d.2.2.2.1
 let s7 : List (List Int) := d.2.2.2.2.1
 let s8 : List Int := d.2.2.2.2.2.1
 let s9 : Int := d.2.2.2.2.2.2.1
 let s10 : Int := d.2.2.2.2.2.2.2.1
 if (decide (s10 < (List.length s8 : Int))) = true then
  if (idxIn s9 (List.length s5)) = true then
  ((F_spec_l1Own 0) (at_ K_Si s5 s9.toNat, ())).bind fun r51 =>
  if (idxIn s10 (List.length s8)) = true then
  if (decide (List.length r51.1 + List.length ([at_ I s8 s10.toNat]) ≤ lim)) = true then
  let x52 : List Int := r51.1 ++ ([at_ I s8 s10.toNat])
  if (decide (List.length s7 + List.length ([x52]) ≤ lim)) = true then
  let x53 : Int := IntKind.wrap .i64 (s10 + (1 : Int))
  back ((s1, (s2, (s5, (s6, (s7 ++ ([x52]), (s8, (s9, (x53, ())))))))))
  else none
  else none
  else none
  else none
 else
  some (.inl ((s1, (s2, (s5, (s6, (s7, (s8, (s9, ())))))))))
noncomputable def spec_l4Moves_l4 (N : Nat) : Nat → spec_l4Moves_l4_H → Option spec_l4Moves_l4_O
 | 0, _ => none
 | k + 1, d => spec_l4Moves_l4_r N (spec_l4Moves_l4 N k) d
theorem spec_l4Moves_l4_ok (N : Nat) (back) (d) : roundR Γ_spec_l4Moves (assoc []) 4 spec_l4Moves_l4_h spec_l4Moves_l4_o (loopOf Tryz.f83 4) back d = spec_l4Moves_l4_r N back d := by kernel_rfl
abbrev spec_l4Moves_l2_H := List Int × (Int × (List (Int × Int × Unit)) × Unit) × List (List Int) × Int × List (List Int) × List Int × Int × Unit
abbrev spec_l4Moves_l2_O := (List Int × (Int × (List (Int × Int × Unit)) × Unit) × Int × List (List Int) × Unit) ⊕ Empty
def spec_l4Moves_l2_h : Form := [(1, .v K_Si), (2, .box K_PiSPiiqq 0), (5, .v K_SSi), (6, .v I), (7, .own K_SSi 100), (8, .v K_Si), (9, .v I)]
def spec_l4Moves_l2_o : Outs := [(.normal, [(1, .v K_Si), (2, .box K_PiSPiiqq 0), (6, .v I), (7, .own K_SSi 100)])]
noncomputable def spec_l4Moves_l2_r (N : Nat) (back : spec_l4Moves_l2_H → Option spec_l4Moves_l2_O) (d : spec_l4Moves_l2_H) : Option spec_l4Moves_l2_O :=
 let s1 : List Int := d.1
 let s2 : Int × (List (Int × Int × Unit)) × Unit := d.2.1
 let s5 : List (List Int) := d.2.2.1
 let s6 : Int := d.2.2.2.1
 let s7 : List (List Int) := d.2.2.2.2.1
 let s8 : List Int := d.2.2.2.2.2.1
 let s9 : Int := d.2.2.2.2.2.2.1
 if (decide (s9 < (List.length s5 : Int))) = true then
  (spec_l4Moves_l4 N N ((s1, (s2, (s5, (s6, (s7, (s8, (s9, ((0 : Int), ())))))))))).bind fun o48 => match o48 with
  | .inl d49 =>
   let x50 : Int := IntKind.wrap .i64 (d49.2.2.2.2.2.2.1 + (1 : Int))
   back ((d49.1, (d49.2.1, (d49.2.2.1, (d49.2.2.2.1, (d49.2.2.2.2.1, (d49.2.2.2.2.2.1, (x50, ()))))))))
 else
  some (.inl ((s1, (s2, (s6, (s7, ()))))))
noncomputable def spec_l4Moves_l2 (N : Nat) : Nat → spec_l4Moves_l2_H → Option spec_l4Moves_l2_O
 | 0, _ => none
 | k + 1, d => spec_l4Moves_l2_r N (spec_l4Moves_l2 N k) d
theorem spec_l4Moves_l2_ok (N : Nat) (back) (d) : roundR Γ_spec_l4Moves (assoc [(4, ⟨spec_l4Moves_l4_h, spec_l4Moves_l4_o, spec_l4Moves_l4 N N⟩)]) 2 spec_l4Moves_l2_h spec_l4Moves_l2_o (loopOf Tryz.f83 2) back d = spec_l4Moves_l2_r N back d := by kernel_rfl
abbrev spec_l4Moves_l0_H := List Int × (Int × (List (Int × Int × Unit)) × Unit) × List (List Int) × Int × Unit
abbrev spec_l4Moves_l0_O := (List (List Int) × Unit) ⊕ Empty
def spec_l4Moves_l0_h : Form := [(1, .v K_Si), (2, .box K_PiSPiiqq 0), (5, .v K_SSi), (6, .v I)]
def spec_l4Moves_l0_o : Outs := [(.normal, [(5, .v K_SSi)])]
noncomputable def spec_l4Moves_l0_r (N : Nat) (back : spec_l4Moves_l0_H → Option spec_l4Moves_l0_O) (d : spec_l4Moves_l0_H) : Option spec_l4Moves_l0_O :=
 let s1 : List Int := d.1
 let s2 : Int × (List (Int × Int × Unit)) × Unit := d.2.1
 let s5 : List (List Int) := d.2.2.1
 let s6 : Int := d.2.2.2.1
 if (decide (s6 < (List.length s1 : Int))) = true then
  if (idxIn s6 (List.length s1)) = true then
  ((F_spec_l2Ball 0) ((s2, (at_ I s1 s6.toNat, ())))).bind fun r35 =>
  (spec_l4Moves_l2 N N ((s1, (s2, (s5, (s6, (([] : List (List Int)), (r35.1, ((0 : Int), ()))))))))).bind fun o42 => match o42 with
  | .inl d43 =>
   let x44 : Int := IntKind.wrap .i64 (d43.2.2.1 + (1 : Int))
   back ((d43.1, (d43.2.1, (d43.2.2.2.1, (x44, ())))))
  else none
 else
  some (.inl (s5, ()))
noncomputable def spec_l4Moves_l0 (N : Nat) : Nat → spec_l4Moves_l0_H → Option spec_l4Moves_l0_O
 | 0, _ => none
 | k + 1, d => spec_l4Moves_l0_r N (spec_l4Moves_l0 N k) d
theorem spec_l4Moves_l0_ok (N : Nat) (back) (d) : roundR Γ_spec_l4Moves (assoc [(2, ⟨spec_l4Moves_l2_h, spec_l4Moves_l2_o, spec_l4Moves_l2 N N⟩)]) 0 spec_l4Moves_l0_h spec_l4Moves_l0_o (loopOf Tryz.f83 0) back d = spec_l4Moves_l0_r N back d := by kernel_rfl
abbrev spec_l4Moves_l6_H := List (List Int) × List (List Int) × Int × Unit
abbrev spec_l4Moves_l6_O := (List (List Int) × Unit) ⊕ Empty
def spec_l4Moves_l6_h : Form := [(5, .v K_SSi), (11, .v K_SSi), (12, .v I)]
def spec_l4Moves_l6_o : Outs := [(.normal, [(11, .v K_SSi)])]
noncomputable def spec_l4Moves_l6_r (N : Nat) (back : spec_l4Moves_l6_H → Option spec_l4Moves_l6_O) (d : spec_l4Moves_l6_H) : Option spec_l4Moves_l6_O :=
 let s5 : List (List Int) := d.1
 let s11 : List (List Int) := d.2.1
 let s12 : Int := d.2.2.1
 if (decide (s12 < (List.length s5 : Int))) = true then
  if (idxIn s12 (List.length s5)) = true then
  (G_l4Sorted (at_ K_Si s5 s12.toNat, ())).bind fun r54 =>
  (G_l4Put ((s11, (r54.1, ())))).bind fun r55 =>
  let x56 : Int := IntKind.wrap .i64 (s12 + (1 : Int))
  back ((s5, (r55.1, (x56, ()))))
  else none
 else
  some (.inl (s11, ()))
noncomputable def spec_l4Moves_l6 (N : Nat) : Nat → spec_l4Moves_l6_H → Option spec_l4Moves_l6_O
 | 0, _ => none
 | k + 1, d => spec_l4Moves_l6_r N (spec_l4Moves_l6 N k) d
theorem spec_l4Moves_l6_ok (N : Nat) (back) (d) : roundR Γ_spec_l4Moves (assoc []) 6 spec_l4Moves_l6_h spec_l4Moves_l6_o (loopOf Tryz.f83 6) back d = spec_l4Moves_l6_r N back d := by kernel_rfl
noncomputable def F_spec_l4Moves (N : Nat) (d : (Int × (List (Int × Int × Unit)) × Unit) × List Int × Unit) : Option (List (List Int) × Unit) :=
 let a0 : Int × (List (Int × Int × Unit)) × Unit := d.1
 let a1 : List Int := d.2.1
 (spec_l4Moves_l0 N N ((a1, (a0, ([([] : List Int)], ((0 : Int), ())))))).bind fun o28 => match o28 with
 | .inl d29 =>
  (spec_l4Moves_l6 N N ((d29.1, (([] : List (List Int)), ((0 : Int), ()))))).bind fun o33 => match o33 with
  | .inl d34 =>
   some (d34.1, ())
theorem F_spec_l4Moves_ok (N : Nat) (d) : fnR Γ_spec_l4Moves (assoc [(0, ⟨spec_l4Moves_l0_h, spec_l4Moves_l0_o, spec_l4Moves_l0 N N⟩), (6, ⟨spec_l4Moves_l6_h, spec_l4Moves_l6_o, spec_l4Moves_l6 N N⟩)]) false [(K_PiSPiiqq, false), (K_Si, false)] [K_SSi] Tryz.f83.results.toList (bodyOf Tryz.f83) d = F_spec_l4Moves N d := by kernel_rfl
noncomputable def S_spec_l4Moves : FSig := ⟨[(K_PiSPiiqq, false), (K_Si, false)], [K_SSi], false, (G_l4Moves)⟩
noncomputable def Γ_spec_l4At : Ctx := { tk := assoc tks, ar := assoc ars, fs := assoc [(108, S_spec_l1Same)] }
abbrev spec_l4At_l0_H := List (List Int) × List Int × Int × Unit
abbrev spec_l4At_l0_O := (Int × Unit) ⊕ Unit ⊕ Empty
def spec_l4At_l0_h : Form := [(0, .v K_SSi), (1, .v K_Si), (5, .v I)]
def spec_l4At_l0_o : Outs := [(.ret, [(4, .v I)]), (.normal, [])]
noncomputable def spec_l4At_l0_r (N : Nat) (back : spec_l4At_l0_H → Option spec_l4At_l0_O) (d : spec_l4At_l0_H) : Option spec_l4At_l0_O :=
 let s0 : List (List Int) := d.1
 let s1 : List Int := d.2.1
 let s5 : Int := d.2.2.1
 if (decide (s5 < (List.length s0 : Int))) = true then
  if (idxIn s5 (List.length s0)) = true then
  (G_l1Same ((at_ K_Si s0 s5.toNat, (s1, ())))).bind fun r6 =>
  if (r6.1) = true then
   some (.inl (s5, ()))
  else
   let x7 : Int := IntKind.wrap .i64 (s5 + (1 : Int))
   back ((s0, (s1, (x7, ()))))
  else none
 else
  some (.inr (.inl ()))
noncomputable def spec_l4At_l0 (N : Nat) : Nat → spec_l4At_l0_H → Option spec_l4At_l0_O
 | 0, _ => none
 | k + 1, d => spec_l4At_l0_r N (spec_l4At_l0 N k) d
theorem spec_l4At_l0_ok (N : Nat) (back) (d) : roundR Γ_spec_l4At (assoc []) 0 spec_l4At_l0_h spec_l4At_l0_o (loopOf Tryz.f66 0) back d = spec_l4At_l0_r N back d := by kernel_rfl
noncomputable def F_spec_l4At (N : Nat) (d : List (List Int) × List Int × Unit) : Option (Int × Unit) :=
 let a0 : List (List Int) := d.1
 let a1 : List Int := d.2.1
 (spec_l4At_l0 N N ((a0, (a1, ((0 : Int), ()))))).bind fun o3 => match o3 with
 | .inl d4 =>
  some (d4.1, ())
 | .inr (.inl d5) =>
  some ((-1 : Int), ())
theorem F_spec_l4At_ok (N : Nat) (d) : fnR Γ_spec_l4At (assoc [(0, ⟨spec_l4At_l0_h, spec_l4At_l0_o, spec_l4At_l0 N N⟩)]) true [(K_SSi, false), (K_Si, false)] [I] Tryz.f66.results.toList (bodyOf Tryz.f66) d = F_spec_l4At N d := by kernel_rfl
noncomputable def S_spec_l4At : FSig := ⟨[(K_SSi, false), (K_Si, false)], [I], true, (G_l4At)⟩
noncomputable def Γ_spec_l4Make : Ctx := { tk := assoc tks, ar := assoc ars, fs := assoc [(56, S_spec_l2Ball), (66, S_spec_l4At), (83, S_spec_l4Moves), (102, S_spec_l4Configs)], cs := assoc [], gs := assoc [], eqt := inL [], md := md0, ad := fun t => bif Nat.beq t 5 then 1 else 99 }
abbrev spec_l4Make_l2_H := (Int × (List (Int × Int × Unit)) × Unit) × (List (List Int) × List (List Int) × List (List Int) × Unit) × (List (List Int) × List (List Int) × List (List Int) × Unit) × Int × List (List Int) × List Int × Int × Unit
abbrev spec_l4Make_l2_O := ((Int × (List (Int × Int × Unit)) × Unit) × (List (List Int) × List (List Int) × List (List Int) × Unit) × (List (List Int) × List (List Int) × List (List Int) × Unit) × Int × List Int × Unit) ⊕ Empty
def spec_l4Make_l2_h : Form := [(2, .box K_PiSPiiqq 0), (4, .box K_PZSiSSiSSiq 99), (5, .box K_PZSiSSiSSiq 1), (6, .v I), (7, .v K_SSi), (8, .own K_Si 99), (9, .v I)]
def spec_l4Make_l2_o : Outs := [(.normal, [(2, .box K_PiSPiiqq 0), (4, .box K_PZSiSSiSSiq 99), (5, .box K_PZSiSSiSSiq 1), (6, .v I), (8, .own K_Si 99)])]
noncomputable def spec_l4Make_l2_r (N : Nat) (back : spec_l4Make_l2_H → Option spec_l4Make_l2_O) (d : spec_l4Make_l2_H) : Option spec_l4Make_l2_O :=
 let s2 : Int × (List (Int × Int × Unit)) × Unit := d.1
 let s4 : List (List Int) × List (List Int) × List (List Int) × Unit := d.2.1
 let s5 : List (List Int) × List (List Int) × List (List Int) × Unit := d.2.2.1
 let s6 : Int := d.2.2.2.1
 let s7 : List (List Int) := d.2.2.2.2.1
 let s8 : List Int := d.2.2.2.2.2.1
 let s9 : Int := d.2.2.2.2.2.2.1
 if (decide (s9 < (List.length s7 : Int))) = true then
  if (idxIn s9 (List.length s7)) = true then
  (G_l4At ((s5.1, (at_ K_Si s7 s9.toNat, ())))).bind fun r36 =>
  if (decide (List.length s8 + List.length ([r36.1]) ≤ lim)) = true then
  let x37 : Int := IntKind.wrap .i64 (s9 + (1 : Int))
  back ((s2, (s4, (s5, (s6, (s7, (s8 ++ ([r36.1]), (x37, ()))))))))
  else none
  else none
 else
  some (.inl ((s2, (s4, (s5, (s6, (s8, ())))))))
noncomputable def spec_l4Make_l2 (N : Nat) : Nat → spec_l4Make_l2_H → Option spec_l4Make_l2_O
 | 0, _ => none
 | k + 1, d => spec_l4Make_l2_r N (spec_l4Make_l2 N k) d
theorem spec_l4Make_l2_ok (N : Nat) (back) (d) : roundR Γ_spec_l4Make (assoc []) 2 spec_l4Make_l2_h spec_l4Make_l2_o (loopOf Tryz.f61 2) back d = spec_l4Make_l2_r N back d := by kernel_rfl
abbrev spec_l4Make_l0_H := (Int × (List (Int × Int × Unit)) × Unit) × (List (List Int) × List (List Int) × List (List Int) × Unit) × (List (List Int) × List (List Int) × List (List Int) × Unit) × Int × Unit
abbrev spec_l4Make_l0_O := ((Int × (List (Int × Int × Unit)) × Unit) × (List (List Int) × List (List Int) × List (List Int) × Unit) × (List (List Int) × List (List Int) × List (List Int) × Unit) × Unit) ⊕ Empty
def spec_l4Make_l0_h : Form := [(2, .box K_PiSPiiqq 0), (4, .box K_PZSiSSiSSiq 99), (5, .box K_PZSiSSiSSiq 1), (6, .v I)]
def spec_l4Make_l0_o : Outs := [(.normal, [(2, .box K_PiSPiiqq 0), (4, .box K_PZSiSSiSSiq 99), (5, .box K_PZSiSSiSSiq 1)])]
noncomputable def spec_l4Make_l0_r (N : Nat) (back : spec_l4Make_l0_H → Option spec_l4Make_l0_O) (d : spec_l4Make_l0_H) : Option spec_l4Make_l0_O :=
 let s2 : Int × (List (Int × Int × Unit)) × Unit := d.1
 let s4 : List (List Int) × List (List Int) × List (List Int) × Unit := d.2.1
 let s5 : List (List Int) × List (List Int) × List (List Int) × Unit := d.2.2.1
 let s6 : Int := d.2.2.2.1
 if (decide (s6 < (List.length s5.1 : Int))) = true then
  if (idxIn s6 (List.length s5.1)) = true then
  (G_l4Moves ((s2, (at_ K_Si s5.1 s6.toNat, ())))).bind fun r29 =>
  (spec_l4Make_l2 N N ((s2, (s4, (s5, (s6, (r29.1, (([] : List Int), ((0 : Int), ()))))))))).bind fun o32 => match o32 with
  | .inl d33 =>
   if (decide (List.length d33.2.2.1.2.1 + List.length ([d33.2.2.2.2.1]) ≤ lim)) = true then
   let x34 : List (List Int) := d33.2.2.1.2.1 ++ ([d33.2.2.2.2.1])
   let x35 : Int := IntKind.wrap .i64 (d33.2.2.2.1 + (1 : Int))
   back ((d33.1, (d33.2.1, ((d33.2.2.1.1, (x34, d33.2.2.1.2.2)), (x35, ())))))
   else none
  else none
 else
  some (.inl ((s2, (s4, (s5, ())))))
noncomputable def spec_l4Make_l0 (N : Nat) : Nat → spec_l4Make_l0_H → Option spec_l4Make_l0_O
 | 0, _ => none
 | k + 1, d => spec_l4Make_l0_r N (spec_l4Make_l0 N k) d
theorem spec_l4Make_l0_ok (N : Nat) (back) (d) : roundR Γ_spec_l4Make (assoc [(2, ⟨spec_l4Make_l2_h, spec_l4Make_l2_o, spec_l4Make_l2 N N⟩)]) 0 spec_l4Make_l0_h spec_l4Make_l0_o (loopOf Tryz.f61 0) back d = spec_l4Make_l0_r N back d := by kernel_rfl
abbrev spec_l4Make_l4_H := (Int × (List (Int × Int × Unit)) × Unit) × (List (List Int) × List (List Int) × List (List Int) × Unit) × (List (List Int) × List (List Int) × List (List Int) × Unit) × Int × Unit
abbrev spec_l4Make_l4_O := ((List (List Int) × List (List Int) × List (List Int) × Unit) × (List (List Int) × List (List Int) × List (List Int) × Unit) × Unit) ⊕ Empty
def spec_l4Make_l4_h : Form := [(2, .box K_PiSPiiqq 0), (4, .box K_PZSiSSiSSiq 99), (5, .box K_PZSiSSiSSiq 1), (10, .v I)]
def spec_l4Make_l4_o : Outs := [(.normal, [(4, .box K_PZSiSSiSSiq 99), (5, .box K_PZSiSSiSSiq 1)])]
noncomputable def spec_l4Make_l4_r (N : Nat) (back : spec_l4Make_l4_H → Option spec_l4Make_l4_O) (d : spec_l4Make_l4_H) : Option spec_l4Make_l4_O :=
 let s2 : Int × (List (Int × Int × Unit)) × Unit := d.1
 let s4 : List (List Int) × List (List Int) × List (List Int) × Unit := d.2.1
 let s5 : List (List Int) × List (List Int) × List (List Int) × Unit := d.2.2.1
 let s10 : Int := d.2.2.2.1
 if (decide (s10 < s2.1)) = true then
  ((F_spec_l2Ball 0) ((s2, (s10, ())))).bind fun r38 =>
  if (decide (List.length s5.2.2.1 + List.length ([r38.1]) ≤ lim)) = true then
  let x39 : Int := IntKind.wrap .i64 (s10 + (1 : Int))
  back ((s2, (s4, ((s5.1, (s5.2.1, (s5.2.2.1 ++ ([r38.1]), s5.2.2.2))), (x39, ())))))
  else none
 else
  some (.inl ((s4, (s5, ()))))
noncomputable def spec_l4Make_l4 (N : Nat) : Nat → spec_l4Make_l4_H → Option spec_l4Make_l4_O
 | 0, _ => none
 | k + 1, d => spec_l4Make_l4_r N (spec_l4Make_l4 N k) d
theorem spec_l4Make_l4_ok (N : Nat) (back) (d) : roundR Γ_spec_l4Make (assoc []) 4 spec_l4Make_l4_h spec_l4Make_l4_o (loopOf Tryz.f61 4) back d = spec_l4Make_l4_r N back d := by kernel_rfl
noncomputable def F_spec_l4Make (N : Nat) (d : (Int × (List (Int × Int × Unit)) × Unit) × Int × Unit) : Option ((List (List Int) × List (List Int) × List (List Int) × Unit) × Unit) :=
 let a0 : Int × (List (Int × Int × Unit)) × Unit := d.1
 let a1 : Int := d.2.1
 (G_configs ((a0.1, (a1, ())))).bind fun r15 =>
 (spec_l4Make_l0 N N ((a0, ((([] : List (List Int)), (([] : List (List Int)), (([] : List (List Int)), ()))), ((r15.1, (([] : List (List Int)), (([] : List (List Int)), ()))), ((0 : Int), ())))))).bind fun o23 => match o23 with
 | .inl d24 =>
  (spec_l4Make_l4 N N ((d24.1, (d24.2.1, (d24.2.2.1, ((0 : Int), ())))))).bind fun o27 => match o27 with
  | .inl d28 =>
   some (d28.2.1, ())
theorem F_spec_l4Make_ok (N : Nat) (d) : fnR Γ_spec_l4Make (assoc [(0, ⟨spec_l4Make_l0_h, spec_l4Make_l0_o, spec_l4Make_l0 N N⟩), (4, ⟨spec_l4Make_l4_h, spec_l4Make_l4_o, spec_l4Make_l4 N N⟩)]) false [(K_PiSPiiqq, false), (I, false)] [K_PZSiSSiSSiq] Tryz.f61.results.toList (bodyOf Tryz.f61) d = F_spec_l4Make N d := by kernel_rfl
noncomputable def S_spec_l4Make : FSig := ⟨[(K_PiSPiiqq, false), (I, false)], [K_PZSiSSiSSiq], false, (G_l4Make)⟩
noncomputable def Γ_spec_l1Has : Ctx := { tk := assoc tks, ar := assoc ars, fs := assoc [] }
abbrev spec_l1Has_l0_H := List Int × Int × Int × Unit
abbrev spec_l1Has_l0_O := (Bool × Unit) ⊕ Unit ⊕ Empty
def spec_l1Has_l0_h : Form := [(0, .v K_Si), (1, .v I), (5, .v I)]
def spec_l1Has_l0_o : Outs := [(.ret, [(4, .v .bool)]), (.normal, [])]
noncomputable def spec_l1Has_l0_r (N : Nat) (back : spec_l1Has_l0_H → Option spec_l1Has_l0_O) (d : spec_l1Has_l0_H) : Option spec_l1Has_l0_O :=
 let s0 : List Int := d.1
 let s1 : Int := d.2.1
 let s5 : Int := d.2.2.1
 if (decide (s5 < (List.length s0 : Int))) = true then
  if (idxIn s5 (List.length s0)) = true then
  if (at_ I s0 s5.toNat == s1) = true then
   some (.inl (true, ()))
  else
   let x5 : Int := IntKind.wrap .i64 (s5 + (1 : Int))
   back ((s0, (s1, (x5, ()))))
  else none
 else
  some (.inr (.inl ()))
noncomputable def spec_l1Has_l0 (N : Nat) : Nat → spec_l1Has_l0_H → Option spec_l1Has_l0_O
 | 0, _ => none
 | k + 1, d => spec_l1Has_l0_r N (spec_l1Has_l0 N k) d
theorem spec_l1Has_l0_ok (N : Nat) (back) (d) : roundR Γ_spec_l1Has (assoc []) 0 spec_l1Has_l0_h spec_l1Has_l0_o (loopOf Tryz.f57 0) back d = spec_l1Has_l0_r N back d := by kernel_rfl
noncomputable def F_spec_l1Has (N : Nat) (d : List Int × Int × Unit) : Option (Bool × Unit) :=
 let a0 : List Int := d.1
 let a1 : Int := d.2.1
 (spec_l1Has_l0 N N ((a0, (a1, ((0 : Int), ()))))).bind fun o2 => match o2 with
 | .inl d3 =>
  some (d3.1, ())
 | .inr (.inl d4) =>
  some (false, ())
theorem F_spec_l1Has_ok (N : Nat) (d) : fnR Γ_spec_l1Has (assoc [(0, ⟨spec_l1Has_l0_h, spec_l1Has_l0_o, spec_l1Has_l0 N N⟩)]) true [(K_Si, false), (I, false)] [.bool] Tryz.f57.results.toList (bodyOf Tryz.f57) d = F_spec_l1Has N d := by kernel_rfl
noncomputable def S_spec_l1Has : FSig := ⟨[(K_Si, false), (I, false)], [.bool], true, (G_l1Has)⟩
noncomputable def Γ_spec_l1Most : Ctx := { tk := assoc tks, ar := assoc ars, fs := assoc [] }
noncomputable def F_spec_l1Most (N : Nat) (d : Int × Int × Unit) : Option (Int × Unit) :=
 let a0 : Int := d.1
 let a1 : Int := d.2.1
 if (decide (a0 > a1)) = true then
  some (a0, ())
 else
  some (a1, ())
theorem F_spec_l1Most_ok (N : Nat) (d) : fnR Γ_spec_l1Most (assoc []) true [(I, false), (I, false)] [I] Tryz.f114.results.toList (bodyOf Tryz.f114) d = F_spec_l1Most N d := by kernel_rfl
noncomputable def g_spec_l1Most (d : Int × Int × Unit) : Int × Unit :=
 let a0 : Int := d.1
 let a1 : Int := d.2.1
 if (decide (a0 > a1)) = true then
  (a0, ())
 else
  (a1, ())
theorem F_spec_l1Most_tot (N : Nat) (d) : F_spec_l1Most N d = some (g_spec_l1Most d) := by
 unfold F_spec_l1Most g_spec_l1Most
 first
  | rfl
  | (dsimp only; (repeat' split) <;> rfl)
noncomputable def S_spec_l1Most : FSig := ⟨[(I, false), (I, false)], [I], true, (fun d => some (g_spec_l1Most d))⟩
noncomputable def Γ_spec_l4After : Ctx := { tk := assoc tks, ar := assoc ars, fs := assoc [(57, S_spec_l1Has), (114, S_spec_l1Most)] }
abbrev spec_l4After_l0_H := List (List Int) × Int × Int × List Int × Int × Unit
abbrev spec_l4After_l0_O := (Int × Unit) ⊕ (Int × Unit) ⊕ Empty
def spec_l4After_l0_h : Form := [(1, .v K_SSi), (2, .v I), (9, .v I), (10, .v K_Si), (11, .v I)]
def spec_l4After_l0_o : Outs := [(.ret, [(8, .v I)]), (.normal, [(9, .v I)])]
noncomputable def spec_l4After_l0_r (N : Nat) (back : spec_l4After_l0_H → Option spec_l4After_l0_O) (d : spec_l4After_l0_H) : Option spec_l4After_l0_O :=
 let s1 : List (List Int) := d.1
 let s2 : Int := d.2.1
 let s9 : Int := d.2.2.1
 let s10 : List Int := d.2.2.2.1
 let s11 : Int := d.2.2.2.2.1
 if (decide (s11 < (List.length s10 : Int))) = true then
  if (idxIn s2 (List.length s1)) = true then
  if (idxIn s11 (List.length s10)) = true then
  if (idxIn (at_ I s10 s11.toNat) (List.length (at_ K_Si s1 s2.toNat))) = true then
  if (decide (at_ I (at_ K_Si s1 s2.toNat) (at_ I s10 s11.toNat).toNat < (0 : Int))) = true then
   some (.inl ((-1 : Int), ()))
  else
   if (idxIn s2 (List.length s1)) = true then
   if (idxIn s11 (List.length s10)) = true then
   if (idxIn (at_ I s10 s11.toNat) (List.length (at_ K_Si s1 s2.toNat))) = true then
   let r7 : Int × Unit := g_spec_l1Most ((s9, (at_ I (at_ K_Si s1 s2.toNat) (at_ I s10 s11.toNat).toNat, ())))
   let x8 : Int := IntKind.wrap .i64 (s11 + (1 : Int))
   back ((s1, (s2, (r7.1, (s10, (x8, ()))))))
   else none
   else none
   else none
  else none
  else none
  else none
 else
  some (.inr (.inl (s9, ())))
noncomputable def spec_l4After_l0 (N : Nat) : Nat → spec_l4After_l0_H → Option spec_l4After_l0_O
 | 0, _ => none
 | k + 1, d => spec_l4After_l0_r N (spec_l4After_l0 N k) d
theorem spec_l4After_l0_ok (N : Nat) (back) (d) : roundR Γ_spec_l4After (assoc []) 0 spec_l4After_l0_h spec_l4After_l0_o (loopOf Tryz.f101 0) back d = spec_l4After_l0_r N back d := by kernel_rfl
noncomputable def F_spec_l4After (N : Nat) (d : (List (List Int) × List (List Int) × List (List Int) × Unit) × List (List Int) × Int × Int × Unit) : Option (Int × Unit) :=
 let a0 : List (List Int) × List (List Int) × List (List Int) × Unit := d.1
 let a1 : List (List Int) := d.2.1
 let a2 : Int := d.2.2.1
 let a3 : Int := d.2.2.2.1
 if (idxIn a2 (List.length a0.1)) = true then
 (G_l1Has ((at_ K_Si a0.1 a2.toNat, (a3, ())))).bind fun r1 =>
 if (r1.1) = true then
  some ((0 : Int), ())
 else
  if (idxIn a3 (List.length a0.2.2.1)) = true then
  (spec_l4After_l0 N N ((a1, (a2, ((0 : Int), (at_ K_Si a0.2.2.1 a3.toNat, ((0 : Int), ()))))))).bind fun o4 => match o4 with
  | .inl d5 =>
   some (d5.1, ())
  | .inr (.inl d6) =>
   some (d6.1, ())
  else none
 else none
theorem F_spec_l4After_ok (N : Nat) (d) : fnR Γ_spec_l4After (assoc [(0, ⟨spec_l4After_l0_h, spec_l4After_l0_o, spec_l4After_l0 N N⟩)]) true [(K_PZSiSSiSSiq, false), (K_SSi, false), (I, false), (I, false)] [I] Tryz.f101.results.toList (bodyOf Tryz.f101) d = F_spec_l4After N d := by kernel_rfl
noncomputable def S_spec_l4After : FSig := ⟨[(K_PZSiSSiSSiq, false), (K_SSi, false), (I, false), (I, false)], [I], true, (G_l4After)⟩
noncomputable def Γ_spec_l4Times : Ctx := { tk := assoc tks, ar := assoc ars, fs := assoc [(57, S_spec_l1Has), (73, S_spec_l1Own), (101, S_spec_l4After)] }
abbrev spec_l4Times_l2_H := (List (List Int) × List (List Int) × List (List Int) × Unit) × List (List Int) × Int × List Int × Int × Unit
abbrev spec_l4Times_l2_O := ((List (List Int) × List (List Int) × List (List Int) × Unit) × List (List Int) × Int × List Int × Unit) ⊕ Empty
def spec_l4Times_l2_h : Form := [(1, .box K_PZSiSSiSSiq 0), (3, .own K_SSi 100), (4, .v I), (5, .own K_Si 99), (6, .v I)]
def spec_l4Times_l2_o : Outs := [(.normal, [(1, .box K_PZSiSSiSSiq 0), (3, .own K_SSi 100), (4, .v I), (5, .own K_Si 99)])]
noncomputable def spec_l4Times_l2_r (N : Nat) (back : spec_l4Times_l2_H → Option spec_l4Times_l2_O) (d : spec_l4Times_l2_H) : Option spec_l4Times_l2_O :=
 let s1 : List (List Int) × List (List Int) × List (List Int) × Unit := d.1
 let s3 : List (List Int) := d.2.1
 let s4 : Int := d.2.2.1
 let s5 : List Int := d.2.2.2.1
 let s6 : Int := d.2.2.2.2.1
 if (decide (s6 < (List.length s1.2.2.1 : Int))) = true then
  if (idxIn s4 (List.length s1.1)) = true then
  (G_l1Has ((at_ K_Si s1.1 s4.toNat, (s6, ())))).bind fun r31 =>
  if (r31.1) = true then
   if (decide (List.length s5 + List.length ([(0 : Int)]) ≤ lim)) = true then
   let x32 : Int := IntKind.wrap .i64 (s6 + (1 : Int))
   back ((s1, (s3, (s4, (s5 ++ ([(0 : Int)]), (x32, ()))))))
   else none
  else
   if (decide (List.length s5 + List.length ([(-1 : Int)]) ≤ lim)) = true then
   let x33 : Int := IntKind.wrap .i64 (s6 + (1 : Int))
   back ((s1, (s3, (s4, (s5 ++ ([(-1 : Int)]), (x33, ()))))))
   else none
  else none
 else
  some (.inl ((s1, (s3, (s4, (s5, ()))))))
noncomputable def spec_l4Times_l2 (N : Nat) : Nat → spec_l4Times_l2_H → Option spec_l4Times_l2_O
 | 0, _ => none
 | k + 1, d => spec_l4Times_l2_r N (spec_l4Times_l2 N k) d
theorem spec_l4Times_l2_ok (N : Nat) (back) (d) : roundR Γ_spec_l4Times (assoc []) 2 spec_l4Times_l2_h spec_l4Times_l2_o (loopOf Tryz.f60 2) back d = spec_l4Times_l2_r N back d := by kernel_rfl
abbrev spec_l4Times_l0_H := (List (List Int) × List (List Int) × List (List Int) × Unit) × List (List Int) × Int × Unit
abbrev spec_l4Times_l0_O := ((List (List Int) × List (List Int) × List (List Int) × Unit) × List (List Int) × Unit) ⊕ Empty
def spec_l4Times_l0_h : Form := [(1, .box K_PZSiSSiSSiq 0), (3, .own K_SSi 100), (4, .v I)]
def spec_l4Times_l0_o : Outs := [(.normal, [(1, .box K_PZSiSSiSSiq 0), (3, .own K_SSi 100)])]
noncomputable def spec_l4Times_l0_r (N : Nat) (back : spec_l4Times_l0_H → Option spec_l4Times_l0_O) (d : spec_l4Times_l0_H) : Option spec_l4Times_l0_O :=
 let s1 : List (List Int) × List (List Int) × List (List Int) × Unit := d.1
 let s3 : List (List Int) := d.2.1
 let s4 : Int := d.2.2.1
 if (decide (s4 < (List.length s1.1 : Int))) = true then
  (spec_l4Times_l2 N N ((s1, (s3, (s4, (([] : List Int), ((0 : Int), ()))))))).bind fun o28 => match o28 with
  | .inl d29 =>
   if (decide (List.length d29.2.1 + List.length ([d29.2.2.2.1]) ≤ lim)) = true then
   let x30 : Int := IntKind.wrap .i64 (d29.2.2.1 + (1 : Int))
   back ((d29.1, (d29.2.1 ++ ([d29.2.2.2.1]), (x30, ()))))
   else none
 else
  some (.inl ((s1, (s3, ()))))
noncomputable def spec_l4Times_l0 (N : Nat) : Nat → spec_l4Times_l0_H → Option spec_l4Times_l0_O
 | 0, _ => none
 | k + 1, d => spec_l4Times_l0_r N (spec_l4Times_l0 N k) d
theorem spec_l4Times_l0_ok (N : Nat) (back) (d) : roundR Γ_spec_l4Times (assoc [(2, ⟨spec_l4Times_l2_h, spec_l4Times_l2_o, spec_l4Times_l2 N N⟩)]) 0 spec_l4Times_l0_h spec_l4Times_l0_o (loopOf Tryz.f60 0) back d = spec_l4Times_l0_r N back d := by kernel_rfl
abbrev spec_l4Times_l10_H := (List (List Int) × List (List Int) × List (List Int) × Unit) × List (List Int) × Int × List (List Int) × Bool × Int × List Int × Int × Int × Unit
abbrev spec_l4Times_l10_O := ((List (List Int) × List (List Int) × List (List Int) × Unit) × List (List Int) × Int × List (List Int) × Bool × Int × List Int × Int × Unit) ⊕ Empty
def spec_l4Times_l10_h : Form := [(1, .box K_PZSiSSiSSiq 0), (3, .own K_SSi 100), (7, .v I), (8, .own K_SSi 100), (9, .v .bool), (10, .v I), (11, .own K_Si 99), (12, .v I), (13, .v I)]
def spec_l4Times_l10_o : Outs := [(.normal, [(1, .box K_PZSiSSiSSiq 0), (3, .own K_SSi 100), (7, .v I), (8, .own K_SSi 100), (9, .v .bool), (10, .v I), (11, .own K_Si 99), (12, .v I)])]
noncomputable def spec_l4Times_l10_r (N : Nat) (back : spec_l4Times_l10_H → Option spec_l4Times_l10_O) (d : spec_l4Times_l10_H) : Option spec_l4Times_l10_O :=
 let s1 : List (List Int) × List (List Int) × List (List Int) × Unit := d.1
 let s3 : List (List Int) := d.2.1
 let s7 : Int := d.2.2.1
 let s8 : List (List Int) := d.2.2.2.1
 let s9 : Bool := d.2.2.2.2.1
 let s10 : Int := d.2.2.2.2.2.1
 let s11 : List Int := d.2.2.2.2.2.2.1
 let s12 : Int := d.2.2.2.2.2.2.2.1
 let s13 : Int := d.2.2.2.2.2.2.2.2.1
 if (idxIn s10 (List.length s1.2.1)) = true then
 if (decide (s13 < (List.length (at_ K_Si s1.2.1 s10.toNat) : Int))) = true then
  if (idxIn s12 (List.length s11)) = true then
  if (decide (at_ I s11 s12.toNat < (0 : Int))) = true then
   if (idxIn s10 (List.length s1.2.1)) = true then
   if (idxIn s13 (List.length (at_ K_Si s1.2.1 s10.toNat))) = true then
   (G_l4After ((s1, (s3, (at_ I (at_ K_Si s1.2.1 s10.toNat) s13.toNat, (s12, ())))))).bind fun r65 =>
   if (decide (r65.1 ≥ (0 : Int))) = true then
    if (idxIn s12 (List.length s11)) = true then
    let x66 : Int := IntKind.wrap .i64 (s13 + (1 : Int))
    back ((s1, (s3, (s7, (s8, (true, (s10, (List.set s11 s12.toNat s7, (s12, (x66, ()))))))))))
    else none
   else
    let x67 : Int := IntKind.wrap .i64 (s13 + (1 : Int))
    back ((s1, (s3, (s7, (s8, (s9, (s10, (s11, (s12, (x67, ()))))))))))
   else none
   else none
  else
   some (.inl ((s1, (s3, (s7, (s8, (s9, (s10, (s11, (s12, ()))))))))))
  else none
 else
  some (.inl ((s1, (s3, (s7, (s8, (s9, (s10, (s11, (s12, ()))))))))))
 else none
noncomputable def spec_l4Times_l10 (N : Nat) : Nat → spec_l4Times_l10_H → Option spec_l4Times_l10_O
 | 0, _ => none
 | k + 1, d => spec_l4Times_l10_r N (spec_l4Times_l10 N k) d
theorem spec_l4Times_l10_ok (N : Nat) (back) (d) : roundR Γ_spec_l4Times (assoc []) 10 spec_l4Times_l10_h spec_l4Times_l10_o (loopOf Tryz.f60 10) back d = spec_l4Times_l10_r N back d := by kernel_rfl
abbrev spec_l4Times_l8_H := (List (List Int) × List (List Int) × List (List Int) × Unit) × List (List Int) × Int × List (List Int) × Bool × Int × List Int × Int × Unit
abbrev spec_l4Times_l8_O := ((List (List Int) × List (List Int) × List (List Int) × Unit) × List (List Int) × Int × List (List Int) × Bool × Int × List Int × Unit) ⊕ Empty
def spec_l4Times_l8_h : Form := [(1, .box K_PZSiSSiSSiq 0), (3, .own K_SSi 100), (7, .v I), (8, .own K_SSi 100), (9, .v .bool), (10, .v I), (11, .own K_Si 99), (12, .v I)]
def spec_l4Times_l8_o : Outs := [(.normal, [(1, .box K_PZSiSSiSSiq 0), (3, .own K_SSi 100), (7, .v I), (8, .own K_SSi 100), (9, .v .bool), (10, .v I), (11, .own K_Si 99)])]
noncomputable def spec_l4Times_l8_r (N : Nat) (back : spec_l4Times_l8_H → Option spec_l4Times_l8_O) (d : spec_l4Times_l8_H) : Option spec_l4Times_l8_O :=
 let s1 : List (List Int) × List (List Int) × List (List Int) × Unit := d.1
 let s3 : List (List Int) := d.2.1
 let s7 : Int := d.2.2.1
 let s8 : List (List Int) := d.2.2.2.1
 let s9 : Bool := d.2.2.2.2.1
 let s10 : Int := d.2.2.2.2.2.1
 let s11 : List Int := d.2.2.2.2.2.2.1
 let s12 : Int := d.2.2.2.2.2.2.2.1
 if (decide (s12 < (List.length s11 : Int))) = true then
  (spec_l4Times_l10 N N ((s1, (s3, (s7, (s8, (s9, (s10, (s11, (s12, ((0 : Int), ()))))))))))).bind fun o62 => match o62 with
  | .inl d63 =>
   let x64 : Int := IntKind.wrap .i64 (d63.2.2.2.2.2.2.2.1 + (1 : Int))
   back ((d63.1, (d63.2.1, (d63.2.2.1, (d63.2.2.2.1, (d63.2.2.2.2.1, (d63.2.2.2.2.2.1, (d63.2.2.2.2.2.2.1, (x64, ())))))))))
 else
  some (.inl ((s1, (s3, (s7, (s8, (s9, (s10, (s11, ())))))))))
noncomputable def spec_l4Times_l8 (N : Nat) : Nat → spec_l4Times_l8_H → Option spec_l4Times_l8_O
 | 0, _ => none
 | k + 1, d => spec_l4Times_l8_r N (spec_l4Times_l8 N k) d
theorem spec_l4Times_l8_ok (N : Nat) (back) (d) : roundR Γ_spec_l4Times (assoc [(10, ⟨spec_l4Times_l10_h, spec_l4Times_l10_o, spec_l4Times_l10 N N⟩)]) 8 spec_l4Times_l8_h spec_l4Times_l8_o (loopOf Tryz.f60 8) back d = spec_l4Times_l8_r N back d := by kernel_rfl
abbrev spec_l4Times_l6_H := (List (List Int) × List (List Int) × List (List Int) × Unit) × List (List Int) × Int × List (List Int) × Bool × Int × Unit
abbrev spec_l4Times_l6_O := ((List (List Int) × List (List Int) × List (List Int) × Unit) × Int × List (List Int) × Bool × Unit) ⊕ Empty
def spec_l4Times_l6_h : Form := [(1, .box K_PZSiSSiSSiq 0), (3, .own K_SSi 100), (7, .v I), (8, .own K_SSi 100), (9, .v .bool), (10, .v I)]
def spec_l4Times_l6_o : Outs := [(.normal, [(1, .box K_PZSiSSiSSiq 0), (7, .v I), (8, .own K_SSi 100), (9, .v .bool)])]
noncomputable def spec_l4Times_l6_r (N : Nat) (back : spec_l4Times_l6_H → Option spec_l4Times_l6_O) (d : spec_l4Times_l6_H) : Option spec_l4Times_l6_O :=
 let s1 : List (List Int) × List (List Int) × List (List Int) × Unit := d.1
 let s3 : List (List Int) := d.2.1
 let s7 : Int := d.2.2.1
 let s8 : List (List Int) := d.2.2.2.1
 let s9 : Bool := d.2.2.2.2.1
 let s10 : Int := d.2.2.2.2.2.1
 if (decide (s10 < (List.length s3 : Int))) = true then
  if (idxIn s10 (List.length s3)) = true then
  ((F_spec_l1Own 0) (at_ K_Si s3 s10.toNat, ())).bind fun r48 =>
  (spec_l4Times_l8 N N ((s1, (s3, (s7, (s8, (s9, (s10, (r48.1, ((0 : Int), ())))))))))).bind fun o55 => match o55 with
  | .inl d56 =>
   if (decide (List.length d56.2.2.2.1 + List.length ([d56.2.2.2.2.2.2.1]) ≤ lim)) = true then
   let x57 : List (List Int) := d56.2.2.2.1 ++ ([d56.2.2.2.2.2.2.1])
   let x58 : Int := IntKind.wrap .i64 (d56.2.2.2.2.2.1 + (1 : Int))
   back ((d56.1, (d56.2.1, (d56.2.2.1, (x57, (d56.2.2.2.2.1, (x58, ())))))))
   else none
  else none
 else
  some (.inl ((s1, (s7, (s8, (s9, ()))))))
noncomputable def spec_l4Times_l6 (N : Nat) : Nat → spec_l4Times_l6_H → Option spec_l4Times_l6_O
 | 0, _ => none
 | k + 1, d => spec_l4Times_l6_r N (spec_l4Times_l6 N k) d
theorem spec_l4Times_l6_ok (N : Nat) (back) (d) : roundR Γ_spec_l4Times (assoc [(8, ⟨spec_l4Times_l8_h, spec_l4Times_l8_o, spec_l4Times_l8 N N⟩)]) 6 spec_l4Times_l6_h spec_l4Times_l6_o (loopOf Tryz.f60 6) back d = spec_l4Times_l6_r N back d := by kernel_rfl
abbrev spec_l4Times_l4_H := (List (List Int) × List (List Int) × List (List Int) × Unit) × List (List Int) × Int × Unit
abbrev spec_l4Times_l4_O := (List (List Int) × Unit) ⊕ Empty
def spec_l4Times_l4_h : Form := [(1, .box K_PZSiSSiSSiq 0), (3, .own K_SSi 100), (7, .v I)]
def spec_l4Times_l4_o : Outs := [(.ret, [(2, .own K_SSi 100)])]
noncomputable def spec_l4Times_l4_r (N : Nat) (back : spec_l4Times_l4_H → Option spec_l4Times_l4_O) (d : spec_l4Times_l4_H) : Option spec_l4Times_l4_O :=
 let s1 : List (List Int) × List (List Int) × List (List Int) × Unit := d.1
 let s3 : List (List Int) := d.2.1
 let s7 : Int := d.2.2.1
 (spec_l4Times_l6 N N ((s1, (s3, (s7, (([] : List (List Int)), (false, ((0 : Int), ())))))))).bind fun o45 => match o45 with
 | .inl d46 =>
  if (!d46.2.2.2.1) = true then
   some (.inl (d46.2.2.1, ()))
  else
   let x47 : Int := IntKind.wrap .i64 (d46.2.1 + (1 : Int))
   back ((d46.1, (d46.2.2.1, (x47, ()))))
noncomputable def spec_l4Times_l4 (N : Nat) : Nat → spec_l4Times_l4_H → Option spec_l4Times_l4_O
 | 0, _ => none
 | k + 1, d => spec_l4Times_l4_r N (spec_l4Times_l4 N k) d
theorem spec_l4Times_l4_ok (N : Nat) (back) (d) : roundR Γ_spec_l4Times (assoc [(6, ⟨spec_l4Times_l6_h, spec_l4Times_l6_o, spec_l4Times_l6 N N⟩)]) 4 spec_l4Times_l4_h spec_l4Times_l4_o (loopOf Tryz.f60 4) back d = spec_l4Times_l4_r N back d := by kernel_rfl
noncomputable def F_spec_l4Times (N : Nat) (d : (List (List Int) × List (List Int) × List (List Int) × Unit) × Unit) : Option (List (List Int) × Unit) :=
 let a0 : List (List Int) × List (List Int) × List (List Int) × Unit := d.1
 (spec_l4Times_l0 N N ((a0, (([] : List (List Int)), ((0 : Int), ()))))).bind fun o7 => match o7 with
 | .inl d8 =>
  (spec_l4Times_l4 N N ((d8.1, (d8.2.1, ((1 : Int), ()))))).bind fun o23 => match o23 with
  | .inl d24 =>
   some (d24.1, ())
theorem F_spec_l4Times_ok (N : Nat) (d) : fnR Γ_spec_l4Times (assoc [(0, ⟨spec_l4Times_l0_h, spec_l4Times_l0_o, spec_l4Times_l0 N N⟩), (4, ⟨spec_l4Times_l4_h, spec_l4Times_l4_o, spec_l4Times_l4 N N⟩)]) true [(K_PZSiSSiSSiq, false)] [K_SSi] Tryz.f60.results.toList (bodyOf Tryz.f60) d = F_spec_l4Times N d := by kernel_rfl
noncomputable def S_spec_l4Times : FSig := ⟨[(K_PZSiSSiSSiq, false)], [K_SSi], true, (G_l4Times)⟩
noncomputable def Γ_spec_l4Worst : Ctx := { tk := assoc tks, ar := assoc ars, fs := assoc [(114, S_spec_l1Most)] }
abbrev spec_l4Worst_l0_H := List Int × Int × Int × Unit
abbrev spec_l4Worst_l0_O := (Int × Unit) ⊕ (Int × Unit) ⊕ Empty
def spec_l4Worst_l0_h : Form := [(0, .v K_Si), (3, .v I), (4, .v I)]
def spec_l4Worst_l0_o : Outs := [(.ret, [(2, .v I)]), (.normal, [(3, .v I)])]
noncomputable def spec_l4Worst_l0_r (N : Nat) (back : spec_l4Worst_l0_H → Option spec_l4Worst_l0_O) (d : spec_l4Worst_l0_H) : Option spec_l4Worst_l0_O :=
 let s0 : List Int := d.1
 let s3 : Int := d.2.1
 let s4 : Int := d.2.2.1
 if (decide (s4 < (List.length s0 : Int))) = true then
  if (idxIn s4 (List.length s0)) = true then
  if (decide (at_ I s0 s4.toNat < (0 : Int))) = true then
   some (.inl ((-1 : Int), ()))
  else
   if (idxIn s4 (List.length s0)) = true then
   let r6 : Int × Unit := g_spec_l1Most ((s3, (at_ I s0 s4.toNat, ())))
   let x7 : Int := IntKind.wrap .i64 (s4 + (1 : Int))
   back ((s0, (r6.1, (x7, ()))))
   else none
  else none
 else
  some (.inr (.inl (s3, ())))
noncomputable def spec_l4Worst_l0 (N : Nat) : Nat → spec_l4Worst_l0_H → Option spec_l4Worst_l0_O
 | 0, _ => none
 | k + 1, d => spec_l4Worst_l0_r N (spec_l4Worst_l0 N k) d
theorem spec_l4Worst_l0_ok (N : Nat) (back) (d) : roundR Γ_spec_l4Worst (assoc []) 0 spec_l4Worst_l0_h spec_l4Worst_l0_o (loopOf Tryz.f72 0) back d = spec_l4Worst_l0_r N back d := by kernel_rfl
noncomputable def F_spec_l4Worst (N : Nat) (d : List Int × Unit) : Option (Int × Unit) :=
 let a0 : List Int := d.1
 (spec_l4Worst_l0 N N ((a0, ((0 : Int), ((0 : Int), ()))))).bind fun o3 => match o3 with
 | .inl d4 =>
  some (d4.1, ())
 | .inr (.inl d5) =>
  some (d5.1, ())
theorem F_spec_l4Worst_ok (N : Nat) (d) : fnR Γ_spec_l4Worst (assoc [(0, ⟨spec_l4Worst_l0_h, spec_l4Worst_l0_o, spec_l4Worst_l0 N N⟩)]) true [(K_Si, false)] [I] Tryz.f72.results.toList (bodyOf Tryz.f72) d = F_spec_l4Worst N d := by kernel_rfl
noncomputable def S_spec_l4Worst : FSig := ⟨[(K_Si, false)], [I], true, (G_l4Worst)⟩
noncomputable def Γ_spec_BestCops : Ctx := { tk := assoc tks, ar := assoc ars, fs := assoc [(59, S_spec_l4Field), (60, S_spec_l4Times), (61, S_spec_l4Make), (72, S_spec_l4Worst), (73, S_spec_l1Own)] }
abbrev spec_BestCops_l0_H := (List (List Int) × List (List Int) × List (List Int) × Unit) × List (List Int) × Int × Int × Unit
abbrev spec_BestCops_l0_O := ((List (List Int) × List (List Int) × List (List Int) × Unit) × List (List Int) × Int × Unit) ⊕ Empty
def spec_BestCops_l0_h : Form := [(7, .box K_PZSiSSiSSiq 0), (8, .own K_SSi 99), (9, .v I), (10, .v I)]
def spec_BestCops_l0_o : Outs := [(.normal, [(7, .box K_PZSiSSiSSiq 0), (8, .own K_SSi 99), (9, .v I)])]
noncomputable def spec_BestCops_l0_r (N : Nat) (back : spec_BestCops_l0_H → Option spec_BestCops_l0_O) (d : spec_BestCops_l0_H) : Option spec_BestCops_l0_O :=
 let s7 : List (List Int) × List (List Int) × List (List Int) × Unit := d.1
 let s8 : List (List Int) := d.2.1
 let s9 : Int := d.2.2.1
 let s10 : Int := d.2.2.2.1
 if (decide (s10 < (List.length s8 : Int))) = true then
  if (idxIn s10 (List.length s8)) = true then
  (G_l4Worst (at_ K_Si s8 s10.toNat, ())).bind fun r14 =>
  if (decide (r14.1 ≥ (0 : Int))) = true then
   if (decide (s9 < (0 : Int))) = true then
    let x15 : Int := IntKind.wrap .i64 (s10 + (1 : Int))
    back ((s7, (s8, (s10, (x15, ())))))
   else
    if (idxIn s9 (List.length s8)) = true then
    (G_l4Worst (at_ K_Si s8 s9.toNat, ())).bind fun r16 =>
    if (decide (r14.1 < r16.1)) = true then
     let x17 : Int := IntKind.wrap .i64 (s10 + (1 : Int))
     back ((s7, (s8, (s10, (x17, ())))))
    else
     let x18 : Int := IntKind.wrap .i64 (s10 + (1 : Int))
     back ((s7, (s8, (s9, (x18, ())))))
    else none
  else
   let x19 : Int := IntKind.wrap .i64 (s10 + (1 : Int))
   back ((s7, (s8, (s9, (x19, ())))))
  else none
 else
  some (.inl ((s7, (s8, (s9, ())))))
noncomputable def spec_BestCops_l0 (N : Nat) : Nat → spec_BestCops_l0_H → Option spec_BestCops_l0_O
 | 0, _ => none
 | k + 1, d => spec_BestCops_l0_r N (spec_BestCops_l0 N k) d
theorem spec_BestCops_l0_ok (N : Nat) (back) (d) : roundR Γ_spec_BestCops (assoc []) 0 spec_BestCops_l0_h spec_BestCops_l0_o (loopOf Tryz.f33 0) back d = spec_BestCops_l0_r N back d := by kernel_rfl
noncomputable def F_spec_BestCops (N : Nat) (d : (Int × (List (Int × Int × Unit)) × Unit) × Int × Unit) : Option (List Int × Int × Bool × Unit) :=
 let a0 : Int × (List (Int × Int × Unit)) × Unit := d.1
 let a1 : Int := d.2.1
 ((F_spec_l4Field 0) ((a0, (a1, ())))).bind fun r1 =>
 if (!r1.1) = true then
  some ((([] : List Int), ((0 : Int), (false, ()))))
 else
  (G_l4Make ((a0, (a1, ())))).bind fun r2 =>
  (G_l4Times (r2.1, ())).bind fun r3 =>
  (spec_BestCops_l0 N N ((r2.1, (r3.1, ((-1 : Int), ((0 : Int), ())))))).bind fun o10 => match o10 with
  | .inl d11 =>
   if (decide (d11.2.2.1 < (0 : Int))) = true then
    some ((([] : List Int), ((0 : Int), (false, ()))))
   else
    if (idxIn d11.2.2.1 (List.length d11.1.1)) = true then
    ((F_spec_l1Own 0) (at_ K_Si d11.1.1 d11.2.2.1.toNat, ())).bind fun r12 =>
    if (idxIn d11.2.2.1 (List.length d11.2.1)) = true then
    (G_l4Worst (at_ K_Si d11.2.1 d11.2.2.1.toNat, ())).bind fun r13 =>
    some ((r12.1, (r13.1, (true, ()))))
    else none
    else none
theorem F_spec_BestCops_ok (N : Nat) (d) : fnR Γ_spec_BestCops (assoc [(0, ⟨spec_BestCops_l0_h, spec_BestCops_l0_o, spec_BestCops_l0 N N⟩)]) true [(K_PiSPiiqq, false), (I, false)] [K_Si, I, .bool] Tryz.f33.results.toList (bodyOf Tryz.f33) d = F_spec_BestCops N d := by kernel_rfl
noncomputable def S_spec_BestCops : FSig := ⟨[(K_PiSPiiqq, false), (I, false)], [K_Si, I, .bool], true, (G_specBest)⟩
noncomputable def Γ_impl_within : Ctx := { tk := assoc tks, ar := assoc ars, fs := assoc [] }
noncomputable def F_impl_within (N : Nat) (d : Int × Int × Int × Unit) : Option (Bool × Unit) :=
 let a0 : Int := d.1
 let a1 : Int := d.2.1
 let a2 : Int := d.2.2.1
 if (decide (a0 ≥ a1)) = true then
  some (decide (a0 ≤ a2), ())
 else
  some (false, ())
theorem F_impl_within_ok (N : Nat) (d) : fnR Γ_impl_within (assoc []) true [(I, false), (I, false), (I, false)] [.bool] Tryz.f78.results.toList (bodyOf Tryz.f78) d = F_impl_within N d := by kernel_rfl
noncomputable def g_impl_within (d : Int × Int × Int × Unit) : Bool × Unit :=
 let a0 : Int := d.1
 let a1 : Int := d.2.1
 let a2 : Int := d.2.2.1
 if (decide (a0 ≥ a1)) = true then
  (decide (a0 ≤ a2), ())
 else
  (false, ())
theorem F_impl_within_tot (N : Nat) (d) : F_impl_within N d = some (g_impl_within d) := by
 unfold F_impl_within g_impl_within
 first
  | rfl
  | (dsimp only; (repeat' split) <;> rfl)
noncomputable def S_impl_within : FSig := ⟨[(I, false), (I, false), (I, false)], [.bool], true, (fun d => some (g_impl_within d))⟩
noncomputable def Γ_cmp_isNaN_int : Ctx := { tk := assoc tks, ar := assoc ars, fs := assoc [] }
noncomputable def F_cmp_isNaN_int (N : Nat) (d : Int × Unit) : Option (Bool × Unit) :=
 let a0 : Int := d.1
 some (a0 != a0, ())
theorem F_cmp_isNaN_int_ok (N : Nat) (d) : fnR Γ_cmp_isNaN_int (assoc []) true [(I, false)] [.bool] Tryz.f138.results.toList (bodyOf Tryz.f138) d = F_cmp_isNaN_int N d := by kernel_rfl
noncomputable def g_cmp_isNaN_int (d : Int × Unit) : Bool × Unit :=
 let a0 : Int := d.1
 (a0 != a0, ())
theorem F_cmp_isNaN_int_tot (N : Nat) (d) : F_cmp_isNaN_int N d = some (g_cmp_isNaN_int d) := by
 unfold F_cmp_isNaN_int g_cmp_isNaN_int
 first
  | rfl
  | (dsimp only; (repeat' split) <;> rfl)
noncomputable def S_cmp_isNaN_int : FSig := ⟨[(I, false)], [.bool], true, (fun d => some (g_cmp_isNaN_int d))⟩
noncomputable def Γ_cmp_Compare_int : Ctx := { tk := assoc tks, ar := assoc ars, fs := assoc [(138, S_cmp_isNaN_int)] }
noncomputable def F_cmp_Compare_int (N : Nat) (d : Int × Int × Unit) : Option (Int × Unit) :=
 let a0 : Int := d.1
 let a1 : Int := d.2.1
 let r1 : Bool × Unit := g_cmp_isNaN_int (a0, ())
 let r2 : Bool × Unit := g_cmp_isNaN_int (a1, ())
 if (r1.1) = true then
  if (r2.1) = true then
   some ((0 : Int), ())
  else
   some ((-1 : Int), ())
 else
  if (r2.1) = true then
   some ((1 : Int), ())
  else
   if (decide (a0 < a1)) = true then
    some ((-1 : Int), ())
   else
    if (decide (a0 > a1)) = true then
     some ((1 : Int), ())
    else
     some ((0 : Int), ())
theorem F_cmp_Compare_int_ok (N : Nat) (d) : fnR Γ_cmp_Compare_int (assoc []) true [(I, false), (I, false)] [I] Tryz.f130.results.toList (bodyOf Tryz.f130) d = F_cmp_Compare_int N d := by kernel_rfl
noncomputable def g_cmp_Compare_int (d : Int × Int × Unit) : Int × Unit :=
 let a0 : Int := d.1
 let a1 : Int := d.2.1
 let r1 : Bool × Unit := g_cmp_isNaN_int (a0, ())
 let r2 : Bool × Unit := g_cmp_isNaN_int (a1, ())
 if (r1.1) = true then
  if (r2.1) = true then
   ((0 : Int), ())
  else
   ((-1 : Int), ())
 else
  if (r2.1) = true then
   ((1 : Int), ())
  else
   if (decide (a0 < a1)) = true then
    ((-1 : Int), ())
   else
    if (decide (a0 > a1)) = true then
     ((1 : Int), ())
    else
     ((0 : Int), ())
theorem F_cmp_Compare_int_tot (N : Nat) (d) : F_cmp_Compare_int N d = some (g_cmp_Compare_int d) := by
 unfold F_cmp_Compare_int g_cmp_Compare_int
 first
  | rfl
  | (dsimp only; (repeat' split) <;> rfl)
noncomputable def S_cmp_Compare_int : FSig := ⟨[(I, false), (I, false)], [I], true, (fun d => some (g_cmp_Compare_int d))⟩
noncomputable def Γ_slices_Compare_Sint_int : Ctx := { tk := assoc tks, ar := assoc ars, fs := assoc [(130, S_cmp_Compare_int)] }
abbrev slices_Compare_Sint_int_l0_H := List Int × List Int × List Int × Int × Int × Unit
abbrev slices_Compare_Sint_int_l0_O := (Int × Unit) ⊕ (List Int × List Int × Unit) ⊕ Empty
def slices_Compare_Sint_int_l0_h : Form := [(0, .v K_Si), (1, .v K_Si), (9, .v K_Si), (10, .v I), (11, .v I)]
def slices_Compare_Sint_int_l0_o : Outs := [(.ret, [(4, .v I)]), (.normal, [(0, .v K_Si), (1, .v K_Si)])]
noncomputable def slices_Compare_Sint_int_l0_r (N : Nat) (back : slices_Compare_Sint_int_l0_H → Option slices_Compare_Sint_int_l0_O) (d : slices_Compare_Sint_int_l0_H) : Option slices_Compare_Sint_int_l0_O :=
 let s0 : List Int := d.1
 let s1 : List Int := d.2.1
 let s9 : List Int := d.2.2.1
 let s10 : Int := d.2.2.2.1
 let s11 : Int := d.2.2.2.2.1
 if (decide (s11 < s10)) = true then
  if (idxIn s11 (List.length s9)) = true then
  if (decide (s11 ≥ (List.length s1 : Int))) = true then
   some (.inl ((1 : Int), ()))
  else
   if (idxIn s11 (List.length s1)) = true then
   let r6 : Int × Unit := g_cmp_Compare_int ((at_ I s9 s11.toNat, (at_ I s1 s11.toNat, ())))
   if (r6.1 != (0 : Int)) = true then
    some (.inl (r6.1, ()))
   else
    let x7 : Int := IntKind.wrap .i64 (s11 + (1 : Int))
    back ((s0, (s1, (s9, (s10, (x7, ()))))))
   else none
  else none
 else
  some (.inr (.inl ((s0, (s1, ())))))
noncomputable def slices_Compare_Sint_int_l0 (N : Nat) : Nat → slices_Compare_Sint_int_l0_H → Option slices_Compare_Sint_int_l0_O
 | 0, _ => none
 | k + 1, d => slices_Compare_Sint_int_l0_r N (slices_Compare_Sint_int_l0 N k) d
theorem slices_Compare_Sint_int_l0_ok (N : Nat) (back) (d) : roundR Γ_slices_Compare_Sint_int (assoc []) 0 slices_Compare_Sint_int_l0_h slices_Compare_Sint_int_l0_o (loopOf Tryz.f113 0) back d = slices_Compare_Sint_int_l0_r N back d := by kernel_rfl
noncomputable def F_slices_Compare_Sint_int (N : Nat) (d : List Int × List Int × Unit) : Option (Int × Unit) :=
 let a0 : List Int := d.1
 let a1 : List Int := d.2.1
 (slices_Compare_Sint_int_l0 N N ((a0, (a1, (a0, ((List.length a0 : Int), ((0 : Int), ()))))))).bind fun o3 => match o3 with
 | .inl d4 =>
  some (d4.1, ())
 | .inr (.inl d5) =>
  if (decide ((List.length d5.1 : Int) < (List.length d5.2.1 : Int))) = true then
   some ((-1 : Int), ())
  else
   some ((0 : Int), ())
theorem F_slices_Compare_Sint_int_ok (N : Nat) (d) : fnR Γ_slices_Compare_Sint_int (assoc [(0, ⟨slices_Compare_Sint_int_l0_h, slices_Compare_Sint_int_l0_o, slices_Compare_Sint_int_l0 N N⟩)]) true [(K_Si, false), (K_Si, false)] [I] Tryz.f113.results.toList (bodyOf Tryz.f113) d = F_slices_Compare_Sint_int N d := by kernel_rfl
noncomputable def S_slices_Compare_Sint_int : FSig := ⟨[(K_Si, false), (K_Si, false)], [I], true, (G_compare)⟩
noncomputable def Γ_impl_IsGraph : Ctx := { tk := assoc tks, ar := assoc ars, fs := assoc [(78, S_impl_within), (113, S_slices_Compare_Sint_int)] }
abbrev impl_IsGraph_l0_H := (Int × (List (Int × Int × Unit)) × Unit) × (List (Int × Int × Unit)) × Int × Int × Unit
abbrev impl_IsGraph_l0_O := (Bool × Unit) ⊕ Unit ⊕ Empty
def impl_IsGraph_l0_h : Form := [(1, .box K_PiSPiiqq 0), (10, .v K_SPiiq), (11, .v I), (12, .v I)]
def impl_IsGraph_l0_o : Outs := [(.ret, [(2, .v .bool)]), (.normal, [])]
noncomputable def impl_IsGraph_l0_r (N : Nat) (back : impl_IsGraph_l0_H → Option impl_IsGraph_l0_O) (d : impl_IsGraph_l0_H) : Option impl_IsGraph_l0_O :=
 let s1 : Int × (List (Int × Int × Unit)) × Unit := d.1
 let s10 : List (Int × Int × Unit) := d.2.1
 let s11 : Int := d.2.2.1
 let s12 : Int := d.2.2.2.1
 if (decide (s12 < s11)) = true then
  if (idxIn s12 (List.length s10)) = true then
  if (decide ((at_ K_Piiq s10 s12.toNat).1 < (0 : Int))) = true then
   some (.inl (false, ()))
  else
   if (decide ((at_ K_Piiq s10 s12.toNat).1 ≥ (at_ K_Piiq s10 s12.toNat).2.1)) = true then
    some (.inl (false, ()))
   else
    if (decide ((at_ K_Piiq s10 s12.toNat).2.1 ≥ s1.1)) = true then
     some (.inl (false, ()))
    else
     if (decide (s12 > (0 : Int))) = true then
      let x9 : Int := IntKind.wrap .i64 (s12 - (1 : Int))
      if (idxIn x9 (List.length s1.2.1)) = true then
      (G_compare (([(at_ K_Piiq s1.2.1 x9.toNat).1, (at_ K_Piiq s1.2.1 x9.toNat).2.1], ([(at_ K_Piiq s10 s12.toNat).1, (at_ K_Piiq s10 s12.toNat).2.1], ())))).bind fun r10 =>
      if (decide (r10.1 ≥ (0 : Int))) = true then
       some (.inl (false, ()))
      else
       let x11 : Int := IntKind.wrap .i64 (s12 + (1 : Int))
       back ((s1, (s10, (s11, (x11, ())))))
      else none
     else
      let x12 : Int := IntKind.wrap .i64 (s12 + (1 : Int))
      back ((s1, (s10, (s11, (x12, ())))))
  else none
 else
  some (.inr (.inl ()))
noncomputable def impl_IsGraph_l0 (N : Nat) : Nat → impl_IsGraph_l0_H → Option impl_IsGraph_l0_O
 | 0, _ => none
 | k + 1, d => impl_IsGraph_l0_r N (impl_IsGraph_l0 N k) d
theorem impl_IsGraph_l0_ok (N : Nat) (back) (d) : roundR Γ_impl_IsGraph (assoc []) 0 impl_IsGraph_l0_h impl_IsGraph_l0_o (loopOf Tryz.f88 0) back d = impl_IsGraph_l0_r N back d := by kernel_rfl
noncomputable def F_impl_IsGraph (N : Nat) (d : (Int × (List (Int × Int × Unit)) × Unit) × Unit) : Option (Bool × Unit) :=
 let a0 : Int × (List (Int × Int × Unit)) × Unit := d.1
 let r1 : Bool × Unit := g_impl_within ((a0.1, ((0 : Int), ((8 : Int), ()))))
 if (!r1.1) = true then
  some (false, ())
 else
  (impl_IsGraph_l0 N N ((a0, (a0.2.1, ((List.length a0.2.1 : Int), ((0 : Int), ())))))).bind fun o6 => match o6 with
  | .inl d7 =>
   some (d7.1, ())
  | .inr (.inl d8) =>
   some (true, ())
theorem F_impl_IsGraph_ok (N : Nat) (d) : fnR Γ_impl_IsGraph (assoc [(0, ⟨impl_IsGraph_l0_h, impl_IsGraph_l0_o, impl_IsGraph_l0 N N⟩)]) true [(K_PiSPiiqq, false)] [.bool] Tryz.f88.results.toList (bodyOf Tryz.f88) d = F_impl_IsGraph N d := by kernel_rfl
noncomputable def S_impl_IsGraph : FSig := ⟨[(K_PiSPiiqq, false)], [.bool], true, (G_graph)⟩
noncomputable def Γ_impl_isCopGame : Ctx := { tk := assoc tks, ar := assoc ars, fs := assoc [(78, S_impl_within), (88, S_impl_IsGraph)] }
noncomputable def F_impl_isCopGame (N : Nat) (d : (Int × (List (Int × Int × Unit)) × Unit) × Int × Unit) : Option (Bool × Unit) :=
 let a0 : Int × (List (Int × Int × Unit)) × Unit := d.1
 let a1 : Int := d.2.1
 (G_graph (a0, ())).bind fun r1 =>
 if (r1.1) = true then
  if (decide (a0.1 > (0 : Int))) = true then
   let r2 : Bool × Unit := g_impl_within ((a1, ((1 : Int), ((3 : Int), ()))))
   some (r2.1, ())
  else
   some (false, ())
 else
  some (false, ())
theorem F_impl_isCopGame_ok (N : Nat) (d) : fnR Γ_impl_isCopGame (assoc []) true [(K_PiSPiiqq, false), (I, false)] [.bool] Tryz.f62.results.toList (bodyOf Tryz.f62) d = F_impl_isCopGame N d := by kernel_rfl
noncomputable def S_impl_isCopGame : FSig := ⟨[(K_PiSPiiqq, false), (I, false)], [.bool], true, (F_impl_isCopGame 0)⟩
noncomputable def Γ_impl_netOf : Ctx := { tk := assoc tks, ar := assoc ars, fs := assoc [] }
abbrev impl_netOf_l0_H := (List Int × Unit) × (List Int × Unit) × (List (Int × Int × Unit)) × Int × Int × Unit
abbrev impl_netOf_l0_O := ((List Int × Unit) × (List Int × Unit) × Unit) ⊕ Empty
def impl_netOf_l0_h : Form := [(2, .box K_PSiq 99), (3, .box K_PSiq 99), (11, .v K_SPiiq), (12, .v I), (13, .v I)]
def impl_netOf_l0_o : Outs := [(.normal, [(2, .box K_PSiq 99), (3, .box K_PSiq 99)])]
noncomputable def impl_netOf_l0_r (N : Nat) (back : impl_netOf_l0_H → Option impl_netOf_l0_O) (d : impl_netOf_l0_H) : Option impl_netOf_l0_O :=
 let s2 : List Int × Unit := d.1
 let s3 : List Int × Unit := d.2.1
 let s11 : List (Int × Int × Unit) := d.2.2.1
 let s12 : Int := d.2.2.2.1
 let s13 : Int := d.2.2.2.2.1
 if (decide (s13 < s12)) = true then
  if (idxIn s13 (List.length s11)) = true then
  if (idxIn (at_ K_Piiq s11 s13.toNat).1 (List.length s3.1)) = true then
  if (decide (0 ≤ (at_ K_Piiq s11 s13.toNat).2.1)) = true then
  let x9 : Int := shl .i64 (1 : Int) (at_ K_Piiq s11 s13.toNat).2.1
  let x10 : Int := bits .or .i64 (at_ I s3.1 (at_ K_Piiq s11 s13.toNat).1.toNat) x9
  if (idxIn (at_ K_Piiq s11 s13.toNat).1 (List.length s3.1)) = true then
  if (idxIn (at_ K_Piiq s11 s13.toNat).2.1 (List.length (List.set s3.1 (at_ K_Piiq s11 s13.toNat).1.toNat x10))) = true then
  if (decide (0 ≤ (at_ K_Piiq s11 s13.toNat).1)) = true then
  let x11 : Int := shl .i64 (1 : Int) (at_ K_Piiq s11 s13.toNat).1
  let x12 : Int := bits .or .i64 (at_ I (List.set s3.1 (at_ K_Piiq s11 s13.toNat).1.toNat x10) (at_ K_Piiq s11 s13.toNat).2.1.toNat) x11
  if (idxIn (at_ K_Piiq s11 s13.toNat).2.1 (List.length (List.set s3.1 (at_ K_Piiq s11 s13.toNat).1.toNat x10))) = true then
  let x13 : Int := IntKind.wrap .i64 (s13 + (1 : Int))
  back ((s2, ((List.set (List.set s3.1 (at_ K_Piiq s11 s13.toNat).1.toNat x10) (at_ K_Piiq s11 s13.toNat).2.1.toNat x12, s3.2), (s11, (s12, (x13, ()))))))
  else none
  else none
  else none
  else none
  else none
  else none
  else none
 else
  some (.inl ((s2, (s3, ()))))
noncomputable def impl_netOf_l0 (N : Nat) : Nat → impl_netOf_l0_H → Option impl_netOf_l0_O
 | 0, _ => none
 | k + 1, d => impl_netOf_l0_r N (impl_netOf_l0 N k) d
theorem impl_netOf_l0_ok (N : Nat) (back) (d) : roundR Γ_impl_netOf (assoc []) 0 impl_netOf_l0_h impl_netOf_l0_o (loopOf Tryz.f50 0) back d = impl_netOf_l0_r N back d := by kernel_rfl
noncomputable def F_impl_netOf (N : Nat) (d : (Int × (List (Int × Int × Unit)) × Unit) × Unit) : Option ((List Int × Unit) × Unit) :=
 let a0 : Int × (List (Int × Int × Unit)) × Unit := d.1
 if ((decide (0 ≤ a0.1) && decide (a0.1 ≤ a0.1) && decide (a0.1 ≤ (lim : Int)))) = true then
 let x1 : List Int := List.replicate a0.1.toNat (0 : Int)
 (impl_netOf_l0 N N (((([] : List Int), ()), ((x1, ()), (a0.2.1, ((List.length a0.2.1 : Int), ((0 : Int), ()))))))).bind fun o7 => match o7 with
 | .inl d8 =>
  some (d8.2.1, ())
 else none
theorem F_impl_netOf_ok (N : Nat) (d) : fnR Γ_impl_netOf (assoc [(0, ⟨impl_netOf_l0_h, impl_netOf_l0_o, impl_netOf_l0 N N⟩)]) true [(K_PiSPiiqq, false)] [K_PSiq] Tryz.f50.results.toList (bodyOf Tryz.f50) d = F_impl_netOf N d := by kernel_rfl
noncomputable def S_impl_netOf : FSig := ⟨[(K_PiSPiiqq, false)], [K_PSiq], true, (G_netOf)⟩
noncomputable def Γ_impl_net_size : Ctx := { tk := assoc tks, ar := assoc ars, fs := assoc [] }
noncomputable def F_impl_net_size (N : Nat) (d : (List Int × Unit) × Unit) : Option (Int × Unit) :=
 let a0 : List Int × Unit := d.1
 some ((List.length a0.1 : Int), ())
theorem F_impl_net_size_ok (N : Nat) (d) : fnR Γ_impl_net_size (assoc []) true [(K_PSiq, false)] [I] Tryz.f105.results.toList (bodyOf Tryz.f105) d = F_impl_net_size N d := by kernel_rfl
noncomputable def g_impl_net_size (d : (List Int × Unit) × Unit) : Int × Unit :=
 let a0 : List Int × Unit := d.1
 ((List.length a0.1 : Int), ())
theorem F_impl_net_size_tot (N : Nat) (d) : F_impl_net_size N d = some (g_impl_net_size d) := by
 unfold F_impl_net_size g_impl_net_size
 first
  | rfl
  | (dsimp only; (repeat' split) <;> rfl)
noncomputable def S_impl_net_size : FSig := ⟨[(K_PSiq, false)], [I], true, (fun d => some (g_impl_net_size d))⟩
noncomputable def Γ_slices_Clone_Sint_int : Ctx := { tk := assoc tks, ar := assoc ars, fs := assoc [] }
noncomputable def F_slices_Clone_Sint_int (N : Nat) (d : List Int × Unit) : Option (List Int × Unit) :=
 let a0 : List Int := d.1
 if (decide (List.length a0 = 0)) = true then
  both (
    some (([] : List Int), ())) (
    if (decide (List.length ([] : List Int) + List.length a0 ≤ lim)) = true then
    some (([] : List Int) ++ a0, ())
    else none)
 else
  if (decide (List.length ([] : List Int) + List.length a0 ≤ lim)) = true then
  some (([] : List Int) ++ a0, ())
  else none
theorem F_slices_Clone_Sint_int_ok (N : Nat) (d) : fnR Γ_slices_Clone_Sint_int (assoc []) true [(K_Si, false)] [K_Si] Tryz.f80.results.toList (bodyOf Tryz.f80) d = F_slices_Clone_Sint_int N d := by kernel_rfl
noncomputable def S_slices_Clone_Sint_int : FSig := ⟨[(K_Si, false)], [K_Si], true, (G_toIntS)⟩
noncomputable def Γ_impl_copLists : Ctx := { tk := assoc tks, ar := assoc ars, fs := assoc [(80, S_slices_Clone_Sint_int)], dm := fun t => Nat.beq t 8 || Nat.beq t 15, cs := assoc [] }
abbrev impl_copLists_l4_H := Int × List (List Int) × List Int × Int × Int × Int × List (List Int) × Int × Int × Unit
abbrev impl_copLists_l4_O := (Int × List (List Int) × Int × Int × List (List Int) × Int × Int × Unit) ⊕ Empty
def impl_copLists_l4_h : Form := [(0, .v I), (6, .own K_SSi 99), (8, .v K_Si), (10, .v I), (12, .v I), (13, .v I), (15, .v K_SSi), (16, .v I), (17, .v I)]
def impl_copLists_l4_o : Outs := [(.normal, [(0, .v I), (6, .own K_SSi 99), (12, .v I), (13, .v I), (15, .v K_SSi), (16, .v I), (17, .v I)])]
noncomputable def impl_copLists_l4_r (N : Nat) (back : impl_copLists_l4_H → Option impl_copLists_l4_O) (d : impl_copLists_l4_H) : Option impl_copLists_l4_O :=
 let s0 : Int := d.1
 let s6 : List (List Int) := d.2.1
 let s8 : List Int := d.2.2.1
 let s10 : Int := d.2.2.2.1
 let s12 : Int := d.2.2.2.2.1
 let s13 : Int := d.2.2.2.2.2.1
 let s15 : List (List Int) := d.2.2.2.2.2.2.1
 let s16 : Int := d.2.2.2.2.2.2.2.1
 let s17 : Int := d.2.2.2.2.2.2.2.2.1
 if (decide (s10 < s0)) = true then
  (G_toIntS (s8, ())).bind fun r48 =>
  if (decide (List.length r48.1 + List.length ([s10]) ≤ lim)) = true then
  if (decide (List.length s6 + List.length ([r48.1 ++ ([s10])]) ≤ lim)) = true then
  let x49 : Int := IntKind.wrap .i64 (s10 + (1 : Int))
  back ((s0, (s6 ++ ([r48.1 ++ ([s10])]), (s8, (x49, (s12, (s13, (s15, (s16, (s17, ()))))))))))
  else none
  else none
 else
  some (.inl ((s0, (s6, (s12, (s13, (s15, (s16, (s17, ())))))))))
noncomputable def impl_copLists_l4 (N : Nat) : Nat → impl_copLists_l4_H → Option impl_copLists_l4_O
 | 0, _ => none
 | k + 1, d => impl_copLists_l4_r N (impl_copLists_l4 N k) d
theorem impl_copLists_l4_ok (N : Nat) (back) (d) : roundR Γ_impl_copLists (assoc []) 4 impl_copLists_l4_h impl_copLists_l4_o (loopOf Tryz.f125 4) back d = impl_copLists_l4_r N back d := by kernel_rfl
abbrev impl_copLists_l2_H := Int × List (List Int) × Int × Int × List (List Int) × Int × Int × Unit
abbrev impl_copLists_l2_O := (Int × List (List Int) × Int × Int × Unit) ⊕ Empty
def impl_copLists_l2_h : Form := [(0, .v I), (6, .own K_SSi 99), (12, .v I), (13, .v I), (15, .v K_SSi), (16, .v I), (17, .v I)]
def impl_copLists_l2_o : Outs := [(.normal, [(0, .v I), (6, .own K_SSi 99), (12, .v I), (13, .v I)])]
noncomputable def impl_copLists_l2_r (N : Nat) (back : impl_copLists_l2_H → Option impl_copLists_l2_O) (d : impl_copLists_l2_H) : Option impl_copLists_l2_O :=
 let s0 : Int := d.1
 let s6 : List (List Int) := d.2.1
 let s12 : Int := d.2.2.1
 let s13 : Int := d.2.2.2.1
 let s15 : List (List Int) := d.2.2.2.2.1
 let s16 : Int := d.2.2.2.2.2.1
 let s17 : Int := d.2.2.2.2.2.2.1
 if (decide (s17 < s16)) = true then
  if (idxIn s17 (List.length s15)) = true then
  if (decide ((List.length (at_ K_Si s15 s17.toNat) : Int) > (0 : Int))) = true then
   let x39 : Int := IntKind.wrap .i64 ((List.length (at_ K_Si s15 s17.toNat) : Int) - (1 : Int))
   if (idxIn x39 (List.length (at_ K_Si s15 s17.toNat))) = true then
   (impl_copLists_l4 N N ((s0, (s6, (at_ K_Si s15 s17.toNat, (at_ I (at_ K_Si s15 s17.toNat) x39.toNat, (s12, (s13, (s15, (s16, (s17, ()))))))))))).bind fun o42 => match o42 with
   | .inl d43 =>
    let x44 : Int := IntKind.wrap .i64 (d43.2.2.2.2.2.2.1 + (1 : Int))
    back ((d43.1, (d43.2.1, (d43.2.2.1, (d43.2.2.2.1, (d43.2.2.2.2.1, (d43.2.2.2.2.2.1, (x44, ()))))))))
   else none
  else
   (impl_copLists_l4 N N ((s0, (s6, (at_ K_Si s15 s17.toNat, ((0 : Int), (s12, (s13, (s15, (s16, (s17, ()))))))))))).bind fun o45 => match o45 with
   | .inl d46 =>
    let x47 : Int := IntKind.wrap .i64 (d46.2.2.2.2.2.2.1 + (1 : Int))
    back ((d46.1, (d46.2.1, (d46.2.2.1, (d46.2.2.2.1, (d46.2.2.2.2.1, (d46.2.2.2.2.2.1, (x47, ()))))))))
  else none
 else
  some (.inl ((s0, (s6, (s12, (s13, ()))))))
noncomputable def impl_copLists_l2 (N : Nat) : Nat → impl_copLists_l2_H → Option impl_copLists_l2_O
 | 0, _ => none
 | k + 1, d => impl_copLists_l2_r N (impl_copLists_l2 N k) d
theorem impl_copLists_l2_ok (N : Nat) (back) (d) : roundR Γ_impl_copLists (assoc [(4, ⟨impl_copLists_l4_h, impl_copLists_l4_o, impl_copLists_l4 N N⟩)]) 2 impl_copLists_l2_h impl_copLists_l2_o (loopOf Tryz.f125 2) back d = impl_copLists_l2_r N back d := by kernel_rfl
abbrev impl_copLists_l0_H := Int × List (List Int) × Int × Int × Unit
abbrev impl_copLists_l0_O := (List (List Int) × Unit) ⊕ Empty
def impl_copLists_l0_h : Form := [(0, .v I), (5, .own K_SSi 99), (12, .v I), (13, .v I)]
def impl_copLists_l0_o : Outs := [(.normal, [(5, .own K_SSi 99)])]
noncomputable def impl_copLists_l0_r (N : Nat) (back : impl_copLists_l0_H → Option impl_copLists_l0_O) (d : impl_copLists_l0_H) : Option impl_copLists_l0_O :=
 let s0 : Int := d.1
 let s5 : List (List Int) := d.2.1
 let s12 : Int := d.2.2.1
 let s13 : Int := d.2.2.2.1
 if (decide (s13 < s12)) = true then
  (impl_copLists_l2 N N ((s0, (([] : List (List Int)), (s12, (s13, (s5, ((List.length s5 : Int), ((0 : Int), ()))))))))).bind fun o36 => match o36 with
  | .inl d37 =>
   let x38 : Int := IntKind.wrap .i64 (d37.2.2.2.1 + (1 : Int))
   back ((d37.1, (d37.2.1, (d37.2.2.1, (x38, ())))))
 else
  some (.inl (s5, ()))
noncomputable def impl_copLists_l0 (N : Nat) : Nat → impl_copLists_l0_H → Option impl_copLists_l0_O
 | 0, _ => none
 | k + 1, d => impl_copLists_l0_r N (impl_copLists_l0 N k) d
theorem impl_copLists_l0_ok (N : Nat) (back) (d) : roundR Γ_impl_copLists (assoc [(2, ⟨impl_copLists_l2_h, impl_copLists_l2_o, impl_copLists_l2 N N⟩)]) 0 impl_copLists_l0_h impl_copLists_l0_o (loopOf Tryz.f125 0) back d = impl_copLists_l0_r N back d := by kernel_rfl
noncomputable def F_impl_copLists (N : Nat) (d : Int × Int × Unit) : Option (List (List Int) × Unit) :=
 let a0 : Int := d.1
 let a1 : Int := d.2.1
 (impl_copLists_l0 N N ((a0, ([([] : List Int)], (a1, ((0 : Int), ())))))).bind fun o25 => match o25 with
 | .inl d26 =>
  some (d26.1, ())
theorem F_impl_copLists_ok (N : Nat) (d) : fnR Γ_impl_copLists (assoc [(0, ⟨impl_copLists_l0_h, impl_copLists_l0_o, impl_copLists_l0 N N⟩)]) true [(I, false), (I, false)] [K_SSi] Tryz.f125.results.toList (bodyOf Tryz.f125) d = F_impl_copLists N d := by kernel_rfl
noncomputable def S_impl_copLists : FSig := ⟨[(I, false), (I, false)], [K_SSi], true, (G_configs)⟩
noncomputable def Γ_impl_net_closed : Ctx := { tk := assoc tks, ar := assoc ars, fs := assoc [] }
noncomputable def F_impl_net_closed (N : Nat) (d : (List Int × Unit) × Int × Unit) : Option (Int × Unit) :=
 let a0 : List Int × Unit := d.1
 let a1 : Int := d.2.1
 if (idxIn a1 (List.length a0.1)) = true then
 if (decide (0 ≤ a1)) = true then
 let x1 : Int := bits .or .i64 (at_ I a0.1 a1.toNat) (shl .i64 (1 : Int) a1)
 some (x1, ())
 else none
 else none
theorem F_impl_net_closed_ok (N : Nat) (d) : fnR Γ_impl_net_closed (assoc []) true [(K_PSiq, false), (I, false)] [I] Tryz.f100.results.toList (bodyOf Tryz.f100) d = F_impl_net_closed N d := by kernel_rfl
noncomputable def S_impl_net_closed : FSig := ⟨[(K_PSiq, false), (I, false)], [I], true, (F_impl_net_closed 0)⟩
noncomputable def Γ_impl_setOf : Ctx := { tk := assoc tks, ar := assoc ars, fs := assoc [] }
abbrev impl_setOf_l0_H := Int × List Int × Int × Unit
abbrev impl_setOf_l0_O := (List Int × Unit) ⊕ Empty
def impl_setOf_l0_h : Form := [(0, .v I), (3, .own K_Si 99), (4, .v I)]
def impl_setOf_l0_o : Outs := [(.normal, [(3, .own K_Si 99)])]
noncomputable def impl_setOf_l0_r (N : Nat) (back : impl_setOf_l0_H → Option impl_setOf_l0_O) (d : impl_setOf_l0_H) : Option impl_setOf_l0_O :=
 let s0 : Int := d.1
 let s3 : List Int := d.2.1
 let s4 : Int := d.2.2.1
 if (decide (0 ≤ s4)) = true then
 if (shr .i64 s0 s4 != (0 : Int)) = true then
  if (decide (0 ≤ s4)) = true then
  let x6 : Int := bits .and .i64 (shr .i64 s0 s4) (1 : Int)
  if (x6 == (1 : Int)) = true then
   if (decide (List.length s3 + List.length ([s4]) ≤ lim)) = true then
   let x7 : Int := IntKind.wrap .i64 (s4 + (1 : Int))
   back ((s0, (s3 ++ ([s4]), (x7, ()))))
   else none
  else
   let x8 : Int := IntKind.wrap .i64 (s4 + (1 : Int))
   back ((s0, (s3, (x8, ()))))
  else none
 else
  some (.inl (s3, ()))
 else none
noncomputable def impl_setOf_l0 (N : Nat) : Nat → impl_setOf_l0_H → Option impl_setOf_l0_O
 | 0, _ => none
 | k + 1, d => impl_setOf_l0_r N (impl_setOf_l0 N k) d
theorem impl_setOf_l0_ok (N : Nat) (back) (d) : roundR Γ_impl_setOf (assoc []) 0 impl_setOf_l0_h impl_setOf_l0_o (loopOf Tryz.f52 0) back d = impl_setOf_l0_r N back d := by kernel_rfl
noncomputable def F_impl_setOf (N : Nat) (d : Int × Unit) : Option (List Int × Unit) :=
 let a0 : Int := d.1
 (impl_setOf_l0 N N ((a0, (([] : List Int), ((0 : Int), ()))))).bind fun o4 => match o4 with
 | .inl d5 =>
  some (d5.1, ())
theorem F_impl_setOf_ok (N : Nat) (d) : fnR Γ_impl_setOf (assoc [(0, ⟨impl_setOf_l0_h, impl_setOf_l0_o, impl_setOf_l0 N N⟩)]) true [(I, false)] [K_Si] Tryz.f52.results.toList (bodyOf Tryz.f52) d = F_impl_setOf N d := by kernel_rfl
noncomputable def S_impl_setOf : FSig := ⟨[(I, false)], [K_Si], true, (G_setOf)⟩
def S_slices_Sort_Sint_int : FSig := ⟨[(K_Si, true)], [], true, G_sortI⟩
def S_slices_SortFunc_SSint_Sint_by_slices_Compare_Sint_int : FSig := ⟨[(K_SSi, true), (K_F_slices_Compare_Sint_int_qq, false)], [], true, G_sortF⟩
def S_slices_CompactFunc_SSint_Sint_by_slices_Equal_Sint_int : FSig := ⟨[(K_SSi, true), (K_F_slices_Equal_Sint_int_qq, false)], [K_SSi], true, G_compactF⟩
noncomputable def Γ_impl_net_copMoves : Ctx := { tk := assoc tks, ar := assoc ars, fs := assoc [(52, S_impl_setOf), (80, S_slices_Clone_Sint_int), (100, S_impl_net_closed), (121, S_slices_Sort_Sint_int), (122, S_slices_SortFunc_SSint_Sint_by_slices_Compare_Sint_int)], dm := fun t => Nat.beq t 10 || Nat.beq t 22, cs := assoc [], gs := assoc [(123, (S_slices_CompactFunc_SSint_Sint_by_slices_Equal_Sint_int, { gone := [0], deep := [] }))], eqt := inL [], md := md0 }
abbrev impl_net_copMoves_l4_H := (List Int × Unit) × Int × List (List Int) × List Int × List Int × Int × Int × List (List Int) × Int × Int × List Int × Int × Int × Unit
abbrev impl_net_copMoves_l4_O := ((List Int × Unit) × Int × List (List Int) × List Int × Int × Int × List (List Int) × Int × Int × Unit) ⊕ Empty
def impl_net_copMoves_l4_h : Form := [(2, .box K_PSiq 0), (7, .v I), (8, .own K_SSi 99), (10, .v K_Si), (16, .v K_Si), (17, .v I), (18, .v I), (22, .v K_SSi), (23, .v I), (24, .v I), (31, .own K_Si 99), (32, .v I), (33, .v I)]
def impl_net_copMoves_l4_o : Outs := [(.normal, [(2, .box K_PSiq 0), (7, .v I), (8, .own K_SSi 99), (16, .v K_Si), (17, .v I), (18, .v I), (22, .v K_SSi), (23, .v I), (24, .v I)])]
noncomputable def impl_net_copMoves_l4_r (N : Nat) (back : impl_net_copMoves_l4_H → Option impl_net_copMoves_l4_O) (d : impl_net_copMoves_l4_H) : Option impl_net_copMoves_l4_O :=
 let s2 : List Int × Unit := d.1
 let s7 : Int := d.2.1
 let s8 : List (List Int) := d.2.2.1
 let s10 : List Int := d.2.2.2.1
 let s16 : List Int := d.2.2.2.2.1
 let s17 : Int := d.2.2.2.2.2.1
 let s18 : Int := d.2.2.2.2.2.2.1
 let s22 : List (List Int) := d.2.2.2.2.2.2.2.1
 let s23 : Int := d.2.2.2.2.2.2.2.2.1
 let s24 : Int := d.2.2.2.2.2.2.2.2.2.1
 let s31 : List Int := d.2.2.2.2.2.2.2.2.2.2.1
 let s32 : Int := d.2.2.2.2.2.2.2.2.2.2.2.1
 let s33 : Int := d.2.2.2.2.2.2.2.2.2.2.2.2.1
 if (decide (s33 < s32)) = true then
  if (idxIn s33 (List.length s31)) = true then
  (G_toIntS (s10, ())).bind fun r50 =>
  if (decide (List.length r50.1 + List.length ([at_ I s31 s33.toNat]) ≤ lim)) = true then
  let x51 : List Int := r50.1 ++ ([at_ I s31 s33.toNat])
  if (decide (List.length s8 + List.length ([x51]) ≤ lim)) = true then
  let x52 : Int := IntKind.wrap .i64 (s33 + (1 : Int))
  back ((s2, (s7, (s8 ++ ([x51]), (s10, (s16, (s17, (s18, (s22, (s23, (s24, (s31, (s32, (x52, ()))))))))))))))
  else none
  else none
  else none
 else
  some (.inl ((s2, (s7, (s8, (s16, (s17, (s18, (s22, (s23, (s24, ())))))))))))
noncomputable def impl_net_copMoves_l4 (N : Nat) : Nat → impl_net_copMoves_l4_H → Option impl_net_copMoves_l4_O
 | 0, _ => none
 | k + 1, d => impl_net_copMoves_l4_r N (impl_net_copMoves_l4 N k) d
theorem impl_net_copMoves_l4_ok (N : Nat) (back) (d) : roundR Γ_impl_net_copMoves (assoc []) 4 impl_net_copMoves_l4_h impl_net_copMoves_l4_o (loopOf Tryz.f90 4) back d = impl_net_copMoves_l4_r N back d := by kernel_rfl
abbrev impl_net_copMoves_l2_H := (List Int × Unit) × Int × List (List Int) × List Int × Int × Int × List (List Int) × Int × Int × Unit
abbrev impl_net_copMoves_l2_O := ((List Int × Unit) × List (List Int) × List Int × Int × Int × Unit) ⊕ Empty
def impl_net_copMoves_l2_h : Form := [(2, .box K_PSiq 0), (7, .v I), (8, .own K_SSi 99), (16, .v K_Si), (17, .v I), (18, .v I), (22, .v K_SSi), (23, .v I), (24, .v I)]
def impl_net_copMoves_l2_o : Outs := [(.normal, [(2, .box K_PSiq 0), (8, .own K_SSi 99), (16, .v K_Si), (17, .v I), (18, .v I)])]
noncomputable def impl_net_copMoves_l2_r (N : Nat) (back : impl_net_copMoves_l2_H → Option impl_net_copMoves_l2_O) (d : impl_net_copMoves_l2_H) : Option impl_net_copMoves_l2_O :=
 let s2 : List Int × Unit := d.1
 let s7 : Int := d.2.1
 let s8 : List (List Int) := d.2.2.1
 let s16 : List Int := d.2.2.2.1
 let s17 : Int := d.2.2.2.2.1
 let s18 : Int := d.2.2.2.2.2.1
 let s22 : List (List Int) := d.2.2.2.2.2.2.1
 let s23 : Int := d.2.2.2.2.2.2.2.1
 let s24 : Int := d.2.2.2.2.2.2.2.2.1
 if (decide (s24 < s23)) = true then
  if (idxIn s24 (List.length s22)) = true then
  ((F_impl_net_closed 0) ((s2, (s7, ())))).bind fun r42 =>
  (G_setOf (r42.1, ())).bind fun r43 =>
  (impl_net_copMoves_l4 N N ((s2, (s7, (s8, (at_ K_Si s22 s24.toNat, (s16, (s17, (s18, (s22, (s23, (s24, (r43.1, ((List.length r43.1 : Int), ((0 : Int), ()))))))))))))))).bind fun o47 => match o47 with
  | .inl d48 =>
   let x49 : Int := IntKind.wrap .i64 (d48.2.2.2.2.2.2.2.2.1 + (1 : Int))
   back ((d48.1, (d48.2.1, (d48.2.2.1, (d48.2.2.2.1, (d48.2.2.2.2.1, (d48.2.2.2.2.2.1, (d48.2.2.2.2.2.2.1, (d48.2.2.2.2.2.2.2.1, (x49, ()))))))))))
  else none
 else
  some (.inl ((s2, (s8, (s16, (s17, (s18, ())))))))
noncomputable def impl_net_copMoves_l2 (N : Nat) : Nat → impl_net_copMoves_l2_H → Option impl_net_copMoves_l2_O
 | 0, _ => none
 | k + 1, d => impl_net_copMoves_l2_r N (impl_net_copMoves_l2 N k) d
theorem impl_net_copMoves_l2_ok (N : Nat) (back) (d) : roundR Γ_impl_net_copMoves (assoc [(4, ⟨impl_net_copMoves_l4_h, impl_net_copMoves_l4_o, impl_net_copMoves_l4 N N⟩)]) 2 impl_net_copMoves_l2_h impl_net_copMoves_l2_o (loopOf Tryz.f90 2) back d = impl_net_copMoves_l2_r N back d := by kernel_rfl
abbrev impl_net_copMoves_l0_H := (List Int × Unit) × List (List Int) × List Int × Int × Int × Unit
abbrev impl_net_copMoves_l0_O := (List (List Int) × Unit) ⊕ Empty
def impl_net_copMoves_l0_h : Form := [(2, .box K_PSiq 0), (5, .own K_SSi 99), (16, .v K_Si), (17, .v I), (18, .v I)]
def impl_net_copMoves_l0_o : Outs := [(.normal, [(5, .own K_SSi 99)])]
noncomputable def impl_net_copMoves_l0_r (N : Nat) (back : impl_net_copMoves_l0_H → Option impl_net_copMoves_l0_O) (d : impl_net_copMoves_l0_H) : Option impl_net_copMoves_l0_O :=
 let s2 : List Int × Unit := d.1
 let s5 : List (List Int) := d.2.1
 let s16 : List Int := d.2.2.1
 let s17 : Int := d.2.2.2.1
 let s18 : Int := d.2.2.2.2.1
 if (decide (s18 < s17)) = true then
  if (idxIn s18 (List.length s16)) = true then
  (impl_net_copMoves_l2 N N ((s2, (at_ I s16 s18.toNat, (([] : List (List Int)), (s16, (s17, (s18, (s5, ((List.length s5 : Int), ((0 : Int), ()))))))))))).bind fun o39 => match o39 with
  | .inl d40 =>
   let x41 : Int := IntKind.wrap .i64 (d40.2.2.2.2.1 + (1 : Int))
   back ((d40.1, (d40.2.1, (d40.2.2.1, (d40.2.2.2.1, (x41, ()))))))
  else none
 else
  some (.inl (s5, ()))
noncomputable def impl_net_copMoves_l0 (N : Nat) : Nat → impl_net_copMoves_l0_H → Option impl_net_copMoves_l0_O
 | 0, _ => none
 | k + 1, d => impl_net_copMoves_l0_r N (impl_net_copMoves_l0 N k) d
theorem impl_net_copMoves_l0_ok (N : Nat) (back) (d) : roundR Γ_impl_net_copMoves (assoc [(2, ⟨impl_net_copMoves_l2_h, impl_net_copMoves_l2_o, impl_net_copMoves_l2 N N⟩)]) 0 impl_net_copMoves_l0_h impl_net_copMoves_l0_o (loopOf Tryz.f90 0) back d = impl_net_copMoves_l0_r N back d := by kernel_rfl
abbrev impl_net_copMoves_l6_H := List (List Int) × Unit × Int × Int × Unit
abbrev impl_net_copMoves_l6_O := (List (List Int) × Unit) ⊕ Empty
def impl_net_copMoves_l6_h : Form := [(5, .own K_SSi 99), (49, .same 5 []), (50, .v I), (51, .v I)]
def impl_net_copMoves_l6_o : Outs := [(.normal, [(5, .own K_SSi 99)])]
noncomputable def impl_net_copMoves_l6_r (N : Nat) (back : impl_net_copMoves_l6_H → Option impl_net_copMoves_l6_O) (d : impl_net_copMoves_l6_H) : Option impl_net_copMoves_l6_O :=
 let s5 : List (List Int) := d.1
 let s49 : Unit := d.2.1
 let s50 : Int := d.2.2.1
 let s51 : Int := d.2.2.2.1
 if (decide (s51 < s50)) = true then
  if (idxIn s51 (List.length s5)) = true then
  (G_sortI (at_ K_Si s5 s51.toNat, ())).bind fun r53 =>
  let x54 : Int := IntKind.wrap .i64 (s51 + (1 : Int))
  back ((List.set s5 s51.toNat r53.1, ((), (s50, (x54, ())))))
  else none
 else
  some (.inl (s5, ()))
noncomputable def impl_net_copMoves_l6 (N : Nat) : Nat → impl_net_copMoves_l6_H → Option impl_net_copMoves_l6_O
 | 0, _ => none
 | k + 1, d => impl_net_copMoves_l6_r N (impl_net_copMoves_l6 N k) d
theorem impl_net_copMoves_l6_ok (N : Nat) (back) (d) : roundR Γ_impl_net_copMoves (assoc []) 6 impl_net_copMoves_l6_h impl_net_copMoves_l6_o (loopOf Tryz.f90 6) back d = impl_net_copMoves_l6_r N back d := by kernel_rfl
noncomputable def F_impl_net_copMoves (N : Nat) (d : (List Int × Unit) × List Int × Unit) : Option (List (List Int) × Unit) :=
 let a0 : List Int × Unit := d.1
 let a1 : List Int := d.2.1
 (impl_net_copMoves_l0 N N ((a0, ([([] : List Int)], (a1, ((List.length a1 : Int), ((0 : Int), ()))))))).bind fun o23 => match o23 with
 | .inl d24 =>
  (impl_net_copMoves_l6 N N ((d24.1, ((), ((List.length d24.1 : Int), ((0 : Int), ())))))).bind fun o27 => match o27 with
  | .inl d28 =>
   (G_sortF ((d28.1, (((), ()), ())))).bind fun r29 =>
   (G_compactF ((r29.1, (((), ()), ())))).bind fun r30 =>
   some (r30.1, ())
theorem F_impl_net_copMoves_ok (N : Nat) (d) : fnR Γ_impl_net_copMoves (assoc [(0, ⟨impl_net_copMoves_l0_h, impl_net_copMoves_l0_o, impl_net_copMoves_l0 N N⟩), (6, ⟨impl_net_copMoves_l6_h, impl_net_copMoves_l6_o, impl_net_copMoves_l6 N N⟩)]) true [(K_PSiq, false), (K_Si, false)] [K_SSi] Tryz.f90.results.toList (bodyOf Tryz.f90) d = F_impl_net_copMoves N d := by kernel_rfl
noncomputable def S_impl_net_copMoves : FSig := ⟨[(K_PSiq, false), (K_Si, false)], [K_SSi], true, (G_copMoves)⟩
noncomputable def FV_slices_Compare_Sint_int (d : List Int × List Int × (Unit × Unit) × Unit) : Option (Int × Unit) := G_compare (d.1, d.2.1, d.2.2.1.2)
noncomputable def SV_slices_Compare_Sint_int : FSig := ⟨[(K_Si, false), (K_Si, false), (K_F_slices_Compare_Sint_int_qq, false)], [I], true, FV_slices_Compare_Sint_int⟩
noncomputable def Γ_slices_BinarySearchFunc_SSint_Sint_Sint_by_slices_Compare_Sint_int : Ctx := { tk := assoc tks, ar := assoc ars, fs := assoc [], cs := assoc [(113, SV_slices_Compare_Sint_int)] }
abbrev slices_BinarySearchFunc_SSint_Sint_Sint_by_slices_Compare_Sint_int_l0_H := List (List Int) × List Int × (Unit × Unit) × Int × Int × Int × Unit
abbrev slices_BinarySearchFunc_SSint_Sint_Sint_by_slices_Compare_Sint_int_l0_O := (List (List Int) × List Int × (Unit × Unit) × Int × Int × Unit) ⊕ Empty
def slices_BinarySearchFunc_SSint_Sint_Sint_by_slices_Compare_Sint_int_l0_h : Form := [(0, .v K_SSi), (1, .v K_Si), (2, .v K_F_slices_Compare_Sint_int_qq), (8, .v I), (9, .v I), (10, .v I)]
def slices_BinarySearchFunc_SSint_Sint_Sint_by_slices_Compare_Sint_int_l0_o : Outs := [(.normal, [(0, .v K_SSi), (1, .v K_Si), (2, .v K_F_slices_Compare_Sint_int_qq), (8, .v I), (9, .v I)])]
noncomputable def slices_BinarySearchFunc_SSint_Sint_Sint_by_slices_Compare_Sint_int_l0_r (N : Nat) (back : slices_BinarySearchFunc_SSint_Sint_Sint_by_slices_Compare_Sint_int_l0_H → Option slices_BinarySearchFunc_SSint_Sint_Sint_by_slices_Compare_Sint_int_l0_O) (d : slices_BinarySearchFunc_SSint_Sint_Sint_by_slices_Compare_Sint_int_l0_H) : Option slices_BinarySearchFunc_SSint_Sint_Sint_by_slices_Compare_Sint_int_l0_O :=
 let s0 : List (List Int) := d.1
 let s1 : List Int := d.2.1
 let s2 : Unit × Unit := d.2.2.1
 let s8 : Int := d.2.2.2.1
 let s9 : Int := d.2.2.2.2.1
 let s10 : Int := d.2.2.2.2.2.1
 if (decide (s9 < s10)) = true then
  let x8 : Int := IntKind.wrap .u64 (IntKind.wrap .i64 (s9 + s10))
  if (decide (0 ≤ (1 : Int))) = true then
  let x9 : Int := IntKind.wrap .i64 (shr .u64 x8 (1 : Int))
  if (idxIn x9 (List.length s0)) = true then
  (FV_slices_Compare_Sint_int ((at_ K_Si s0 x9.toNat, (s1, (s2, ()))))).bind fun r10 =>
  if (decide (r10.1 < (0 : Int))) = true then
   let x11 : Int := IntKind.wrap .i64 (x9 + (1 : Int))
   back ((s0, (s1, (s2, (s8, (x11, (s10, ())))))))
  else
   back ((s0, (s1, (s2, (s8, (s9, (x9, ())))))))
  else none
  else none
 else
  some (.inl ((s0, (s1, (s2, (s8, (s9, ())))))))
noncomputable def slices_BinarySearchFunc_SSint_Sint_Sint_by_slices_Compare_Sint_int_l0 (N : Nat) : Nat → slices_BinarySearchFunc_SSint_Sint_Sint_by_slices_Compare_Sint_int_l0_H → Option slices_BinarySearchFunc_SSint_Sint_Sint_by_slices_Compare_Sint_int_l0_O
 | 0, _ => none
 | k + 1, d => slices_BinarySearchFunc_SSint_Sint_Sint_by_slices_Compare_Sint_int_l0_r N (slices_BinarySearchFunc_SSint_Sint_Sint_by_slices_Compare_Sint_int_l0 N k) d
theorem slices_BinarySearchFunc_SSint_Sint_Sint_by_slices_Compare_Sint_int_l0_ok (N : Nat) (back) (d) : roundR Γ_slices_BinarySearchFunc_SSint_Sint_Sint_by_slices_Compare_Sint_int (assoc []) 0 slices_BinarySearchFunc_SSint_Sint_Sint_by_slices_Compare_Sint_int_l0_h slices_BinarySearchFunc_SSint_Sint_Sint_by_slices_Compare_Sint_int_l0_o (loopOf Tryz.f112 0) back d = slices_BinarySearchFunc_SSint_Sint_Sint_by_slices_Compare_Sint_int_l0_r N back d := by kernel_rfl
noncomputable def F_slices_BinarySearchFunc_SSint_Sint_Sint_by_slices_Compare_Sint_int (N : Nat) (d : List (List Int) × List Int × (Unit × Unit) × Unit) : Option (Int × Bool × Unit) :=
 let a0 : List (List Int) := d.1
 let a1 : List Int := d.2.1
 let a2 : Unit × Unit := d.2.2.1
 (slices_BinarySearchFunc_SSint_Sint_Sint_by_slices_Compare_Sint_int_l0 N N ((a0, (a1, (a2, ((List.length a0 : Int), ((0 : Int), ((List.length a0 : Int), ())))))))).bind fun o5 => match o5 with
 | .inl d6 =>
  if (decide (d6.2.2.2.2.1 < d6.2.2.2.1)) = true then
   if (idxIn d6.2.2.2.2.1 (List.length d6.1)) = true then
   (FV_slices_Compare_Sint_int ((at_ K_Si d6.1 d6.2.2.2.2.1.toNat, (d6.2.1, (d6.2.2.1, ()))))).bind fun r7 =>
   some ((d6.2.2.2.2.1, (r7.1 == (0 : Int), ())))
   else none
  else
   some ((d6.2.2.2.2.1, (false, ())))
theorem F_slices_BinarySearchFunc_SSint_Sint_Sint_by_slices_Compare_Sint_int_ok (N : Nat) (d) : fnR Γ_slices_BinarySearchFunc_SSint_Sint_Sint_by_slices_Compare_Sint_int (assoc [(0, ⟨slices_BinarySearchFunc_SSint_Sint_Sint_by_slices_Compare_Sint_int_l0_h, slices_BinarySearchFunc_SSint_Sint_Sint_by_slices_Compare_Sint_int_l0_o, slices_BinarySearchFunc_SSint_Sint_Sint_by_slices_Compare_Sint_int_l0 N N⟩)]) true [(K_SSi, false), (K_Si, false), (K_F_slices_Compare_Sint_int_qq, false)] [I, .bool] Tryz.f112.results.toList (bodyOf Tryz.f112) d = F_slices_BinarySearchFunc_SSint_Sint_Sint_by_slices_Compare_Sint_int N d := by kernel_rfl
noncomputable def S_slices_BinarySearchFunc_SSint_Sint_Sint_by_slices_Compare_Sint_int : FSig := ⟨[(K_SSi, false), (K_Si, false), (K_F_slices_Compare_Sint_int_qq, false)], [I, .bool], true, (G_bin)⟩
noncomputable def Γ_impl_copGame_place : Ctx := { tk := assoc tks, ar := assoc ars, fs := assoc [(112, S_slices_BinarySearchFunc_SSint_Sint_Sint_by_slices_Compare_Sint_int)] }
noncomputable def F_impl_copGame_place (N : Nat) (d : ((List Int × Unit) × List (List Int) × List (List Int) × List (List Int) × Unit) × List Int × Unit) : Option (Int × Unit) :=
 let a0 : (List Int × Unit) × List (List Int) × List (List Int) × List (List Int) × Unit := d.1
 let a1 : List Int := d.2.1
 (G_bin ((a0.2.1, (a1, (((), ()), ()))))).bind fun r1 =>
 some (r1.1, ())
theorem F_impl_copGame_place_ok (N : Nat) (d) : fnR Γ_impl_copGame_place (assoc []) true [(K_BPPZiqZSiSSiSSiq, false), (K_Si, false)] [I] Tryz.f71.results.toList (bodyOf Tryz.f71) d = F_impl_copGame_place N d := by kernel_rfl
noncomputable def S_impl_copGame_place : FSig := ⟨[(K_BPPZiqZSiSSiSSiq, false), (K_Si, false)], [I], true, (F_impl_copGame_place 0)⟩
noncomputable def Γ_impl_net_copBoard : Ctx := { tk := assoc tks, ar := assoc ars, fs := assoc [(71, S_impl_copGame_place), (90, S_impl_net_copMoves), (105, S_impl_net_size), (125, S_impl_copLists)] }
abbrev impl_net_copBoard_l2_H := (List Int × Unit) × ((List Int × Unit) × List (List Int) × List (List Int) × List (List Int) × Unit) × List Int × List (List Int) × Int × Int × List (List Int) × Int × Int × Unit
abbrev impl_net_copBoard_l2_O := ((List Int × Unit) × ((List Int × Unit) × List (List Int) × List (List Int) × List (List Int) × Unit) × List Int × List (List Int) × Int × Int × Unit) ⊕ Empty
def impl_net_copBoard_l2_h : Form := [(2, .box K_PSiq 0), (5, .box K_PPZiqZSiSSiSSiq 99), (8, .own K_Si 99), (21, .v K_SSi), (22, .v I), (23, .v I), (29, .own K_SSi 99), (30, .v I), (31, .v I)]
def impl_net_copBoard_l2_o : Outs := [(.normal, [(2, .box K_PSiq 0), (5, .box K_PPZiqZSiSSiSSiq 99), (8, .own K_Si 99), (21, .v K_SSi), (22, .v I), (23, .v I)])]
noncomputable def impl_net_copBoard_l2_r (N : Nat) (back : impl_net_copBoard_l2_H → Option impl_net_copBoard_l2_O) (d : impl_net_copBoard_l2_H) : Option impl_net_copBoard_l2_O :=
 let s2 : List Int × Unit := d.1
 let s5 : (List Int × Unit) × List (List Int) × List (List Int) × List (List Int) × Unit := d.2.1
 let s8 : List Int := d.2.2.1
 let s21 : List (List Int) := d.2.2.2.1
 let s22 : Int := d.2.2.2.2.1
 let s23 : Int := d.2.2.2.2.2.1
 let s29 : List (List Int) := d.2.2.2.2.2.2.1
 let s30 : Int := d.2.2.2.2.2.2.2.1
 let s31 : Int := d.2.2.2.2.2.2.2.2.1
 if (decide (s31 < s30)) = true then
  if (idxIn s31 (List.length s29)) = true then
  ((F_impl_copGame_place 0) ((s5, (at_ K_Si s29 s31.toNat, ())))).bind fun r18 =>
  if (decide (List.length s8 + List.length ([r18.1]) ≤ lim)) = true then
  let x19 : Int := IntKind.wrap .i64 (s31 + (1 : Int))
  back ((s2, (s5, (s8 ++ ([r18.1]), (s21, (s22, (s23, (s29, (s30, (x19, ()))))))))))
  else none
  else none
 else
  some (.inl ((s2, (s5, (s8, (s21, (s22, (s23, ()))))))))
noncomputable def impl_net_copBoard_l2 (N : Nat) : Nat → impl_net_copBoard_l2_H → Option impl_net_copBoard_l2_O
 | 0, _ => none
 | k + 1, d => impl_net_copBoard_l2_r N (impl_net_copBoard_l2 N k) d
theorem impl_net_copBoard_l2_ok (N : Nat) (back) (d) : roundR Γ_impl_net_copBoard (assoc []) 2 impl_net_copBoard_l2_h impl_net_copBoard_l2_o (loopOf Tryz.f103 2) back d = impl_net_copBoard_l2_r N back d := by kernel_rfl
abbrev impl_net_copBoard_l0_H := (List Int × Unit) × ((List Int × Unit) × List (List Int) × List (List Int) × List (List Int) × Unit) × List (List Int) × Int × Int × Unit
abbrev impl_net_copBoard_l0_O := (((List Int × Unit) × List (List Int) × List (List Int) × List (List Int) × Unit) × Unit) ⊕ Empty
def impl_net_copBoard_l0_h : Form := [(2, .box K_PSiq 0), (5, .box K_PPZiqZSiSSiSSiq 99), (21, .v K_SSi), (22, .v I), (23, .v I)]
def impl_net_copBoard_l0_o : Outs := [(.normal, [(5, .box K_PPZiqZSiSSiSSiq 99)])]
noncomputable def impl_net_copBoard_l0_r (N : Nat) (back : impl_net_copBoard_l0_H → Option impl_net_copBoard_l0_O) (d : impl_net_copBoard_l0_H) : Option impl_net_copBoard_l0_O :=
 let s2 : List Int × Unit := d.1
 let s5 : (List Int × Unit) × List (List Int) × List (List Int) × List (List Int) × Unit := d.2.1
 let s21 : List (List Int) := d.2.2.1
 let s22 : Int := d.2.2.2.1
 let s23 : Int := d.2.2.2.2.1
 if (decide (s23 < s22)) = true then
  if (idxIn s23 (List.length s21)) = true then
  (G_copMoves ((s2, (at_ K_Si s21 s23.toNat, ())))).bind fun r11 =>
  (impl_net_copBoard_l2 N N ((s2, (s5, (([] : List Int), (s21, (s22, (s23, (r11.1, ((List.length r11.1 : Int), ((0 : Int), ()))))))))))).bind fun o14 => match o14 with
  | .inl d15 =>
   if (decide (List.length d15.2.1.2.2.1 + List.length ([d15.2.2.1]) ≤ lim)) = true then
   let x16 : List (List Int) := d15.2.1.2.2.1 ++ ([d15.2.2.1])
   let x17 : Int := IntKind.wrap .i64 (d15.2.2.2.2.2.1 + (1 : Int))
   back ((d15.1, ((d15.2.1.1, (d15.2.1.2.1, (x16, d15.2.1.2.2.2))), (d15.2.2.2.1, (d15.2.2.2.2.1, (x17, ()))))))
   else none
  else none
 else
  some (.inl (s5, ()))
noncomputable def impl_net_copBoard_l0 (N : Nat) : Nat → impl_net_copBoard_l0_H → Option impl_net_copBoard_l0_O
 | 0, _ => none
 | k + 1, d => impl_net_copBoard_l0_r N (impl_net_copBoard_l0 N k) d
theorem impl_net_copBoard_l0_ok (N : Nat) (back) (d) : roundR Γ_impl_net_copBoard (assoc [(2, ⟨impl_net_copBoard_l2_h, impl_net_copBoard_l2_o, impl_net_copBoard_l2 N N⟩)]) 0 impl_net_copBoard_l0_h impl_net_copBoard_l0_o (loopOf Tryz.f103 0) back d = impl_net_copBoard_l0_r N back d := by kernel_rfl
noncomputable def F_impl_net_copBoard (N : Nat) (d : (List Int × Unit) × Int × Unit) : Option (((List Int × Unit) × List (List Int) × List (List Int) × List (List Int) × Unit) × Unit) :=
 let a0 : List Int × Unit := d.1
 let a1 : Int := d.2.1
 let r1 : Int × Unit := g_impl_net_size (a0, ())
 (G_configs ((r1.1, (a1, ())))).bind fun r2 =>
 (impl_net_copBoard_l0 N N ((a0, ((a0, (r2.1, (([] : List (List Int)), (([] : List (List Int)), ())))), (r2.1, ((List.length r2.1 : Int), ((0 : Int), ()))))))).bind fun o9 => match o9 with
 | .inl d10 =>
  some (d10.1, ())
theorem F_impl_net_copBoard_ok (N : Nat) (d) : fnR Γ_impl_net_copBoard (assoc [(0, ⟨impl_net_copBoard_l0_h, impl_net_copBoard_l0_o, impl_net_copBoard_l0 N N⟩)]) true [(K_PSiq, false), (I, false)] [K_BPPZiqZSiSSiSSiq] Tryz.f103.results.toList (bodyOf Tryz.f103) d = F_impl_net_copBoard N d := by kernel_rfl
noncomputable def S_impl_net_copBoard : FSig := ⟨[(K_PSiq, false), (I, false)], [K_BPPZiqZSiSSiSSiq], true, (G_copBoard)⟩
def S_slices_Repeat_Sint_int : FSig := ⟨[(K_Si, false), (I, false)], [K_Si], true, G_repeat⟩
noncomputable def Γ_slices_Index_Sint_int : Ctx := { tk := assoc tks, ar := assoc ars, fs := assoc [] }
abbrev slices_Index_Sint_int_l0_H := List Int × Int × Int × Int × Unit
abbrev slices_Index_Sint_int_l0_O := (Int × Unit) ⊕ Unit ⊕ Empty
def slices_Index_Sint_int_l0_h : Form := [(0, .v K_Si), (1, .v I), (7, .v I), (8, .v I)]
def slices_Index_Sint_int_l0_o : Outs := [(.ret, [(4, .v I)]), (.normal, [])]
noncomputable def slices_Index_Sint_int_l0_r (N : Nat) (back : slices_Index_Sint_int_l0_H → Option slices_Index_Sint_int_l0_O) (d : slices_Index_Sint_int_l0_H) : Option slices_Index_Sint_int_l0_O :=
 let s0 : List Int := d.1
 let s1 : Int := d.2.1
 let s7 : Int := d.2.2.1
 let s8 : Int := d.2.2.2.1
 if (decide (s8 < s7)) = true then
  if (idxIn s8 (List.length s0)) = true then
  if (s1 == at_ I s0 s8.toNat) = true then
   some (.inl (s8, ()))
  else
   let x5 : Int := IntKind.wrap .i64 (s8 + (1 : Int))
   back ((s0, (s1, (s7, (x5, ())))))
  else none
 else
  some (.inr (.inl ()))
noncomputable def slices_Index_Sint_int_l0 (N : Nat) : Nat → slices_Index_Sint_int_l0_H → Option slices_Index_Sint_int_l0_O
 | 0, _ => none
 | k + 1, d => slices_Index_Sint_int_l0_r N (slices_Index_Sint_int_l0 N k) d
theorem slices_Index_Sint_int_l0_ok (N : Nat) (back) (d) : roundR Γ_slices_Index_Sint_int (assoc []) 0 slices_Index_Sint_int_l0_h slices_Index_Sint_int_l0_o (loopOf Tryz.f111 0) back d = slices_Index_Sint_int_l0_r N back d := by kernel_rfl
noncomputable def F_slices_Index_Sint_int (N : Nat) (d : List Int × Int × Unit) : Option (Int × Unit) :=
 let a0 : List Int := d.1
 let a1 : Int := d.2.1
 (slices_Index_Sint_int_l0 N N ((a0, (a1, ((List.length a0 : Int), ((0 : Int), ())))))).bind fun o2 => match o2 with
 | .inl d3 =>
  some (d3.1, ())
 | .inr (.inl d4) =>
  some ((-1 : Int), ())
theorem F_slices_Index_Sint_int_ok (N : Nat) (d) : fnR Γ_slices_Index_Sint_int (assoc [(0, ⟨slices_Index_Sint_int_l0_h, slices_Index_Sint_int_l0_o, slices_Index_Sint_int_l0 N N⟩)]) true [(K_Si, false), (I, false)] [I] Tryz.f111.results.toList (bodyOf Tryz.f111) d = F_slices_Index_Sint_int N d := by kernel_rfl
noncomputable def S_slices_Index_Sint_int : FSig := ⟨[(K_Si, false), (I, false)], [I], true, (G_index)⟩
noncomputable def Γ_slices_Contains_Sint_int : Ctx := { tk := assoc tks, ar := assoc ars, fs := assoc [(111, S_slices_Index_Sint_int)] }
noncomputable def F_slices_Contains_Sint_int (N : Nat) (d : List Int × Int × Unit) : Option (Bool × Unit) :=
 let a0 : List Int := d.1
 let a1 : Int := d.2.1
 (G_index ((a0, (a1, ())))).bind fun r1 =>
 some ((decide (r1.1 ≥ (0 : Int)), ()))
theorem F_slices_Contains_Sint_int_ok (N : Nat) (d) : fnR Γ_slices_Contains_Sint_int (assoc []) true [(K_Si, false), (I, false)] [.bool] Tryz.f69.results.toList (bodyOf Tryz.f69) d = F_slices_Contains_Sint_int N d := by kernel_rfl
noncomputable def S_slices_Contains_Sint_int : FSig := ⟨[(K_Si, false), (I, false)], [.bool], true, (F_slices_Contains_Sint_int 0)⟩
noncomputable def Γ_impl_net_timeAfter : Ctx := { tk := assoc tks, ar := assoc ars, fs := assoc [(52, S_impl_setOf), (100, S_impl_net_closed)] }
abbrev impl_net_timeAfter_l0_H := List Int × Int × List Int × Int × Int × Unit
abbrev impl_net_timeAfter_l0_O := (Int × Unit) ⊕ (Int × Unit) ⊕ Empty
def impl_net_timeAfter_l0_h : Form := [(1, .v K_Si), (7, .v I), (13, .own K_Si 99), (14, .v I), (15, .v I)]
def impl_net_timeAfter_l0_o : Outs := [(.ret, [(6, .v I)]), (.normal, [(7, .v I)])]
noncomputable def impl_net_timeAfter_l0_r (N : Nat) (back : impl_net_timeAfter_l0_H → Option impl_net_timeAfter_l0_O) (d : impl_net_timeAfter_l0_H) : Option impl_net_timeAfter_l0_O :=
 let s1 : List Int := d.1
 let s7 : Int := d.2.1
 let s13 : List Int := d.2.2.1
 let s14 : Int := d.2.2.2.1
 let s15 : Int := d.2.2.2.2.1
 if (decide (s15 < s14)) = true then
  if (idxIn s15 (List.length s13)) = true then
  if (idxIn (at_ I s13 s15.toNat) (List.length s1)) = true then
  if (decide (at_ I s1 (at_ I s13 s15.toNat).toNat < (0 : Int))) = true then
   some (.inl ((-1 : Int), ()))
  else
   if (idxIn (at_ I s13 s15.toNat) (List.length s1)) = true then
   let x8 : Int := if s7 < at_ I s1 (at_ I s13 s15.toNat).toNat then at_ I s1 (at_ I s13 s15.toNat).toNat else s7
   let x9 : Int := IntKind.wrap .i64 (s15 + (1 : Int))
   back ((s1, (x8, (s13, (s14, (x9, ()))))))
   else none
  else none
  else none
 else
  some (.inr (.inl (s7, ())))
noncomputable def impl_net_timeAfter_l0 (N : Nat) : Nat → impl_net_timeAfter_l0_H → Option impl_net_timeAfter_l0_O
 | 0, _ => none
 | k + 1, d => impl_net_timeAfter_l0_r N (impl_net_timeAfter_l0 N k) d
theorem impl_net_timeAfter_l0_ok (N : Nat) (back) (d) : roundR Γ_impl_net_timeAfter (assoc []) 0 impl_net_timeAfter_l0_h impl_net_timeAfter_l0_o (loopOf Tryz.f116 0) back d = impl_net_timeAfter_l0_r N back d := by kernel_rfl
noncomputable def F_impl_net_timeAfter (N : Nat) (d : (List Int × Unit) × List Int × Int × Unit) : Option (Int × Unit) :=
 let a0 : List Int × Unit := d.1
 let a1 : List Int := d.2.1
 let a2 : Int := d.2.2.1
 ((F_impl_net_closed 0) ((a0, (a2, ())))).bind fun r1 =>
 (G_setOf (r1.1, ())).bind fun r2 =>
 (impl_net_timeAfter_l0 N N ((a1, ((0 : Int), (r2.1, ((List.length r2.1 : Int), ((0 : Int), ()))))))).bind fun o5 => match o5 with
 | .inl d6 =>
  some (d6.1, ())
 | .inr (.inl d7) =>
  some (d7.1, ())
theorem F_impl_net_timeAfter_ok (N : Nat) (d) : fnR Γ_impl_net_timeAfter (assoc [(0, ⟨impl_net_timeAfter_l0_h, impl_net_timeAfter_l0_o, impl_net_timeAfter_l0 N N⟩)]) true [(K_PSiq, false), (K_Si, false), (I, false)] [I] Tryz.f116.results.toList (bodyOf Tryz.f116) d = F_impl_net_timeAfter N d := by kernel_rfl
noncomputable def S_impl_net_timeAfter : FSig := ⟨[(K_PSiq, false), (K_Si, false), (I, false)], [I], true, (G_timeAfter)⟩
noncomputable def Γ_impl_copGame_can_1 : Ctx := { tk := assoc tks, ar := assoc ars, fs := assoc [(69, S_slices_Contains_Sint_int), (116, S_impl_net_timeAfter)], cs := assoc [], w1 := inL [77] }
noncomputable def F_impl_copGame_can_1 (N : Nat) (d : Int × ((List Int × Unit) × List (List Int) × List (List Int) × List (List Int) × Unit) × Int × Unit) : Option (Bool × Unit) :=
 let a0 : Int := d.1
 let a1 : (List Int × Unit) × List (List Int) × List (List Int) × List (List Int) × Unit := d.2.1
 let a2 : Int := d.2.2.1
 if (idxIn a0 (List.length a1.2.1)) = true then
 ((F_slices_Contains_Sint_int 0) ((at_ K_Si a1.2.1 a0.toNat, (a2, ())))).bind fun r1 =>
 if (r1.1) = true then
  some (true, ())
 else
  if (idxIn a0 (List.length a1.2.2.2.1)) = true then
  (G_timeAfter ((a1.1, (at_ K_Si a1.2.2.2.1 a0.toNat, (a2, ()))))).bind fun r2 =>
  some ((decide (r2.1 ≥ (0 : Int)), ()))
  else none
 else none
theorem F_impl_copGame_can_1_ok (N : Nat) (d) : fnR Γ_impl_copGame_can_1 (assoc []) true [(I, false), (K_BBPPZiqZSiSSiSSiq, false), (K_Bi, false)] [.bool] Tryz.f128.results.toList (bodyOf Tryz.f128) d = F_impl_copGame_can_1 N d := by kernel_rfl
noncomputable def S_impl_copGame_can_1 : FSig := ⟨[(I, false), (K_BBPPZiqZSiSSiSSiq, false), (K_Bi, false)], [.bool], true, (F_impl_copGame_can_1 0)⟩
noncomputable def FV_impl_copGame_can_1 (d : Int × (Unit × ((List Int × Unit) × List (List Int) × List (List Int) × List (List Int) × Unit) × Int × Unit) × Unit) : Option (Bool × Unit) := (F_impl_copGame_can_1 0) (d.1, d.2.1.2)
noncomputable def SV_impl_copGame_can_1 : FSig := ⟨[(I, false), (K_F_impl_copGame_can_1_qPBBPPZiqZSiSSiSSiqBiq, false)], [.bool], true, FV_impl_copGame_can_1⟩
noncomputable def Γ_slices_IndexFunc_Sint_int_by_impl_copGame_can_1 : Ctx := { tk := assoc tks, ar := assoc ars, fs := assoc [], cs := assoc [(128, SV_impl_copGame_can_1)] }
abbrev slices_IndexFunc_Sint_int_by_impl_copGame_can_1_l0_H := List Int × (Unit × ((List Int × Unit) × List (List Int) × List (List Int) × List (List Int) × Unit) × Int × Unit) × Int × Int × Unit
abbrev slices_IndexFunc_Sint_int_by_impl_copGame_can_1_l0_O := (Int × Unit) ⊕ Unit ⊕ Empty
def slices_IndexFunc_Sint_int_by_impl_copGame_can_1_l0_h : Form := [(0, .v K_Si), (1, .v K_F_impl_copGame_can_1_qPBBPPZiqZSiSSiSSiqBiq), (7, .v I), (8, .v I)]
def slices_IndexFunc_Sint_int_by_impl_copGame_can_1_l0_o : Outs := [(.ret, [(4, .v I)]), (.normal, [])]
noncomputable def slices_IndexFunc_Sint_int_by_impl_copGame_can_1_l0_r (N : Nat) (back : slices_IndexFunc_Sint_int_by_impl_copGame_can_1_l0_H → Option slices_IndexFunc_Sint_int_by_impl_copGame_can_1_l0_O) (d : slices_IndexFunc_Sint_int_by_impl_copGame_can_1_l0_H) : Option slices_IndexFunc_Sint_int_by_impl_copGame_can_1_l0_O :=
 let s0 : List Int := d.1
 let s1 : Unit × ((List Int × Unit) × List (List Int) × List (List Int) × List (List Int) × Unit) × Int × Unit := d.2.1
 let s7 : Int := d.2.2.1
 let s8 : Int := d.2.2.2.1
 if (decide (s8 < s7)) = true then
  if (idxIn s8 (List.length s0)) = true then
  (FV_impl_copGame_can_1 ((at_ I s0 s8.toNat, (s1, ())))).bind fun r6 =>
  if (r6.1) = true then
   some (.inl (s8, ()))
  else
   let x7 : Int := IntKind.wrap .i64 (s8 + (1 : Int))
   back ((s0, (s1, (s7, (x7, ())))))
  else none
 else
  some (.inr (.inl ()))
noncomputable def slices_IndexFunc_Sint_int_by_impl_copGame_can_1_l0 (N : Nat) : Nat → slices_IndexFunc_Sint_int_by_impl_copGame_can_1_l0_H → Option slices_IndexFunc_Sint_int_by_impl_copGame_can_1_l0_O
 | 0, _ => none
 | k + 1, d => slices_IndexFunc_Sint_int_by_impl_copGame_can_1_l0_r N (slices_IndexFunc_Sint_int_by_impl_copGame_can_1_l0 N k) d
theorem slices_IndexFunc_Sint_int_by_impl_copGame_can_1_l0_ok (N : Nat) (back) (d) : roundR Γ_slices_IndexFunc_Sint_int_by_impl_copGame_can_1 (assoc []) 0 slices_IndexFunc_Sint_int_by_impl_copGame_can_1_l0_h slices_IndexFunc_Sint_int_by_impl_copGame_can_1_l0_o (loopOf Tryz.f137 0) back d = slices_IndexFunc_Sint_int_by_impl_copGame_can_1_l0_r N back d := by kernel_rfl
noncomputable def F_slices_IndexFunc_Sint_int_by_impl_copGame_can_1 (N : Nat) (d : List Int × (Unit × ((List Int × Unit) × List (List Int) × List (List Int) × List (List Int) × Unit) × Int × Unit) × Unit) : Option (Int × Unit) :=
 let a0 : List Int := d.1
 let a1 : Unit × ((List Int × Unit) × List (List Int) × List (List Int) × List (List Int) × Unit) × Int × Unit := d.2.1
 (slices_IndexFunc_Sint_int_by_impl_copGame_can_1_l0 N N ((a0, (a1, ((List.length a0 : Int), ((0 : Int), ())))))).bind fun o3 => match o3 with
 | .inl d4 =>
  some (d4.1, ())
 | .inr (.inl d5) =>
  some ((-1 : Int), ())
theorem F_slices_IndexFunc_Sint_int_by_impl_copGame_can_1_ok (N : Nat) (d) : fnR Γ_slices_IndexFunc_Sint_int_by_impl_copGame_can_1 (assoc [(0, ⟨slices_IndexFunc_Sint_int_by_impl_copGame_can_1_l0_h, slices_IndexFunc_Sint_int_by_impl_copGame_can_1_l0_o, slices_IndexFunc_Sint_int_by_impl_copGame_can_1_l0 N N⟩)]) true [(K_Si, false), (K_F_impl_copGame_can_1_qPBBPPZiqZSiSSiSSiqBiq, false)] [I] Tryz.f137.results.toList (bodyOf Tryz.f137) d = F_slices_IndexFunc_Sint_int_by_impl_copGame_can_1 N d := by kernel_rfl
noncomputable def S_slices_IndexFunc_Sint_int_by_impl_copGame_can_1 : FSig := ⟨[(K_Si, false), (K_F_impl_copGame_can_1_qPBBPPZiqZSiSSiSSiqBiq, false)], [I], true, (G_gameCan)⟩
noncomputable def Γ_slices_ContainsFunc_Sint_int_by_impl_copGame_can_1 : Ctx := { tk := assoc tks, ar := assoc ars, fs := assoc [(137, S_slices_IndexFunc_Sint_int_by_impl_copGame_can_1)] }
noncomputable def F_slices_ContainsFunc_Sint_int_by_impl_copGame_can_1 (N : Nat) (d : List Int × (Unit × ((List Int × Unit) × List (List Int) × List (List Int) × List (List Int) × Unit) × Int × Unit) × Unit) : Option (Bool × Unit) :=
 let a0 : List Int := d.1
 let a1 : Unit × ((List Int × Unit) × List (List Int) × List (List Int) × List (List Int) × Unit) × Int × Unit := d.2.1
 (G_gameCan ((a0, (a1, ())))).bind fun r1 =>
 some ((decide (r1.1 ≥ (0 : Int)), ()))
theorem F_slices_ContainsFunc_Sint_int_by_impl_copGame_can_1_ok (N : Nat) (d) : fnR Γ_slices_ContainsFunc_Sint_int_by_impl_copGame_can_1 (assoc []) true [(K_Si, false), (K_F_impl_copGame_can_1_qPBBPPZiqZSiSSiSSiqBiq, false)] [.bool] Tryz.f127.results.toList (bodyOf Tryz.f127) d = F_slices_ContainsFunc_Sint_int_by_impl_copGame_can_1 N d := by kernel_rfl
noncomputable def S_slices_ContainsFunc_Sint_int_by_impl_copGame_can_1 : FSig := ⟨[(K_Si, false), (K_F_impl_copGame_can_1_qPBBPPZiqZSiSSiSSiqBiq, false)], [.bool], true, (F_slices_ContainsFunc_Sint_int_by_impl_copGame_can_1 0)⟩
noncomputable def Γ_impl_copGame_can : Ctx := { tk := assoc tks, ar := assoc ars, fs := assoc [(127, S_slices_ContainsFunc_Sint_int_by_impl_copGame_can_1)], cs := assoc [], w1 := inL [77], fz := fun t => Nat.beq t 3 || Nat.beq t 5 }
noncomputable def F_impl_copGame_can (N : Nat) (d : ((List Int × Unit) × List (List Int) × List (List Int) × List (List Int) × Unit) × Int × Int × Unit) : Option (Bool × Unit) :=
 let a0 : (List Int × Unit) × List (List Int) × List (List Int) × List (List Int) × Unit := d.1
 let a1 : Int := d.2.1
 let a2 : Int := d.2.2.1
 if (idxIn a1 (List.length a0.2.2.1)) = true then
 ((F_slices_ContainsFunc_Sint_int_by_impl_copGame_can_1 0) ((at_ K_Si a0.2.2.1 a1.toNat, (((), (a0, (a2, ()))), ())))).bind fun r1 =>
 some (r1.1, ())
 else none
theorem F_impl_copGame_can_ok (N : Nat) (d) : fnR Γ_impl_copGame_can (assoc []) true [(K_BPPZiqZSiSSiSSiq, false), (I, false), (I, false)] [.bool] Tryz.f106.results.toList (bodyOf Tryz.f106) d = F_impl_copGame_can N d := by kernel_rfl
noncomputable def S_impl_copGame_can : FSig := ⟨[(K_BPPZiqZSiSSiSSiq, false), (I, false), (I, false)], [.bool], true, (F_impl_copGame_can 0)⟩
noncomputable def Γ_impl_net_copGame : Ctx := { tk := assoc tks, ar := assoc ars, fs := assoc [(104, S_slices_Repeat_Sint_int), (105, S_impl_net_size), (106, S_impl_copGame_can)], cs := assoc [], gs := assoc [(103, (S_impl_net_copBoard, md0))], eqt := inL [], md := md0 }
abbrev impl_net_copGame_l2_H := (List Int × Unit) × ((List Int × Unit) × List (List Int) × List (List Int) × List (List Int) × Unit) × List Int × List (List Int) × Int × Int × List Int × Int × Int × Unit
abbrev impl_net_copGame_l2_O := ((List Int × Unit) × ((List Int × Unit) × List (List Int) × List (List Int) × List (List Int) × Unit) × List Int × List (List Int) × Int × Int × Unit) ⊕ Empty
def impl_net_copGame_l2_h : Form := [(2, .box K_PSiq 0), (5, .box K_PPZiqZSiSSiSSiq 99), (8, .own K_Si 99), (26, .v K_SSi), (27, .v I), (28, .v I), (36, .v K_Si), (37, .v I), (38, .v I)]
def impl_net_copGame_l2_o : Outs := [(.normal, [(2, .box K_PSiq 0), (5, .box K_PPZiqZSiSSiSSiq 99), (8, .own K_Si 99), (26, .v K_SSi), (27, .v I), (28, .v I)])]
noncomputable def impl_net_copGame_l2_r (N : Nat) (back : impl_net_copGame_l2_H → Option impl_net_copGame_l2_O) (d : impl_net_copGame_l2_H) : Option impl_net_copGame_l2_O :=
 let s2 : List Int × Unit := d.1
 let s5 : (List Int × Unit) × List (List Int) × List (List Int) × List (List Int) × Unit := d.2.1
 let s8 : List Int := d.2.2.1
 let s26 : List (List Int) := d.2.2.2.1
 let s27 : Int := d.2.2.2.2.1
 let s28 : Int := d.2.2.2.2.2.1
 let s36 : List Int := d.2.2.2.2.2.2.1
 let s37 : Int := d.2.2.2.2.2.2.2.1
 let s38 : Int := d.2.2.2.2.2.2.2.2.1
 if (decide (s38 < s37)) = true then
  if (idxIn s38 (List.length s36)) = true then
  if (idxIn (at_ I s36 s38.toNat) (List.length s8)) = true then
  let x35 : List Int := List.set s8 (at_ I s36 s38.toNat).toNat (0 : Int)
  let x36 : Int := IntKind.wrap .i64 (s38 + (1 : Int))
  back ((s2, (s5, (x35, (s26, (s27, (s28, (s36, (s37, (x36, ()))))))))))
  else none
  else none
 else
  some (.inl ((s2, (s5, (s8, (s26, (s27, (s28, ()))))))))
noncomputable def impl_net_copGame_l2 (N : Nat) : Nat → impl_net_copGame_l2_H → Option impl_net_copGame_l2_O
 | 0, _ => none
 | k + 1, d => impl_net_copGame_l2_r N (impl_net_copGame_l2 N k) d
theorem impl_net_copGame_l2_ok (N : Nat) (back) (d) : roundR Γ_impl_net_copGame (assoc []) 2 impl_net_copGame_l2_h impl_net_copGame_l2_o (loopOf Tryz.f63 2) back d = impl_net_copGame_l2_r N back d := by kernel_rfl
abbrev impl_net_copGame_l0_H := (List Int × Unit) × ((List Int × Unit) × List (List Int) × List (List Int) × List (List Int) × Unit) × List (List Int) × Int × Int × Unit
abbrev impl_net_copGame_l0_O := (((List Int × Unit) × List (List Int) × List (List Int) × List (List Int) × Unit) × Unit) ⊕ Empty
def impl_net_copGame_l0_h : Form := [(2, .box K_PSiq 0), (5, .box K_PPZiqZSiSSiSSiq 99), (26, .v K_SSi), (27, .v I), (28, .v I)]
def impl_net_copGame_l0_o : Outs := [(.normal, [(5, .box K_PPZiqZSiSSiSSiq 99)])]
noncomputable def impl_net_copGame_l0_r (N : Nat) (back : impl_net_copGame_l0_H → Option impl_net_copGame_l0_O) (d : impl_net_copGame_l0_H) : Option impl_net_copGame_l0_O :=
 let s2 : List Int × Unit := d.1
 let s5 : (List Int × Unit) × List (List Int) × List (List Int) × List (List Int) × Unit := d.2.1
 let s26 : List (List Int) := d.2.2.1
 let s27 : Int := d.2.2.2.1
 let s28 : Int := d.2.2.2.2.1
 if (decide (s28 < s27)) = true then
  if (idxIn s28 (List.length s26)) = true then
  let r27 : Int × Unit := g_impl_net_size (s2, ())
  (G_repeat (([(-1 : Int)], (r27.1, ())))).bind fun r28 =>
  (impl_net_copGame_l2 N N ((s2, (s5, (r28.1, (s26, (s27, (s28, (at_ K_Si s26 s28.toNat, ((List.length (at_ K_Si s26 s28.toNat) : Int), ((0 : Int), ()))))))))))).bind fun o31 => match o31 with
  | .inl d32 =>
   if (decide (List.length d32.2.1.2.2.2.1 + List.length ([d32.2.2.1]) ≤ lim)) = true then
   let x33 : List (List Int) := d32.2.1.2.2.2.1 ++ ([d32.2.2.1])
   let x34 : Int := IntKind.wrap .i64 (d32.2.2.2.2.2.1 + (1 : Int))
   back ((d32.1, ((d32.2.1.1, (d32.2.1.2.1, (d32.2.1.2.2.1, (x33, d32.2.1.2.2.2.2)))), (d32.2.2.2.1, (d32.2.2.2.2.1, (x34, ()))))))
   else none
  else none
 else
  some (.inl (s5, ()))
noncomputable def impl_net_copGame_l0 (N : Nat) : Nat → impl_net_copGame_l0_H → Option impl_net_copGame_l0_O
 | 0, _ => none
 | k + 1, d => impl_net_copGame_l0_r N (impl_net_copGame_l0 N k) d
theorem impl_net_copGame_l0_ok (N : Nat) (back) (d) : roundR Γ_impl_net_copGame (assoc [(2, ⟨impl_net_copGame_l2_h, impl_net_copGame_l2_o, impl_net_copGame_l2 N N⟩)]) 0 impl_net_copGame_l0_h impl_net_copGame_l0_o (loopOf Tryz.f63 0) back d = impl_net_copGame_l0_r N back d := by kernel_rfl
abbrev impl_net_copGame_l8_H := ((List Int × Unit) × List (List Int) × List (List Int) × List (List Int) × Unit) × Int × Bool × (List (Int × Int × Unit)) × Int × Int × Int × Int × Int × Unit × Int × Unit
abbrev impl_net_copGame_l8_O := (((List Int × Unit) × List (List Int) × List (List Int) × List (List Int) × Unit) × Int × Bool × (List (Int × Int × Unit)) × Int × Int × Unit × Unit) ⊕ Empty
def impl_net_copGame_l8_h : Form := [(5, .box K_PPZiqZSiSSiSSiq 99), (11, .v I), (12, .v .bool), (13, .own K_SPiiq 99), (14, .v I), (64, .v I), (65, .v I), (71, .v I), (72, .v I), (63, .same 5 [.r, .r, .r, .l]), (70, .hole 5 [.r, .r, .r, .l] [])]
def impl_net_copGame_l8_o : Outs := [(.normal, [(5, .box K_PPZiqZSiSSiSSiq 99), (11, .v I), (12, .v .bool), (13, .own K_SPiiq 99), (64, .v I), (65, .v I), (63, .same 5 [.r, .r, .r, .l])])]
noncomputable def impl_net_copGame_l8_r (N : Nat) (back : impl_net_copGame_l8_H → Option impl_net_copGame_l8_O) (d : impl_net_copGame_l8_H) : Option impl_net_copGame_l8_O :=
 let s5 : (List Int × Unit) × List (List Int) × List (List Int) × List (List Int) × Unit := d.1
 let s11 : Int := d.2.1
 let s12 : Bool := d.2.2.1
 let s13 : List (Int × Int × Unit) := d.2.2.2.1
 let s14 : Int := d.2.2.2.2.1
 let s64 : Int := d.2.2.2.2.2.1
 let s65 : Int := d.2.2.2.2.2.2.1
 let s71 : Int := d.2.2.2.2.2.2.2.1
 let s72 : Int := d.2.2.2.2.2.2.2.2.1
 let s63 : Unit := d.2.2.2.2.2.2.2.2.2.1
 let s70 : Int := d.2.2.2.2.2.2.2.2.2.2.1
 if (decide (s72 < s71)) = true then
  if (idxIn s72 (List.length (at_ K_Si s5.2.2.2.1 (Int.toNat s70)))) = true then
  if (decide (at_ I (at_ K_Si s5.2.2.2.1 (Int.toNat s70)) s72.toNat < (0 : Int))) = true then
   ((F_impl_copGame_can 0) ((s5, (s14, (s72, ()))))).bind fun r57 =>
   if (r57.1) = true then
    if (decide (List.length s13 + List.length ([(s14, (s72, ()))]) ≤ lim)) = true then
    let x58 : Int := IntKind.wrap .i64 (s72 + (1 : Int))
    back ((s5, (s11, (s12, (s13 ++ ([(s14, (s72, ()))]), (s14, (s64, (s65, (s71, (x58, ((), ((((Int.toNat s70) : Nat) : Int), ()))))))))))))
    else none
   else
    let x59 : Int := IntKind.wrap .i64 (s72 + (1 : Int))
    back ((s5, (s11, (s12, (s13, (s14, (s64, (s65, (s71, (x59, ((), ((((Int.toNat s70) : Nat) : Int), ()))))))))))))
  else
   let x60 : Int := IntKind.wrap .i64 (s72 + (1 : Int))
   back ((s5, (s11, (s12, (s13, (s14, (s64, (s65, (s71, (x60, ((), ((((Int.toNat s70) : Nat) : Int), ()))))))))))))
  else none
 else
  some (.inl ((s5, (s11, (s12, (s13, (s64, (s65, ((), ())))))))))
noncomputable def impl_net_copGame_l8 (N : Nat) : Nat → impl_net_copGame_l8_H → Option impl_net_copGame_l8_O
 | 0, _ => none
 | k + 1, d => impl_net_copGame_l8_r N (impl_net_copGame_l8 N k) d
theorem impl_net_copGame_l8_ok (N : Nat) (back) (d) : roundR Γ_impl_net_copGame (assoc []) 8 impl_net_copGame_l8_h impl_net_copGame_l8_o (loopOf Tryz.f63 8) back d = impl_net_copGame_l8_r N back d := by kernel_rfl
abbrev impl_net_copGame_l6_H := ((List Int × Unit) × List (List Int) × List (List Int) × List (List Int) × Unit) × Int × Bool × (List (Int × Int × Unit)) × Int × Int × Unit × Unit
abbrev impl_net_copGame_l6_O := (((List Int × Unit) × List (List Int) × List (List Int) × List (List Int) × Unit) × Int × Bool × (List (Int × Int × Unit)) × Unit) ⊕ Empty
def impl_net_copGame_l6_h : Form := [(5, .box K_PPZiqZSiSSiSSiq 99), (11, .v I), (12, .v .bool), (13, .own K_SPiiq 99), (64, .v I), (65, .v I), (63, .same 5 [.r, .r, .r, .l])]
def impl_net_copGame_l6_o : Outs := [(.normal, [(5, .box K_PPZiqZSiSSiSSiq 99), (11, .v I), (12, .v .bool), (13, .own K_SPiiq 99)])]
noncomputable def impl_net_copGame_l6_r (N : Nat) (back : impl_net_copGame_l6_H → Option impl_net_copGame_l6_O) (d : impl_net_copGame_l6_H) : Option impl_net_copGame_l6_O :=
 let s5 : (List Int × Unit) × List (List Int) × List (List Int) × List (List Int) × Unit := d.1
 let s11 : Int := d.2.1
 let s12 : Bool := d.2.2.1
 let s13 : List (Int × Int × Unit) := d.2.2.2.1
 let s64 : Int := d.2.2.2.2.1
 let s65 : Int := d.2.2.2.2.2.1
 let s63 : Unit := d.2.2.2.2.2.2.1
 if (decide (s65 < s64)) = true then
  if (idxIn s65 (List.length s5.2.2.2.1)) = true then
  (impl_net_copGame_l8 N N ((s5, (s11, (s12, (s13, (s65, (s64, (s65, ((List.length (at_ K_Si s5.2.2.2.1 s65.toNat) : Int), ((0 : Int), ((), (((s65.toNat : Nat) : Int), ()))))))))))))).bind fun o54 => match o54 with
  | .inl d55 =>
   let x56 : Int := IntKind.wrap .i64 (d55.2.2.2.2.2.1 + (1 : Int))
   back ((d55.1, (d55.2.1, (d55.2.2.1, (d55.2.2.2.1, (d55.2.2.2.2.1, (x56, ((), ()))))))))
  else none
 else
  some (.inl ((s5, (s11, (s12, (s13, ()))))))
noncomputable def impl_net_copGame_l6 (N : Nat) : Nat → impl_net_copGame_l6_H → Option impl_net_copGame_l6_O
 | 0, _ => none
 | k + 1, d => impl_net_copGame_l6_r N (impl_net_copGame_l6 N k) d
theorem impl_net_copGame_l6_ok (N : Nat) (back) (d) : roundR Γ_impl_net_copGame (assoc [(8, ⟨impl_net_copGame_l8_h, impl_net_copGame_l8_o, impl_net_copGame_l8 N N⟩)]) 6 impl_net_copGame_l6_h impl_net_copGame_l6_o (loopOf Tryz.f63 6) back d = impl_net_copGame_l6_r N back d := by kernel_rfl
abbrev impl_net_copGame_l10_H := ((List Int × Unit) × List (List Int) × List (List Int) × List (List Int) × Unit) × Int × Bool × (List (Int × Int × Unit)) × Int × Int × Unit
abbrev impl_net_copGame_l10_O := (((List Int × Unit) × List (List Int) × List (List Int) × List (List Int) × Unit) × Int × Bool × Unit) ⊕ Empty
def impl_net_copGame_l10_h : Form := [(5, .box K_PPZiqZSiSSiSSiq 99), (11, .v I), (12, .v .bool), (93, .own K_SPiiq 99), (94, .v I), (95, .v I)]
def impl_net_copGame_l10_o : Outs := [(.normal, [(5, .box K_PPZiqZSiSSiSSiq 99), (11, .v I), (12, .v .bool)])]
noncomputable def impl_net_copGame_l10_r (N : Nat) (back : impl_net_copGame_l10_H → Option impl_net_copGame_l10_O) (d : impl_net_copGame_l10_H) : Option impl_net_copGame_l10_O :=
 let s5 : (List Int × Unit) × List (List Int) × List (List Int) × List (List Int) × Unit := d.1
 let s11 : Int := d.2.1
 let s12 : Bool := d.2.2.1
 let s93 : List (Int × Int × Unit) := d.2.2.2.1
 let s94 : Int := d.2.2.2.2.1
 let s95 : Int := d.2.2.2.2.2.1
 if (decide (s95 < s94)) = true then
  if (idxIn s95 (List.length s93)) = true then
  if (idxIn (at_ K_Piiq s93 s95.toNat).1 (List.length s5.2.2.2.1)) = true then
  if (idxIn (at_ K_Piiq s93 s95.toNat).2.1 (List.length (at_ K_Si s5.2.2.2.1 (at_ K_Piiq s93 s95.toNat).1.toNat))) = true then
  let x61 : Int := IntKind.wrap .i64 (s95 + (1 : Int))
  back (((s5.1, (s5.2.1, (s5.2.2.1, (List.set s5.2.2.2.1 (at_ K_Piiq s93 s95.toNat).1.toNat (List.set (at_ K_Si s5.2.2.2.1 (at_ K_Piiq s93 s95.toNat).1.toNat) (at_ K_Piiq s93 s95.toNat).2.1.toNat s11), s5.2.2.2.2)))), (s11, (true, (s93, (s94, (x61, ())))))))
  else none
  else none
  else none
 else
  some (.inl ((s5, (s11, (s12, ())))))
noncomputable def impl_net_copGame_l10 (N : Nat) : Nat → impl_net_copGame_l10_H → Option impl_net_copGame_l10_O
 | 0, _ => none
 | k + 1, d => impl_net_copGame_l10_r N (impl_net_copGame_l10 N k) d
theorem impl_net_copGame_l10_ok (N : Nat) (back) (d) : roundR Γ_impl_net_copGame (assoc []) 10 impl_net_copGame_l10_h impl_net_copGame_l10_o (loopOf Tryz.f63 10) back d = impl_net_copGame_l10_r N back d := by kernel_rfl
abbrev impl_net_copGame_l4_H := ((List Int × Unit) × List (List Int) × List (List Int) × List (List Int) × Unit) × Int × Bool × Unit
abbrev impl_net_copGame_l4_O := (((List Int × Unit) × List (List Int) × List (List Int) × List (List Int) × Unit) × Unit) ⊕ Empty
def impl_net_copGame_l4_h : Form := [(5, .box K_PPZiqZSiSSiSSiq 99), (11, .v I), (12, .v .bool)]
def impl_net_copGame_l4_o : Outs := [(.normal, [(5, .box K_PPZiqZSiSSiSSiq 99)])]
noncomputable def impl_net_copGame_l4_r (N : Nat) (back : impl_net_copGame_l4_H → Option impl_net_copGame_l4_O) (d : impl_net_copGame_l4_H) : Option impl_net_copGame_l4_O :=
 let s5 : (List Int × Unit) × List (List Int) × List (List Int) × List (List Int) × Unit := d.1
 let s11 : Int := d.2.1
 let s12 : Bool := d.2.2.1
 if (s12) = true then
  (impl_net_copGame_l6 N N ((s5, (s11, (false, (([] : List (Int × Int × Unit)), ((List.length s5.2.2.2.1 : Int), ((0 : Int), ((), ()))))))))).bind fun o44 => match o44 with
  | .inl d45 =>
   (impl_net_copGame_l10 N N ((d45.1, (d45.2.1, (d45.2.2.1, (d45.2.2.2.1, ((List.length d45.2.2.2.1 : Int), ((0 : Int), ())))))))).bind fun o47 => match o47 with
   | .inl d48 =>
    let x49 : Int := IntKind.wrap .i64 (d48.2.1 + (1 : Int))
    back ((d48.1, (x49, (d48.2.2.1, ()))))
 else
  some (.inl (s5, ()))
noncomputable def impl_net_copGame_l4 (N : Nat) : Nat → impl_net_copGame_l4_H → Option impl_net_copGame_l4_O
 | 0, _ => none
 | k + 1, d => impl_net_copGame_l4_r N (impl_net_copGame_l4 N k) d
theorem impl_net_copGame_l4_ok (N : Nat) (back) (d) : roundR Γ_impl_net_copGame (assoc [(6, ⟨impl_net_copGame_l6_h, impl_net_copGame_l6_o, impl_net_copGame_l6 N N⟩), (10, ⟨impl_net_copGame_l10_h, impl_net_copGame_l10_o, impl_net_copGame_l10 N N⟩)]) 4 impl_net_copGame_l4_h impl_net_copGame_l4_o (loopOf Tryz.f63 4) back d = impl_net_copGame_l4_r N back d := by kernel_rfl
noncomputable def F_impl_net_copGame (N : Nat) (d : (List Int × Unit) × Int × Unit) : Option (((List Int × Unit) × List (List Int) × List (List Int) × List (List Int) × Unit) × Unit) :=
 let a0 : List Int × Unit := d.1
 let a1 : Int := d.2.1
 (G_copBoard ((a0, (a1, ())))).bind fun r1 =>
 (impl_net_copGame_l0 N N ((a0, (r1.1, (r1.1.2.1, ((List.length r1.1.2.1 : Int), ((0 : Int), ()))))))).bind fun o10 => match o10 with
 | .inl d11 =>
  (impl_net_copGame_l4 N N ((d11.1, ((1 : Int), (true, ()))))).bind fun o25 => match o25 with
  | .inl d26 =>
   some (d26.1, ())
theorem F_impl_net_copGame_ok (N : Nat) (d) : fnR Γ_impl_net_copGame (assoc [(0, ⟨impl_net_copGame_l0_h, impl_net_copGame_l0_o, impl_net_copGame_l0 N N⟩), (4, ⟨impl_net_copGame_l4_h, impl_net_copGame_l4_o, impl_net_copGame_l4 N N⟩)]) true [(K_PSiq, false), (I, false)] [K_BPPZiqZSiSSiSSiq] Tryz.f63.results.toList (bodyOf Tryz.f63) d = F_impl_net_copGame N d := by kernel_rfl
noncomputable def S_impl_net_copGame : FSig := ⟨[(K_PSiq, false), (I, false)], [K_BPPZiqZSiSSiSSiq], true, (G_copGame)⟩
noncomputable def Γ_slices_Max_Sint_int : Ctx := { tk := assoc tks, ar := assoc ars, fs := assoc [] }
abbrev slices_Max_Sint_int_l0_H := List Int × Int × Int × Unit
abbrev slices_Max_Sint_int_l0_O := (Int × Unit) ⊕ Empty
def slices_Max_Sint_int_l0_h : Form := [(0, .v K_Si), (3, .v I), (4, .v I)]
def slices_Max_Sint_int_l0_o : Outs := [(.normal, [(3, .v I)])]
noncomputable def slices_Max_Sint_int_l0_r (N : Nat) (back : slices_Max_Sint_int_l0_H → Option slices_Max_Sint_int_l0_O) (d : slices_Max_Sint_int_l0_H) : Option slices_Max_Sint_int_l0_O :=
 let s0 : List Int := d.1
 let s3 : Int := d.2.1
 let s4 : Int := d.2.2.1
 if (decide (s4 < (List.length s0 : Int))) = true then
  if (idxIn s4 (List.length s0)) = true then
  let x5 : Int := if s3 < at_ I s0 s4.toNat then at_ I s0 s4.toNat else s3
  let x6 : Int := IntKind.wrap .i64 (s4 + (1 : Int))
  back ((s0, (x5, (x6, ()))))
  else none
 else
  some (.inl (s3, ()))
noncomputable def slices_Max_Sint_int_l0 (N : Nat) : Nat → slices_Max_Sint_int_l0_H → Option slices_Max_Sint_int_l0_O
 | 0, _ => none
 | k + 1, d => slices_Max_Sint_int_l0_r N (slices_Max_Sint_int_l0 N k) d
theorem slices_Max_Sint_int_l0_ok (N : Nat) (back) (d) : roundR Γ_slices_Max_Sint_int (assoc []) 0 slices_Max_Sint_int_l0_h slices_Max_Sint_int_l0_o (loopOf Tryz.f115 0) back d = slices_Max_Sint_int_l0_r N back d := by kernel_rfl
noncomputable def F_slices_Max_Sint_int (N : Nat) (d : List Int × Unit) : Option (Int × Unit) :=
 let a0 : List Int := d.1
 if (decide ((List.length a0 : Int) < (1 : Int))) = true then
  none
 else
  if (idxIn (0 : Int) (List.length a0)) = true then
  (slices_Max_Sint_int_l0 N N ((a0, (at_ I a0 (0 : Int).toNat, ((1 : Int), ()))))).bind fun o3 => match o3 with
  | .inl d4 =>
   some (d4.1, ())
  else none
theorem F_slices_Max_Sint_int_ok (N : Nat) (d) : fnR Γ_slices_Max_Sint_int (assoc [(0, ⟨slices_Max_Sint_int_l0_h, slices_Max_Sint_int_l0_o, slices_Max_Sint_int_l0 N N⟩)]) true [(K_Si, false)] [I] Tryz.f115.results.toList (bodyOf Tryz.f115) d = F_slices_Max_Sint_int N d := by kernel_rfl
noncomputable def S_slices_Max_Sint_int : FSig := ⟨[(K_Si, false)], [I], true, (G_max)⟩
noncomputable def Γ_impl_copGame_best : Ctx := { tk := assoc tks, ar := assoc ars, fs := assoc [(69, S_slices_Contains_Sint_int), (80, S_slices_Clone_Sint_int), (115, S_slices_Max_Sint_int)] }
abbrev impl_copGame_best_l0_H := ((List Int × Unit) × List (List Int) × List (List Int) × List (List Int) × Unit) × Int × Int × List (List Int) × Int × Int × Unit
abbrev impl_copGame_best_l0_O := (((List Int × Unit) × List (List Int) × List (List Int) × List (List Int) × Unit) × Int × Int × Unit) ⊕ Empty
def impl_copGame_best_l0_h : Form := [(0, .v K_BPPZiqZSiSSiSSiq), (5, .v I), (6, .v I), (13, .v K_SSi), (14, .v I), (15, .v I)]
def impl_copGame_best_l0_o : Outs := [(.normal, [(0, .v K_BPPZiqZSiSSiSSiq), (5, .v I), (6, .v I)])]
noncomputable def impl_copGame_best_l0_r (N : Nat) (back : impl_copGame_best_l0_H → Option impl_copGame_best_l0_O) (d : impl_copGame_best_l0_H) : Option impl_copGame_best_l0_O :=
 let s0 : (List Int × Unit) × List (List Int) × List (List Int) × List (List Int) × Unit := d.1
 let s5 : Int := d.2.1
 let s6 : Int := d.2.2.1
 let s13 : List (List Int) := d.2.2.2.1
 let s14 : Int := d.2.2.2.2.1
 let s15 : Int := d.2.2.2.2.2.1
 if (decide (s15 < s14)) = true then
  if (idxIn s15 (List.length s13)) = true then
  ((F_slices_Contains_Sint_int 0) ((at_ K_Si s13 s15.toNat, ((-1 : Int), ())))).bind fun r10 =>
  if (r10.1) = true then
   let x11 : Int := IntKind.wrap .i64 (s15 + (1 : Int))
   back ((s0, (s5, (s6, (s13, (s14, (x11, ())))))))
  else
   (G_max (at_ K_Si s13 s15.toNat, ())).bind fun r12 =>
   if (decide (s5 < (0 : Int))) = true then
    let x13 : Int := IntKind.wrap .i64 (s15 + (1 : Int))
    back ((s0, (s15, (r12.1, (s13, (s14, (x13, ())))))))
   else
    if (decide (r12.1 < s6)) = true then
     let x14 : Int := IntKind.wrap .i64 (s15 + (1 : Int))
     back ((s0, (s15, (r12.1, (s13, (s14, (x14, ())))))))
    else
     let x15 : Int := IntKind.wrap .i64 (s15 + (1 : Int))
     back ((s0, (s5, (s6, (s13, (s14, (x15, ())))))))
  else none
 else
  some (.inl ((s0, (s5, (s6, ())))))
noncomputable def impl_copGame_best_l0 (N : Nat) : Nat → impl_copGame_best_l0_H → Option impl_copGame_best_l0_O
 | 0, _ => none
 | k + 1, d => impl_copGame_best_l0_r N (impl_copGame_best_l0 N k) d
theorem impl_copGame_best_l0_ok (N : Nat) (back) (d) : roundR Γ_impl_copGame_best (assoc []) 0 impl_copGame_best_l0_h impl_copGame_best_l0_o (loopOf Tryz.f74 0) back d = impl_copGame_best_l0_r N back d := by kernel_rfl
noncomputable def F_impl_copGame_best (N : Nat) (d : ((List Int × Unit) × List (List Int) × List (List Int) × List (List Int) × Unit) × Unit) : Option (List Int × Int × Bool × Unit) :=
 let a0 : (List Int × Unit) × List (List Int) × List (List Int) × List (List Int) × Unit := d.1
 (impl_copGame_best_l0 N N ((a0, ((-1 : Int), ((0 : Int), (a0.2.2.2.1, ((List.length a0.2.2.2.1 : Int), ((0 : Int), ())))))))).bind fun o7 => match o7 with
 | .inl d8 =>
  if (decide (d8.2.1 < (0 : Int))) = true then
   some ((([] : List Int), ((0 : Int), (false, ()))))
  else
   if (idxIn d8.2.1 (List.length d8.1.2.1)) = true then
   (G_toIntS (at_ K_Si d8.1.2.1 d8.2.1.toNat, ())).bind fun r9 =>
   some ((r9.1, (d8.2.2.1, (true, ()))))
   else none
theorem F_impl_copGame_best_ok (N : Nat) (d) : fnR Γ_impl_copGame_best (assoc [(0, ⟨impl_copGame_best_l0_h, impl_copGame_best_l0_o, impl_copGame_best_l0 N N⟩)]) true [(K_BPPZiqZSiSSiSSiq, false)] [K_Si, I, .bool] Tryz.f74.results.toList (bodyOf Tryz.f74) d = F_impl_copGame_best N d := by kernel_rfl
noncomputable def S_impl_copGame_best : FSig := ⟨[(K_BPPZiqZSiSSiSSiq, false)], [K_Si, I, .bool], true, (G_copBest)⟩
noncomputable def Γ_impl_BestCops : Ctx := { tk := assoc tks, ar := assoc ars, fs := assoc [(50, S_impl_netOf), (62, S_impl_isCopGame), (74, S_impl_copGame_best)], cs := assoc [], gs := assoc [(63, (S_impl_net_copGame, md0))], eqt := inL [], md := md0 }
noncomputable def F_impl_BestCops (N : Nat) (d : (Int × (List (Int × Int × Unit)) × Unit) × Int × Unit) : Option (List Int × Int × Bool × Unit) :=
 let a0 : Int × (List (Int × Int × Unit)) × Unit := d.1
 let a1 : Int := d.2.1
 ((F_impl_isCopGame 0) ((a0, (a1, ())))).bind fun r1 =>
 if (!r1.1) = true then
  some ((([] : List Int), ((0 : Int), (false, ()))))
 else
  (G_netOf (a0, ())).bind fun r2 =>
  (G_copGame ((r2.1, (a1, ())))).bind fun r3 =>
  (G_copBest (r3.1, ())).bind fun r4 =>
  some ((r4.1, (r4.2.1, (r4.2.2.1, ()))))
theorem F_impl_BestCops_ok (N : Nat) (d) : fnR Γ_impl_BestCops (assoc []) true [(K_PiSPiiqq, false), (I, false)] [K_Si, I, .bool] Tryz.f34.results.toList (bodyOf Tryz.f34) d = F_impl_BestCops N d := by kernel_rfl
noncomputable def S_impl_BestCops : FSig := ⟨[(K_PiSPiiqq, false), (I, false)], [K_Si, I, .bool], true, (F_impl_BestCops 0)⟩
noncomputable def Γ_laws_eqIntS : Ctx := { tk := assoc tks, ar := assoc ars, fs := assoc [] }
abbrev laws_eqIntS_l0_H := List Int × List Int × Int × Unit
abbrev laws_eqIntS_l0_O := (Bool × Unit) ⊕ Unit ⊕ Empty
def laws_eqIntS_l0_h : Form := [(0, .v K_Si), (1, .v K_Si), (5, .v I)]
def laws_eqIntS_l0_o : Outs := [(.ret, [(4, .v .bool)]), (.normal, [])]
noncomputable def laws_eqIntS_l0_r (N : Nat) (back : laws_eqIntS_l0_H → Option laws_eqIntS_l0_O) (d : laws_eqIntS_l0_H) : Option laws_eqIntS_l0_O :=
 let s0 : List Int := d.1
 let s1 : List Int := d.2.1
 let s5 : Int := d.2.2.1
 if (decide (s5 < (List.length s0 : Int))) = true then
  if (idxIn s5 (List.length s0)) = true then
  if (idxIn s5 (List.length s1)) = true then
  if (at_ I s0 s5.toNat != at_ I s1 s5.toNat) = true then
   some (.inl (false, ()))
  else
   let x5 : Int := IntKind.wrap .i64 (s5 + (1 : Int))
   back ((s0, (s1, (x5, ()))))
  else none
  else none
 else
  some (.inr (.inl ()))
noncomputable def laws_eqIntS_l0 (N : Nat) : Nat → laws_eqIntS_l0_H → Option laws_eqIntS_l0_O
 | 0, _ => none
 | k + 1, d => laws_eqIntS_l0_r N (laws_eqIntS_l0 N k) d
theorem laws_eqIntS_l0_ok (N : Nat) (back) (d) : roundR Γ_laws_eqIntS (assoc []) 0 laws_eqIntS_l0_h laws_eqIntS_l0_o (loopOf Tryz.f25 0) back d = laws_eqIntS_l0_r N back d := by kernel_rfl
noncomputable def F_laws_eqIntS (N : Nat) (d : List Int × List Int × Unit) : Option (Bool × Unit) :=
 let a0 : List Int := d.1
 let a1 : List Int := d.2.1
 if ((List.length a0 : Int) != (List.length a1 : Int)) = true then
  some (false, ())
 else
  (laws_eqIntS_l0 N N ((a0, (a1, ((0 : Int), ()))))).bind fun o2 => match o2 with
  | .inl d3 =>
   some (d3.1, ())
  | .inr (.inl d4) =>
   some (true, ())
theorem F_laws_eqIntS_ok (N : Nat) (d) : fnR Γ_laws_eqIntS (assoc [(0, ⟨laws_eqIntS_l0_h, laws_eqIntS_l0_o, laws_eqIntS_l0 N N⟩)]) true [(K_Si, false), (K_Si, false)] [.bool] Tryz.f25.results.toList (bodyOf Tryz.f25) d = F_laws_eqIntS N d := by kernel_rfl
noncomputable def S_laws_eqIntS : FSig := ⟨[(K_Si, false), (K_Si, false)], [.bool], true, (G_eqIntS)⟩
noncomputable def Γ_laws_eqIntA2 : Ctx := { tk := assoc tks, ar := assoc ars, fs := assoc [] }
abbrev laws_eqIntA2_l0_H := (Int × Int × Unit) × (Int × Int × Unit) × Int × Unit
abbrev laws_eqIntA2_l0_O := (Bool × Unit) ⊕ Unit ⊕ Empty
def laws_eqIntA2_l0_h : Form := [(2, .box K_Piiq 99), (3, .box K_Piiq 99), (5, .v I)]
def laws_eqIntA2_l0_o : Outs := [(.ret, [(4, .v .bool)]), (.normal, [])]
noncomputable def laws_eqIntA2_l0_r (N : Nat) (back : laws_eqIntA2_l0_H → Option laws_eqIntA2_l0_O) (d : laws_eqIntA2_l0_H) : Option laws_eqIntA2_l0_O :=
 let s2 : Int × Int × Unit := d.1
 let s3 : Int × Int × Unit := d.2.1
 let s5 : Int := d.2.2.1
 if (decide (s5 < (2 : Int))) = true then
  if (s5 == (0 : Int)) = true then
   if (s5 == (0 : Int)) = true then
    if (s2.1 != s3.1) = true then
     some (.inl (false, ()))
    else
     let x11 : Int := IntKind.wrap .i64 (s5 + (1 : Int))
     back ((s2, (s3, (x11, ()))))
   else
    if (s5 == (1 : Int)) = true then
    if (s2.1 != s3.2.1) = true then
     some (.inl (false, ()))
    else
     let x10 : Int := IntKind.wrap .i64 (s5 + (1 : Int))
     back ((s2, (s3, (x10, ()))))
    else none
  else
   if (s5 == (1 : Int)) = true then
   if (s5 == (0 : Int)) = true then
    if (s2.2.1 != s3.1) = true then
     some (.inl (false, ()))
    else
     let x9 : Int := IntKind.wrap .i64 (s5 + (1 : Int))
     back ((s2, (s3, (x9, ()))))
   else
    if (s5 == (1 : Int)) = true then
    if (s2.2.1 != s3.2.1) = true then
     some (.inl (false, ()))
    else
     let x8 : Int := IntKind.wrap .i64 (s5 + (1 : Int))
     back ((s2, (s3, (x8, ()))))
    else none
   else none
 else
  some (.inr (.inl ()))
noncomputable def laws_eqIntA2_l0 (N : Nat) : Nat → laws_eqIntA2_l0_H → Option laws_eqIntA2_l0_O
 | 0, _ => none
 | k + 1, d => laws_eqIntA2_l0_r N (laws_eqIntA2_l0 N k) d
theorem laws_eqIntA2_l0_ok (N : Nat) (back) (d) : roundR Γ_laws_eqIntA2 (assoc []) 0 laws_eqIntA2_l0_h laws_eqIntA2_l0_o (loopOf Tryz.f96 0) back d = laws_eqIntA2_l0_r N back d := by kernel_rfl
noncomputable def F_laws_eqIntA2 (N : Nat) (d : (Int × Int × Unit) × (Int × Int × Unit) × Unit) : Option (Bool × Unit) :=
 let a0 : Int × Int × Unit := d.1
 let a1 : Int × Int × Unit := d.2.1
 (laws_eqIntA2_l0 N N ((a0, (a1, ((0 : Int), ()))))).bind fun o5 => match o5 with
 | .inl d6 =>
  some (d6.1, ())
 | .inr (.inl d7) =>
  some (true, ())
theorem F_laws_eqIntA2_ok (N : Nat) (d) : fnR Γ_laws_eqIntA2 (assoc [(0, ⟨laws_eqIntA2_l0_h, laws_eqIntA2_l0_o, laws_eqIntA2_l0 N N⟩)]) true [(K_Piiq, false), (K_Piiq, false)] [.bool] Tryz.f96.results.toList (bodyOf Tryz.f96) d = F_laws_eqIntA2 N d := by kernel_rfl
noncomputable def S_laws_eqIntA2 : FSig := ⟨[(K_Piiq, false), (K_Piiq, false)], [.bool], true, (G_eqIntA2)⟩
noncomputable def Γ_laws_eqIntA2S : Ctx := { tk := assoc tks, ar := assoc ars, fs := assoc [(96, S_laws_eqIntA2)] }
abbrev laws_eqIntA2S_l0_H := (List (Int × Int × Unit)) × (List (Int × Int × Unit)) × Int × Unit
abbrev laws_eqIntA2S_l0_O := (Bool × Unit) ⊕ Unit ⊕ Empty
def laws_eqIntA2S_l0_h : Form := [(0, .v K_SPiiq), (1, .v K_SPiiq), (5, .v I)]
def laws_eqIntA2S_l0_o : Outs := [(.ret, [(4, .v .bool)]), (.normal, [])]
noncomputable def laws_eqIntA2S_l0_r (N : Nat) (back : laws_eqIntA2S_l0_H → Option laws_eqIntA2S_l0_O) (d : laws_eqIntA2S_l0_H) : Option laws_eqIntA2S_l0_O :=
 let s0 : List (Int × Int × Unit) := d.1
 let s1 : List (Int × Int × Unit) := d.2.1
 let s5 : Int := d.2.2.1
 if (decide (s5 < (List.length s0 : Int))) = true then
  if (idxIn s5 (List.length s0)) = true then
  if (idxIn s5 (List.length s1)) = true then
  (G_eqIntA2 ((at_ K_Piiq s0 s5.toNat, (at_ K_Piiq s1 s5.toNat, ())))).bind fun r6 =>
  if (!r6.1) = true then
   some (.inl (false, ()))
  else
   let x7 : Int := IntKind.wrap .i64 (s5 + (1 : Int))
   back ((s0, (s1, (x7, ()))))
  else none
  else none
 else
  some (.inr (.inl ()))
noncomputable def laws_eqIntA2S_l0 (N : Nat) : Nat → laws_eqIntA2S_l0_H → Option laws_eqIntA2S_l0_O
 | 0, _ => none
 | k + 1, d => laws_eqIntA2S_l0_r N (laws_eqIntA2S_l0 N k) d
theorem laws_eqIntA2S_l0_ok (N : Nat) (back) (d) : roundR Γ_laws_eqIntA2S (assoc []) 0 laws_eqIntA2S_l0_h laws_eqIntA2S_l0_o (loopOf Tryz.f53 0) back d = laws_eqIntA2S_l0_r N back d := by kernel_rfl
noncomputable def F_laws_eqIntA2S (N : Nat) (d : (List (Int × Int × Unit)) × (List (Int × Int × Unit)) × Unit) : Option (Bool × Unit) :=
 let a0 : List (Int × Int × Unit) := d.1
 let a1 : List (Int × Int × Unit) := d.2.1
 if ((List.length a0 : Int) != (List.length a1 : Int)) = true then
  some (false, ())
 else
  (laws_eqIntA2S_l0 N N ((a0, (a1, ((0 : Int), ()))))).bind fun o3 => match o3 with
  | .inl d4 =>
   some (d4.1, ())
  | .inr (.inl d5) =>
   some (true, ())
theorem F_laws_eqIntA2S_ok (N : Nat) (d) : fnR Γ_laws_eqIntA2S (assoc [(0, ⟨laws_eqIntA2S_l0_h, laws_eqIntA2S_l0_o, laws_eqIntA2S_l0 N N⟩)]) true [(K_SPiiq, false), (K_SPiiq, false)] [.bool] Tryz.f53.results.toList (bodyOf Tryz.f53) d = F_laws_eqIntA2S N d := by kernel_rfl
noncomputable def S_laws_eqIntA2S : FSig := ⟨[(K_SPiiq, false), (K_SPiiq, false)], [.bool], true, (G_eqIntA2S)⟩
noncomputable def Γ_laws_eqGraph : Ctx := { tk := assoc tks, ar := assoc ars, fs := assoc [(53, S_laws_eqIntA2S)] }
noncomputable def F_laws_eqGraph (N : Nat) (d : (Int × (List (Int × Int × Unit)) × Unit) × (Int × (List (Int × Int × Unit)) × Unit) × Unit) : Option (Bool × Unit) :=
 let a0 : Int × (List (Int × Int × Unit)) × Unit := d.1
 let a1 : Int × (List (Int × Int × Unit)) × Unit := d.2.1
 if (a0.1 != a1.1) = true then
  some (false, ())
 else
  (G_eqIntA2S ((a0.2.1, (a1.2.1, ())))).bind fun r1 =>
  if (!r1.1) = true then
   some (false, ())
  else
   some (true, ())
theorem F_laws_eqGraph_ok (N : Nat) (d) : fnR Γ_laws_eqGraph (assoc []) true [(K_PiSPiiqq, false), (K_PiSPiiqq, false)] [.bool] Tryz.f19.results.toList (bodyOf Tryz.f19) d = F_laws_eqGraph N d := by kernel_rfl
noncomputable def S_laws_eqGraph : FSig := ⟨[(K_PiSPiiqq, false), (K_PiSPiiqq, false)], [.bool], true, (F_laws_eqGraph 0)⟩
noncomputable def Γ_laws_markIntA2S : Ctx := { tk := assoc tks, ar := assoc ars, fs := assoc [], lent := fun t => Nat.beq t 0 }
abbrev laws_markIntA2S_l2_H := (List (Int × Int × Unit)) × Int × Int × Int × Unit
abbrev laws_markIntA2S_l2_O := ((List (Int × Int × Unit)) × Int × Int × Unit) ⊕ Empty
def laws_markIntA2S_l2_h : Form := [(0, .own K_SPiiq 1), (1, .v I), (5, .v I), (6, .v I)]
def laws_markIntA2S_l2_o : Outs := [(.normal, [(0, .own K_SPiiq 1), (1, .v I), (5, .v I)])]
noncomputable def laws_markIntA2S_l2_r (N : Nat) (back : laws_markIntA2S_l2_H → Option laws_markIntA2S_l2_O) (d : laws_markIntA2S_l2_H) : Option laws_markIntA2S_l2_O :=
 let s0 : List (Int × Int × Unit) := d.1
 let s1 : Int := d.2.1
 let s5 : Int := d.2.2.1
 let s6 : Int := d.2.2.2.1
 if (decide (s6 < (2 : Int))) = true then
  if (idxIn s5 (List.length s0)) = true then
  if (s6 == (0 : Int)) = true then
   let x24 : List (Int × Int × Unit) := List.set s0 s5.toNat (s1, (at_ K_Piiq s0 s5.toNat).2)
   let x25 : Int := IntKind.wrap .i64 (s1 + (1 : Int))
   let x26 : Int := IntKind.wrap .i64 (s6 + (1 : Int))
   back ((x24, (x25, (s5, (x26, ())))))
  else
   if (s6 == (1 : Int)) = true then
   let x21 : List (Int × Int × Unit) := List.set s0 s5.toNat (((at_ K_Piiq s0 s5.toNat).1, (s1, (at_ K_Piiq s0 s5.toNat).2.2)))
   let x22 : Int := IntKind.wrap .i64 (s1 + (1 : Int))
   let x23 : Int := IntKind.wrap .i64 (s6 + (1 : Int))
   back ((x21, (x22, (s5, (x23, ())))))
   else none
  else none
 else
  some (.inl ((s0, (s1, (s5, ())))))
noncomputable def laws_markIntA2S_l2 (N : Nat) : Nat → laws_markIntA2S_l2_H → Option laws_markIntA2S_l2_O
 | 0, _ => none
 | k + 1, d => laws_markIntA2S_l2_r N (laws_markIntA2S_l2 N k) d
theorem laws_markIntA2S_l2_ok (N : Nat) (back) (d) : roundR Γ_laws_markIntA2S (assoc []) 2 laws_markIntA2S_l2_h laws_markIntA2S_l2_o (loopOf Tryz.f54 2) back d = laws_markIntA2S_l2_r N back d := by kernel_rfl
abbrev laws_markIntA2S_l0_H := (List (Int × Int × Unit)) × Int × Int × Unit
abbrev laws_markIntA2S_l0_O := ((List (Int × Int × Unit)) × Int × Unit) ⊕ Empty
def laws_markIntA2S_l0_h : Form := [(0, .own K_SPiiq 1), (1, .v I), (5, .v I)]
def laws_markIntA2S_l0_o : Outs := [(.normal, [(0, .own K_SPiiq 1), (1, .v I)])]
noncomputable def laws_markIntA2S_l0_r (N : Nat) (back : laws_markIntA2S_l0_H → Option laws_markIntA2S_l0_O) (d : laws_markIntA2S_l0_H) : Option laws_markIntA2S_l0_O :=
 let s0 : List (Int × Int × Unit) := d.1
 let s1 : Int := d.2.1
 let s5 : Int := d.2.2.1
 if (decide (s5 < (List.length s0 : Int))) = true then
  (laws_markIntA2S_l2 N N ((s0, (s1, (s5, ((0 : Int), ())))))).bind fun o18 => match o18 with
  | .inl d19 =>
   let x20 : Int := IntKind.wrap .i64 (d19.2.2.1 + (1 : Int))
   back ((d19.1, (d19.2.1, (x20, ()))))
 else
  some (.inl ((s0, (s1, ()))))
noncomputable def laws_markIntA2S_l0 (N : Nat) : Nat → laws_markIntA2S_l0_H → Option laws_markIntA2S_l0_O
 | 0, _ => none
 | k + 1, d => laws_markIntA2S_l0_r N (laws_markIntA2S_l0 N k) d
theorem laws_markIntA2S_l0_ok (N : Nat) (back) (d) : roundR Γ_laws_markIntA2S (assoc [(2, ⟨laws_markIntA2S_l2_h, laws_markIntA2S_l2_o, laws_markIntA2S_l2 N N⟩)]) 0 laws_markIntA2S_l0_h laws_markIntA2S_l0_o (loopOf Tryz.f54 0) back d = laws_markIntA2S_l0_r N back d := by kernel_rfl
noncomputable def F_laws_markIntA2S (N : Nat) (d : (List (Int × Int × Unit)) × Int × Unit) : Option (Int × (List (Int × Int × Unit)) × Unit) :=
 let a0 : List (Int × Int × Unit) := d.1
 let a1 : Int := d.2.1
 (laws_markIntA2S_l0 N N ((a0, (a1, ((0 : Int), ()))))).bind fun o10 => match o10 with
 | .inl d11 =>
  some ((d11.2.1, (d11.1, ())))
theorem F_laws_markIntA2S_ok (N : Nat) (d) : fnR Γ_laws_markIntA2S (assoc [(0, ⟨laws_markIntA2S_l0_h, laws_markIntA2S_l0_o, laws_markIntA2S_l0 N N⟩)]) true [(K_SPiiq, true), (I, false)] [I] Tryz.f54.results.toList (bodyOf Tryz.f54) d = F_laws_markIntA2S N d := by kernel_rfl
noncomputable def S_laws_markIntA2S : FSig := ⟨[(K_SPiiq, true), (I, false)], [I], true, (G_markIntA2S)⟩
noncomputable def Γ_laws_markGraph : Ctx := { tk := assoc tks, ar := assoc ars, fs := assoc [(54, S_laws_markIntA2S)], lent := fun t => Nat.beq t 0 }
noncomputable def F_laws_markGraph (N : Nat) (d : (Int × (List (Int × Int × Unit)) × Unit) × Int × Unit) : Option (Int × (Int × (List (Int × Int × Unit)) × Unit) × Unit) :=
 let a0 : Int × (List (Int × Int × Unit)) × Unit := d.1
 let a1 : Int := d.2.1
 (G_markIntA2S ((a0.2.1, (a1, ())))).bind fun r1 =>
 some ((r1.1, ((a0.1, (r1.2.1, a0.2.2)), ())))
theorem F_laws_markGraph_ok (N : Nat) (d) : fnR Γ_laws_markGraph (assoc []) true [(K_PiSPiiqq, true), (I, false)] [I] Tryz.f20.results.toList (bodyOf Tryz.f20) d = F_laws_markGraph N d := by kernel_rfl
noncomputable def S_laws_markGraph : FSig := ⟨[(K_PiSPiiqq, true), (I, false)], [I], true, (F_laws_markGraph 0)⟩
noncomputable def Γ_laws_markIntS : Ctx := { tk := assoc tks, ar := assoc ars, fs := assoc [], lent := fun t => Nat.beq t 0 }
abbrev laws_markIntS_l0_H := List Int × Int × Int × Unit
abbrev laws_markIntS_l0_O := (List Int × Int × Unit) ⊕ Empty
def laws_markIntS_l0_h : Form := [(0, .own K_Si 1), (1, .v I), (5, .v I)]
def laws_markIntS_l0_o : Outs := [(.normal, [(0, .own K_Si 1), (1, .v I)])]
noncomputable def laws_markIntS_l0_r (N : Nat) (back : laws_markIntS_l0_H → Option laws_markIntS_l0_O) (d : laws_markIntS_l0_H) : Option laws_markIntS_l0_O :=
 let s0 : List Int := d.1
 let s1 : Int := d.2.1
 let s5 : Int := d.2.2.1
 if (decide (s5 < (List.length s0 : Int))) = true then
  if (idxIn s5 (List.length s0)) = true then
  let x5 : Int := IntKind.wrap .i64 (s1 + (1 : Int))
  let x6 : Int := IntKind.wrap .i64 (s5 + (1 : Int))
  back ((List.set s0 s5.toNat s1, (x5, (x6, ()))))
  else none
 else
  some (.inl ((s0, (s1, ()))))
noncomputable def laws_markIntS_l0 (N : Nat) : Nat → laws_markIntS_l0_H → Option laws_markIntS_l0_O
 | 0, _ => none
 | k + 1, d => laws_markIntS_l0_r N (laws_markIntS_l0 N k) d
theorem laws_markIntS_l0_ok (N : Nat) (back) (d) : roundR Γ_laws_markIntS (assoc []) 0 laws_markIntS_l0_h laws_markIntS_l0_o (loopOf Tryz.f26 0) back d = laws_markIntS_l0_r N back d := by kernel_rfl
noncomputable def F_laws_markIntS (N : Nat) (d : List Int × Int × Unit) : Option (Int × List Int × Unit) :=
 let a0 : List Int := d.1
 let a1 : Int := d.2.1
 (laws_markIntS_l0 N N ((a0, (a1, ((0 : Int), ()))))).bind fun o3 => match o3 with
 | .inl d4 =>
  some ((d4.2.1, (d4.1, ())))
theorem F_laws_markIntS_ok (N : Nat) (d) : fnR Γ_laws_markIntS (assoc [(0, ⟨laws_markIntS_l0_h, laws_markIntS_l0_o, laws_markIntS_l0 N N⟩)]) true [(K_Si, true), (I, false)] [I] Tryz.f26.results.toList (bodyOf Tryz.f26) d = F_laws_markIntS N d := by kernel_rfl
noncomputable def S_laws_markIntS : FSig := ⟨[(K_Si, true), (I, false)], [I], true, (G_markIntS)⟩
noncomputable def Γ_laws_heldIntS : Ctx := { tk := assoc tks, ar := assoc ars, fs := assoc [] }
abbrev laws_heldIntS_l0_H := List Int × Int × Int × Unit
abbrev laws_heldIntS_l0_O := (Int × Unit) ⊕ (Int × Unit) ⊕ Empty
def laws_heldIntS_l0_h : Form := [(0, .v K_Si), (1, .v I), (5, .v I)]
def laws_heldIntS_l0_o : Outs := [(.ret, [(4, .v I)]), (.normal, [(1, .v I)])]
noncomputable def laws_heldIntS_l0_r (N : Nat) (back : laws_heldIntS_l0_H → Option laws_heldIntS_l0_O) (d : laws_heldIntS_l0_H) : Option laws_heldIntS_l0_O :=
 let s0 : List Int := d.1
 let s1 : Int := d.2.1
 let s5 : Int := d.2.2.1
 if (decide (s5 < (List.length s0 : Int))) = true then
  if (idxIn s5 (List.length s0)) = true then
  if (at_ I s0 s5.toNat != s1) = true then
   some (.inl ((-1 : Int), ()))
  else
   let x6 : Int := IntKind.wrap .i64 (s1 + (1 : Int))
   let x7 : Int := IntKind.wrap .i64 (s5 + (1 : Int))
   back ((s0, (x6, (x7, ()))))
  else none
 else
  some (.inr (.inl (s1, ())))
noncomputable def laws_heldIntS_l0 (N : Nat) : Nat → laws_heldIntS_l0_H → Option laws_heldIntS_l0_O
 | 0, _ => none
 | k + 1, d => laws_heldIntS_l0_r N (laws_heldIntS_l0 N k) d
theorem laws_heldIntS_l0_ok (N : Nat) (back) (d) : roundR Γ_laws_heldIntS (assoc []) 0 laws_heldIntS_l0_h laws_heldIntS_l0_o (loopOf Tryz.f27 0) back d = laws_heldIntS_l0_r N back d := by kernel_rfl
noncomputable def F_laws_heldIntS (N : Nat) (d : List Int × Int × Unit) : Option (Int × Unit) :=
 let a0 : List Int := d.1
 let a1 : Int := d.2.1
 (laws_heldIntS_l0 N N ((a0, (a1, ((0 : Int), ()))))).bind fun o3 => match o3 with
 | .inl d4 =>
  some (d4.1, ())
 | .inr (.inl d5) =>
  some (d5.1, ())
theorem F_laws_heldIntS_ok (N : Nat) (d) : fnR Γ_laws_heldIntS (assoc [(0, ⟨laws_heldIntS_l0_h, laws_heldIntS_l0_o, laws_heldIntS_l0 N N⟩)]) true [(K_Si, false), (I, false)] [I] Tryz.f27.results.toList (bodyOf Tryz.f27) d = F_laws_heldIntS N d := by kernel_rfl
noncomputable def S_laws_heldIntS : FSig := ⟨[(K_Si, false), (I, false)], [I], true, (G_heldIntS)⟩
noncomputable def Γ_laws_FnExactBestCops : Ctx := { tk := assoc tks, ar := assoc ars, fs := assoc [(12, S_laws_szGraph), (15, S_laws_toGraph), (19, S_laws_eqGraph), (20, S_laws_markGraph), (25, S_laws_eqIntS), (26, S_laws_markIntS), (27, S_laws_heldIntS), (33, S_spec_BestCops), (34, S_impl_BestCops)] }
noncomputable def F_laws_FnExactBestCops (N : Nat) (d : (Int × (List (Int × Int × Unit)) × Unit) × Int × Unit) : Option (Bool × Unit) :=
 let a0 : Int × (List (Int × Int × Unit)) × Unit := d.1
 let a1 : Int := d.2.1
 let r1 : Int × Unit := g_laws_szGraph ((a0, ((1048576 : Int), ())))
 if (decide (r1.1 < (0 : Int))) = true then
  some (true, ())
 else
  ((F_laws_toGraph 0) (a0, ())).bind fun r2 =>
  (G_specBest ((r2.1, (a1, ())))).bind fun r3 =>
  ((F_laws_toGraph 0) (a0, ())).bind fun r4 =>
  ((F_impl_BestCops 0) ((r4.1, (a1, ())))).bind fun r5 =>
  (G_eqIntS ((r5.1, (r3.1, ())))).bind fun r6 =>
  if (!r6.1) = true then
   some (false, ())
  else
   if (r5.2.1 != r3.2.1) = true then
    some (false, ())
   else
    if (!(r5.2.2.1 == r3.2.2.1)) = true then
     some (false, ())
    else
     ((F_laws_toGraph 0) (a0, ())).bind fun r7 =>
     ((F_laws_eqGraph 0) ((r4.1, (r7.1, ())))).bind fun r8 =>
     if (!r8.1) = true then
      some (false, ())
     else
      ((F_laws_markGraph 0) ((r4.1, ((1 : Int), ())))).bind fun r9 =>
      if (decide (r9.1 < (0 : Int))) = true then
       some (false, ())
      else
       (G_eqIntS ((r5.1, (r3.1, ())))).bind fun r10 =>
       if (!r10.1) = true then
        some (false, ())
       else
        if (r5.2.1 != r3.2.1) = true then
         some (false, ())
        else
         if (!(r5.2.2.1 == r3.2.2.1)) = true then
          some (false, ())
         else
          (G_markIntS ((r5.1, ((1 : Int), ())))).bind fun r11 =>
          (G_heldIntS ((r11.2.1, ((1 : Int), ())))).bind fun r12 =>
          if (decide (r12.1 < (0 : Int))) = true then
           some (false, ())
          else
           if (r12.1 != r11.1) = true then
            some (false, ())
           else
            ((F_laws_toGraph 0) (a0, ())).bind fun r13 =>
            ((F_impl_BestCops 0) ((r13.1, (a1, ())))).bind fun r14 =>
            (G_eqIntS ((r14.1, (r3.1, ())))).bind fun r15 =>
            if (!r15.1) = true then
             some (false, ())
            else
             if (r14.2.1 != r3.2.1) = true then
              some (false, ())
             else
              if (!(r14.2.2.1 == r3.2.2.1)) = true then
               some (false, ())
              else
               (G_heldIntS ((r11.2.1, ((1 : Int), ())))).bind fun r16 =>
               if (decide (r16.1 < (0 : Int))) = true then
                some (false, ())
               else
                if (r16.1 != r11.1) = true then
                 some (false, ())
                else
                 some (true, ())
theorem F_laws_FnExactBestCops_ok (N : Nat) (d) : fnR Γ_laws_FnExactBestCops (assoc []) true [(K_PiSPiiqq, false), (I, false)] [.bool] Tryz.f7.results.toList (bodyOf Tryz.f7) d = F_laws_FnExactBestCops N d := by kernel_rfl
noncomputable def S_laws_FnExactBestCops : FSig := ⟨[(K_PiSPiiqq, false), (I, false)], [.bool], true, (F_laws_FnExactBestCops 0)⟩
end Go.V.W
set_option linter.unusedVariables false
set_option linter.unusedSimpArgs false
namespace Go.V.W
theorem wrap_nat {m : Nat} (h : m < 9223372036854775808) : IntKind.wrap .i64 (m : Int) = (m : Int) := Go.IntWalk.i64_in _ (by omega)
theorem ofInt_nat (m : Nat) : BitVec.ofInt 64 (m : Int) = BitVec.ofNat 64 m := by simp
theorem bits_or {a b : Nat} (ha : a < 256) (hb : b < 256) : bits .or .i64 (a : Int) (b : Int) = ((a ||| b : Nat) : Int) := by
 have hab : a ||| b < 256 := Nat.or_lt_two_pow (n := 8) ha hb
 have e : (BitVec.ofInt IntKind.i64.bits (a : Int) ||| BitVec.ofInt IntKind.i64.bits (b : Int)).toNat = a ||| b := by
  show (BitVec.ofInt 64 (a : Int) ||| BitVec.ofInt 64 (b : Int)).toNat = a ||| b
  rw [ofInt_nat, ofInt_nat, BitVec.toNat_or, BitVec.toNat_ofNat, BitVec.toNat_ofNat, Nat.mod_eq_of_lt (by omega), Nat.mod_eq_of_lt (by omega)]
 unfold bits bitI
 simp only [Option.getD_some]
 rw [e]
 exact wrap_nat (by omega)
theorem bits_and {a b : Nat} (ha : a < 256) (hb : b < 256) : bits .and .i64 (a : Int) (b : Int) = ((a &&& b : Nat) : Int) := by
 have hab : a &&& b ≤ a := Nat.and_le_left
 have e : (BitVec.ofInt IntKind.i64.bits (a : Int) &&& BitVec.ofInt IntKind.i64.bits (b : Int)).toNat = a &&& b := by
  show (BitVec.ofInt 64 (a : Int) &&& BitVec.ofInt 64 (b : Int)).toNat = a &&& b
  rw [ofInt_nat, ofInt_nat, BitVec.toNat_and, BitVec.toNat_ofNat, BitVec.toNat_ofNat, Nat.mod_eq_of_lt (by omega), Nat.mod_eq_of_lt (by omega)]
 unfold bits bitI
 simp only [Option.getD_some]
 rw [e]
 exact wrap_nat (by omega)
theorem shl_one {y : Nat} (h : y < 8) : shl .i64 1 (y : Int) = ((2 ^ y : Nat) : Int) := by
 have : y = 0 ∨ y = 1 ∨ y = 2 ∨ y = 3 ∨ y = 4 ∨ y = 5 ∨ y = 6 ∨ y = 7 := by omega
 rcases this with rfl | rfl | rfl | rfl | rfl | rfl | rfl | rfl <;> decide
theorem pow_small {y : Nat} (h : y < 8) : 2 ^ y < 256 := by
 have : y = 0 ∨ y = 1 ∨ y = 2 ∨ y = 3 ∨ y = 4 ∨ y = 5 ∨ y = 6 ∨ y = 7 := by omega
 rcases this with rfl | rfl | rfl | rfl | rfl | rfl | rfl | rfl <;> decide
theorem shr_nat {m y : Nat} (h : y < 8) : shr .i64 (m : Int) (y : Int) = ((m >>> y : Nat) : Int) := by
 unfold shr
 have e : min (y : Int).toNat IntKind.i64.bits = y := by
  show min (y : Int).toNat 64 = y
  rw [Int.toNat_natCast]
  omega
 rw [e, Nat.shiftRight_eq_div_pow, Int.fdiv_eq_ediv_of_nonneg _ (by
  have := Nat.two_pow_pos y
  exact_mod_cast Nat.zero_le (2 ^ y))]
 norm_cast
theorem has_bit {m y : Nat} (hm : m < 256) (h : y < 8) : (bits .and .i64 (shr .i64 (m : Int) (y : Int)) 1 == (1 : Int)) = m.testBit y := by
 have h1 : m >>> y < 256 := by
  rw [Nat.shiftRight_eq_div_pow]
  exact Nat.lt_of_le_of_lt (Nat.div_le_self _ _) hm
 rw [shr_nat h]
 have := bits_and h1 (show 1 < 256 by omega)
 rw [show ((1 : Nat) : Int) = 1 from rfl] at this
 rw [this, Nat.testBit_eq_decide_div_mod_eq, Nat.shiftRight_eq_div_pow, Nat.and_one_is_mod]
 have : m / 2 ^ y % 2 = 0 ∨ m / 2 ^ y % 2 = 1 := by omega
 rcases this with h | h <;> simp [h]
def okN (n : Nat) (ms : List Nat) : Prop := ms.length = n ∧ ∀ x, ms.getD x 0 < 256
theorem okN_zero (n : Nat) : okN n (List.replicate n 0) := by
 refine ⟨by simp, fun x => ?_⟩
 simp only [List.getD_eq_getElem?_getD, List.getElem?_replicate]
 split <;> simp
theorem getD_set (ms : List Nat) (a x v : Nat) (h : a < ms.length) : (ms.set a v).getD x 0 = if x = a then v else ms.getD x 0 := by
 simp only [List.getD_eq_getElem?_getD, List.getElem?_set]
 by_cases e : x = a
 ·subst e; simp [h]
 ·simp [e, Ne.symm e]
theorem orN_ok {n : Nat} {ms : List Nat} (h : okN n ms) {a b : Nat} (ha : a < n) (hb : b < 8) : okN n (orN ms a b) := by
 refine ⟨by simp [orN, h.1], fun x => ?_⟩
 unfold orN
 rw [getD_set _ _ _ _ (by rw [h.1]; exact ha)]
 split
 ·exact Nat.or_lt_two_pow (n := 8) (h.2 a) (pow_small hb)
 ·exact h.2 x
theorem orN_bit {n : Nat} {ms : List Nat} (h : okN n ms) {a b : Nat} (ha : a < n) (x y : Nat) : ((orN ms a b).getD x 0).testBit y = ((ms.getD x 0).testBit y || (decide (x = a) && decide (y = b))) := by
 unfold orN
 rw [getD_set _ _ _ _ (by rw [h.1]; exact ha)]
 by_cases e : x = a
 ·subst e
  simp only [if_true, Nat.testBit_or, Nat.testBit_two_pow, decide_true, Bool.true_and]
  congr 1
  by_cases e : y = b
  ·simp [e]
  ·simp [e, Ne.symm e]
 ·simp [e]
theorem edgeB_nat {n : Nat} {e : E} (h : edgeB (n : Int) e = true) : e.1.toNat < e.2.1.toNat ∧ e.2.1.toNat < n ∧ e.1 = (e.1.toNat : Int) ∧ e.2.1 = (e.2.1.toNat : Int) := by
 unfold edgeB at h
 simp only [Bool.and_eq_true, decide_eq_true_eq] at h
 omega
theorem addN_ok {n : Nat} {ms : List Nat} (hn : n ≤ 8) (h : okN n ms) {e : E} (he : edgeB (n : Int) e = true) : okN n (addN ms e) := by
 obtain ⟨h1, h2, _, _⟩ := edgeB_nat he
 exact orN_ok (orN_ok h (by omega) (by omega)) h2 (by omega)
def isE (e : E) (x y : Nat) : Bool := (decide (x = e.1.toNat) && decide (y = e.2.1.toNat)) || (decide (x = e.2.1.toNat) && decide (y = e.1.toNat))
theorem foldN_ok {n : Nat} (hn : n ≤ 8) : ∀ (es : List E) (ms : List Nat), okN n ms → es.all (edgeB (n : Int)) = true → okN n (es.foldl addN ms) ∧ ∀ x y, ((es.foldl addN ms).getD x 0).testBit y = ((ms.getD x 0).testBit y || es.any (fun e => isE e x y)) := by
 intro es
 induction es with
 | nil => intro ms h _; exact ⟨h, fun x y => by simp⟩
 | cons e es ih =>
  intro ms h he
  simp only [List.all_cons, Bool.and_eq_true] at he
  obtain ⟨h1, h2, _, _⟩ := edgeB_nat he.1
  obtain ⟨k1, k2⟩ := ih (addN ms e) (addN_ok hn h he.1) he.2
  refine ⟨k1, fun x y => ?_⟩
  rw [List.foldl_cons, k2 x y]
  unfold addN
  rw [orN_bit (orN_ok h (show e.1.toNat < n by omega) (by omega)) h2, orN_bit h (show e.1.toNat < n by omega)]
  simp only [List.any_cons, isE, Bool.or_assoc]
theorem netN_ok {n : Nat} (hn : n ≤ 8) {es : List E} (h : es.all (edgeB (n : Int)) = true) : okN n (netN n es) := (foldN_ok hn es _ (okN_zero n) h).1
theorem netN_bit {n : Nat} (hn : n ≤ 8) {es : List E} (h : es.all (edgeB (n : Int)) = true) (x y : Nat) : hasN (netN n es) x y = es.any (fun e => isE e x y) := by
 unfold hasN netN
 rw [(foldN_ok hn es _ (okN_zero n) h).2 x y]
 have : ((List.replicate n 0).getD x 0).testBit y = false := by
  simp only [List.getD_eq_getElem?_getD, List.getElem?_replicate]
  split <;> simp
 rw [this, Bool.false_or]
theorem toI_from (ms : List Nat) : fromI (toI ms) = ms := by
 unfold fromI toI
 rw [List.map_map]
 exact List.map_id' _
theorem at_toI (ms : List Nat) (x : Nat) : at_ (.int .i64) (toI ms) x = ((ms.getD x 0 : Nat) : Int) := by
 unfold at_ toI
 simp only [List.getD_eq_getElem?_getD, List.getElem?_map]
 cases ms[x]? <;> rfl
theorem toI_set (ms : List Nat) (x v : Nat) : List.set (toI ms) x (v : Int) = toI (ms.set x v) := by
 simp [toI, List.map_set]
theorem toI_len (ms : List Nat) : (toI ms).length = ms.length := by simp [toI]
end Go.V.W
